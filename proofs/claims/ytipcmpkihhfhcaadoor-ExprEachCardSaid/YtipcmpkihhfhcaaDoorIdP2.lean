import Derived.Test.YtipcmpkihhfhcaaDoorIdP
import Derived.Test.YtipcmpkihhfhcaaDoorLib3
namespace Go.Proofs.YtipcmpkihhfhcaaDoor
open Go.Abs
set_option maxRecDepth 20000
set_option linter.unusedSimpArgs false
set_option linter.unusedVariables false
set_option maxHeartbeats 1000000
attribute [local irreducible] vc vcOps vcStep vcGuard prK hrK gK gsK brK callK ElemK SeqK BlockK ScopeK OpsK CallK LoopK LoopGo finPost ACall PCall PCallE BCall vqOps vqStep vqGuard qrK heK pcK gqK gqsK QOpsK qcallK DrawK
theorem numG_all {t : ByteArray} (h : (bts t).all (fun c => inB 48 57 c.toNat) = false) : numG t = false := by unfold numG; rw [h]; simp
theorem numG_first {t : ByteArray} (h : firstNo0 (bts t) = false) : numG t = false := by unfold numG; rw [h]; simp
theorem firstNo0_at {t : ByteArray} {p : Nat} {c : UInt8} (hc : (bts t)[p]? = some c) (hp : (p : Int) = 0) : firstNo0 (bts t) = !decide (c.toNat = 48) := by
  have : p = 0 := by omega
  subst this
  obtain ⟨l, hl⟩ := bts_cons hc
  rw [hl]; rfl
theorem n92 : (Tryd.f92.name == "runtime.NumGoroutine") = false := by kernel_rfl
theorem number24 (t : ByteArray) : PCall Tryd.prog 92 [.s t] (.b (numG t)) := by
  refine pcall_of_vc tabOK Tryd.func92 n92 rfl (pure_cons (.raw _) pure_nil) (.raw _) (n := 30) rfl (rs := [.tmp 2]) rfl ?_
  simp only [go_sem, Nat.reduceAdd, Nat.reduceSub, Nat.reduceMul, Nat.reduceLT, Nat.reduceLeDiff, Nat.reduceEqDiff, Nat.reduceBEq, Nat.reduceBNe, Nat.reducePow, Int.reduceEq, Int.reduceNe, Int.reduceLT, Int.reduceLE, Int.reduceGT, Int.reduceGE, Int.reduceAdd, Int.reduceSub, Int.reduceNeg, Int.reduceMul, not_true_eq_false, not_false_eq_true, true_and, and_true, Int.reduceToNat]
  refine loop_fr [2, 3, 4, 7, 8, 9, 10, 11, 12, 13, 14, 15, 16, 17, 18, 19, 20, 21] (fun m C hh => ∃ p : Nat, p ≤ t.size ∧ m = t.size - p ∧ (∀ c ∈ (bts t).take p, inB 48 57 c.toNat = true) ∧ (0 < p → firstNo0 (bts t) = true) ∧ C = [] ∧ hh = [.it t p]) t.size _ ⟨0, by omega, by omega, by simp, by omega, rfl, rfl⟩ .nil ?_
  rintro m C j hh ⟨p, hp, rfl, hpi, hf, rfl, rfl⟩
  rcases Nat.lt_or_ge p t.size with hlt | hge
  · obtain ⟨c, hcc⟩ := bts_at hlt
    have hd : decide (p < t.size) = true := decide_eq_true hlt
    by_cases hlo : c.toNat < 128
    · simp only [go_sem, Nat.reduceAdd, Nat.reduceSub, Nat.reduceMul, Nat.reduceLT, Nat.reduceLeDiff, Nat.reduceEqDiff, Nat.reduceBEq, Nat.reduceBNe, Nat.reducePow, Int.reduceEq, Int.reduceNe, Int.reduceLT, Int.reduceLE, Int.reduceGT, Int.reduceGE, Int.reduceAdd, Int.reduceSub, Int.reduceNeg, Int.reduceMul, not_true_eq_false, not_false_eq_true, true_and, and_true, Int.reduceToNat, hd, decode_lo hcc hlo]
      repeat' first
        | (exfalso; omega)
        | simp only [go_sem, Nat.reduceAdd, Nat.reduceSub, Nat.reduceMul, Nat.reduceLT, Nat.reduceLeDiff, Nat.reduceEqDiff, Nat.reduceBEq, Nat.reduceBNe, Nat.reducePow, Int.reduceEq, Int.reduceNe, Int.reduceLT, Int.reduceLE, Int.reduceGT, Int.reduceGE, Int.reduceAdd, Int.reduceSub, Int.reduceNeg, Int.reduceMul, not_true_eq_false, not_false_eq_true, true_and, and_true, Int.reduceToNat]
        | refine brK_dec (fun _ => ?_) (fun _ => ?_)
        | refine gK_dec (fun _ => ?_) (fun _ => ?_)
        | (refine PCall.call (digit20 _) ?_; generalize hdi : inB 48 57 (c.toNat : Nat) = q; cases q)
        | (refine finBq rfl ?_; first
            | (rw [numG_all (all_no (p := fun c => inB 48 57 c.toNat) hcc hdi)])
            | (have hp0 : (p : Int) = 0 := (by assumption); have h48 : c.toNat = 48 := (by omega); have hno : firstNo0 (bts t) = false := (by rw [firstNo0_at hcc hp0, h48]; rfl); rw [numG_first hno]))
        | exact loopFr _ (by omega) ⟨p + 1, by omega, rfl, take_all hpi hcc hdi, fun _ => by
            rcases Nat.eq_zero_or_pos p with h0 | h0
            · have h48 : ¬ c.toNat = 48 := by omega
              rw [firstNo0_at hcc (by omega), decide_eq_false h48]; rfl
            · exact hf h0, rfl, rfl⟩ .nil rfl
    · have hhi := decode_hi hcc (by omega)
      simp only [go_sem, Nat.reduceAdd, Nat.reduceSub, Nat.reduceMul, Nat.reduceLT, Nat.reduceLeDiff, Nat.reduceEqDiff, Nat.reduceBEq, Nat.reduceBNe, Nat.reducePow, Int.reduceEq, Int.reduceNe, Int.reduceLT, Int.reduceLE, Int.reduceGT, Int.reduceGE, Int.reduceAdd, Int.reduceSub, Int.reduceNeg, Int.reduceMul, not_true_eq_false, not_false_eq_true, true_and, and_true, Int.reduceToNat, hd]
      generalize Utf8.decode t p = r at hhi ⊢
      obtain ⟨r, wd⟩ := r
      dsimp only at hhi
      have h3 : inB 48 57 (r : Int) = false := inB_hi (by omega) (by omega)
      have hno : inB 48 57 (c.toNat : Nat) = false := by unfold inB; simp; omega
      repeat' first
        | (exfalso; omega)
        | simp only [go_sem, Nat.reduceAdd, Nat.reduceSub, Nat.reduceMul, Nat.reduceLT, Nat.reduceLeDiff, Nat.reduceEqDiff, Nat.reduceBEq, Nat.reduceBNe, Nat.reducePow, Int.reduceEq, Int.reduceNe, Int.reduceLT, Int.reduceLE, Int.reduceGT, Int.reduceGE, Int.reduceAdd, Int.reduceSub, Int.reduceNeg, Int.reduceMul, not_true_eq_false, not_false_eq_true, true_and, and_true, Int.reduceToNat]
        | refine brK_dec (fun _ => ?_) (fun _ => ?_)
        | refine gK_dec (fun _ => ?_) (fun _ => ?_)
        | (refine PCall.call (digit20 _) ?_; rw [h3])
        | (refine finBq rfl ?_; rw [numG_all (all_no (p := fun c => inB 48 57 c.toNat) hcc hno)])
  · have hd : decide (p < t.size) = false := decide_eq_false (by omega)
    simp only [go_sem, Nat.reduceAdd, Nat.reduceSub, Nat.reduceMul, Nat.reduceLT, Nat.reduceLeDiff, Nat.reduceEqDiff, Nat.reduceBEq, Nat.reduceBNe, Nat.reducePow, Int.reduceEq, Int.reduceNe, Int.reduceLT, Int.reduceLE, Int.reduceGT, Int.reduceGE, Int.reduceAdd, Int.reduceSub, Int.reduceNeg, Int.reduceMul, not_true_eq_false, not_false_eq_true, true_and, and_true, Int.reduceToNat, hd]
    have hall := all_yes (p := fun c => inB 48 57 c.toNat) hpi hge
    repeat' first
      | (exfalso; omega)
      | simp only [go_sem, Nat.reduceAdd, Nat.reduceSub, Nat.reduceMul, Nat.reduceLT, Nat.reduceLeDiff, Nat.reduceEqDiff, Nat.reduceBEq, Nat.reduceBNe, Nat.reducePow, Int.reduceEq, Int.reduceNe, Int.reduceLT, Int.reduceLE, Int.reduceGT, Int.reduceGE, Int.reduceAdd, Int.reduceSub, Int.reduceNeg, Int.reduceMul, not_true_eq_false, not_false_eq_true, true_and, and_true, Int.reduceToNat]
      | refine brK_dec (fun _ => ?_) (fun _ => ?_)
      | refine gK_dec (fun _ => ?_) (fun _ => ?_)
      | (refine finBq rfl ?_; unfold numG; rw [hall]; first | (have h0 : 0 < p := (by omega); have h1 : 1 ≤ t.size := (by omega); rw [hf h0, decide_eq_true h1]; by_cases q : t.size ≤ 3 <;> simp [q] <;> omega) | (have h1 : ¬ 1 ≤ t.size := (by omega); simp [h1]; done))

theorem n78 : (Tryd.f78.name == "runtime.NumGoroutine") = false := by kernel_rfl
theorem part19 (t : ByteArray) (ht : t.size ≤ 1000000000) : PCall Tryd.prog 78 [.s t] (.b (partF t)) := by
  refine pcall_of_vc tabOK Tryd.func78 n78 rfl (by repeat' first | exact pure_nil | refine pure_cons ?_ ?_ | exact .raw _ | exact pure_enc _ | exact pure_lst _ | exact pure_strs _ | exact pure_ints _ | exact DTy.pure _ | exact DTy.pures _ | exact DEnum.pure _ | exact DEnum.pures _ | exact DDecl.pure _ | exact DDecl.pures _ | exact DEq.pure _ | exact DEq.pures _ | exact DNode.pure _ | exact DNode.pures _ | exact DProg.pure _ | exact DProg.pures _ | exact DCond.pure _ | exact DCond.pures _ | exact DAtom.pure _ | exact DAtom.pures _ | exact DPlain.pure _ | exact DPlain.pures _ | exact DVar.pure _ | exact DVar.pures _ | exact DFlow.pure _ | exact DFlow.pures _ | exact DFlows.pure _ | exact DFlows.pures _ | exact DAsked.pure _ | exact DAsked.pures _ | exact DFault.pure _ | exact DFault.pures _ | exact DCell.pure _ | exact DCell.pures _ | exact DReply.pure _ | exact DReply.pures _ | exact DAsk.pure _ | exact DAsk.pures _ | exact DOp.pure _ | exact DOp.pures _ | exact pure_list (fun x => DDecl.pures x) _ | exact .fn _ _ _ pure_nil pure_nil | refine .agg _ ?_ | refine .tup _ ?_ | assumption) (by repeat' first | exact pure_nil | refine pure_cons ?_ ?_ | exact .raw _ | exact pure_enc _ | exact pure_lst _ | exact pure_strs _ | exact pure_ints _ | exact DTy.pure _ | exact DTy.pures _ | exact DEnum.pure _ | exact DEnum.pures _ | exact DDecl.pure _ | exact DDecl.pures _ | exact DEq.pure _ | exact DEq.pures _ | exact DNode.pure _ | exact DNode.pures _ | exact DProg.pure _ | exact DProg.pures _ | exact DCond.pure _ | exact DCond.pures _ | exact DAtom.pure _ | exact DAtom.pures _ | exact DPlain.pure _ | exact DPlain.pures _ | exact DVar.pure _ | exact DVar.pures _ | exact DFlow.pure _ | exact DFlow.pures _ | exact DFlows.pure _ | exact DFlows.pures _ | exact DAsked.pure _ | exact DAsked.pures _ | exact DFault.pure _ | exact DFault.pures _ | exact DCell.pure _ | exact DCell.pures _ | exact DReply.pure _ | exact DReply.pures _ | exact DAsk.pure _ | exact DAsk.pures _ | exact DOp.pure _ | exact DOp.pures _ | exact pure_list (fun x => DDecl.pures x) _ | exact .fn _ _ _ pure_nil pure_nil | refine .agg _ ?_ | refine .tup _ ?_ | assumption) (n := 22) rfl (rs := [.tmp 2]) rfl ?_
  simp only [go_sem, Nat.reduceAdd, Nat.reduceSub, Nat.reduceMul, Nat.reduceLT, Nat.reduceLeDiff, Nat.reduceEqDiff, Nat.reduceBEq, Nat.reduceBNe, Nat.reducePow, Int.reduceEq, Int.reduceNe, Int.reduceLT, Int.reduceLE, Int.reduceGT, Int.reduceGE, Int.reduceAdd, Int.reduceSub, Int.reduceNeg, Int.reduceMul, not_true_eq_false, not_false_eq_true, true_and, and_true, Int.reduceToNat]
  refine PCall.call (cut23 t 46 ht) ?_
  by_cases hc : (46 : UInt8) ∈ bts t
  · obtain ⟨m, h1, h2, h3, h4⟩ := idx_at hc
    unfold cutA
    rw [if_pos hc, if_pos hc, decide_eq_true hc, h1, Int.toNat_natCast, partF_at h2 h3 h4]
    repeat' first
      | simp only [go_sem, Nat.reduceAdd, Nat.reduceSub, Nat.reduceMul, Nat.reduceLT, Nat.reduceLeDiff, Nat.reduceEqDiff, Nat.reduceBEq, Nat.reduceBNe, Nat.reducePow, Int.reduceEq, Int.reduceNe, Int.reduceLT, Int.reduceLE, Int.reduceGT, Int.reduceGE, Int.reduceAdd, Int.reduceSub, Int.reduceNeg, Int.reduceMul, not_true_eq_false, not_false_eq_true, true_and, and_true, Int.reduceToNat]
      | (refine PCall.call (low6 _) ?_; generalize lowF (t.extract 0 m) = q; cases q)
      | (refine PCall.call (number24 _) ?_)
      | exact finBq rfl (by simp)
      | refine gK_split (fun _ => ?_) (fun _ => ?_)
  · unfold cutA
    rw [if_neg hc, if_neg hc, decide_eq_false hc, partF_no hc]
    repeat' first
      | simp only [go_sem, Nat.reduceAdd, Nat.reduceSub, Nat.reduceMul, Nat.reduceLT, Nat.reduceLeDiff, Nat.reduceEqDiff, Nat.reduceBEq, Nat.reduceBNe, Nat.reducePow, Int.reduceEq, Int.reduceNe, Int.reduceLT, Int.reduceLE, Int.reduceGT, Int.reduceGE, Int.reduceAdd, Int.reduceSub, Int.reduceNeg, Int.reduceMul, not_true_eq_false, not_false_eq_true, true_and, and_true, Int.reduceToNat]
      | (refine PCall.call (low6 _) ?_; generalize lowF t = q; cases q)
      | exact finBq rfl (by simp)

theorem n59 : (Tryd.f59.name == "runtime.NumGoroutine") = false := by kernel_rfl
theorem path12 (t : ByteArray) (ht : t.size ≤ 1000000) : PCall Tryd.prog 59 [.s t] (.b (pathF t)) := by
  refine pcall_of_vc tabOK Tryd.func59 n59 rfl (by repeat' first | exact pure_nil | refine pure_cons ?_ ?_ | exact .raw _ | exact pure_enc _ | exact pure_lst _ | exact pure_strs _ | exact pure_ints _ | exact DTy.pure _ | exact DTy.pures _ | exact DEnum.pure _ | exact DEnum.pures _ | exact DDecl.pure _ | exact DDecl.pures _ | exact DEq.pure _ | exact DEq.pures _ | exact DNode.pure _ | exact DNode.pures _ | exact DProg.pure _ | exact DProg.pures _ | exact DCond.pure _ | exact DCond.pures _ | exact DAtom.pure _ | exact DAtom.pures _ | exact DPlain.pure _ | exact DPlain.pures _ | exact DVar.pure _ | exact DVar.pures _ | exact DFlow.pure _ | exact DFlow.pures _ | exact DFlows.pure _ | exact DFlows.pures _ | exact DAsked.pure _ | exact DAsked.pures _ | exact DFault.pure _ | exact DFault.pures _ | exact DCell.pure _ | exact DCell.pures _ | exact DReply.pure _ | exact DReply.pures _ | exact DAsk.pure _ | exact DAsk.pures _ | exact DOp.pure _ | exact DOp.pures _ | exact pure_list (fun x => DDecl.pures x) _ | exact .fn _ _ _ pure_nil pure_nil | refine .agg _ ?_ | refine .tup _ ?_ | assumption) (by repeat' first | exact pure_nil | refine pure_cons ?_ ?_ | exact .raw _ | exact pure_enc _ | exact pure_lst _ | exact pure_strs _ | exact pure_ints _ | exact DTy.pure _ | exact DTy.pures _ | exact DEnum.pure _ | exact DEnum.pures _ | exact DDecl.pure _ | exact DDecl.pures _ | exact DEq.pure _ | exact DEq.pures _ | exact DNode.pure _ | exact DNode.pures _ | exact DProg.pure _ | exact DProg.pures _ | exact DCond.pure _ | exact DCond.pures _ | exact DAtom.pure _ | exact DAtom.pures _ | exact DPlain.pure _ | exact DPlain.pures _ | exact DVar.pure _ | exact DVar.pures _ | exact DFlow.pure _ | exact DFlow.pures _ | exact DFlows.pure _ | exact DFlows.pures _ | exact DAsked.pure _ | exact DAsked.pures _ | exact DFault.pure _ | exact DFault.pures _ | exact DCell.pure _ | exact DCell.pures _ | exact DReply.pure _ | exact DReply.pures _ | exact DAsk.pure _ | exact DAsk.pures _ | exact DOp.pure _ | exact DOp.pures _ | exact pure_list (fun x => DDecl.pures x) _ | exact .fn _ _ _ pure_nil pure_nil | refine .agg _ ?_ | refine .tup _ ?_ | assumption) (n := 16) rfl (rs := [.tmp 2]) rfl ?_
  unfold pathF
  repeat' first
    | exact finB rfl
    | exact finI rfl
    | exact finP rfl
    | exact absurd rfl (by assumption)
    | simp only [go_sem, Nat.reduceAdd, Nat.reduceSub, Nat.reduceMul, Nat.reduceLT, Nat.reduceLeDiff, Nat.reduceEqDiff, Nat.reduceBEq, Nat.reduceBNe, Nat.reducePow, Int.reduceEq, Int.reduceNe, Int.reduceLT, Int.reduceLE, Int.reduceGT, Int.reduceGE, Int.reduceAdd, Int.reduceSub, Int.reduceNeg, Int.reduceMul, not_true_eq_false, not_false_eq_true, true_and, and_true, Int.reduceToNat]
    | (intro _)
    | refine brK_dec (fun _ => ?_) (fun _ => ?_)
    | refine brK_any ?_ ?_
    | refine gK_dec (fun _ => ?_) (fun _ => ?_)
    | refine gK_any ?_ ?_
    | refine gqK_dec (fun _ => ?_) (fun _ => ?_)
    | refine ⟨by omega, ?_⟩
    | refine elemHave (by omega) (by assumption) ?_
    | refine elemMap (by omega) (by omega) (fun x hx => ?_)
    | refine drawK mo (by kernel_rfl) ?_
    | (refine PCall.call (split18 t 47 ht) ?_)
    | (have hle := pieces_le (List.mem_of_getElem? hx); refine PCall.call (part19 x (by omega)) ?_; generalize hpx : partF x = q; cases q)
    | (refine finBq rfl ?_; first | (rw [List.all_eq_true.2 (take_full hpi (by omega))]) | (rw [List.all_eq_false.2 ⟨x, List.mem_of_getElem? hx, by simp [hpx]⟩]))
    | exact loopFrH _ (by omega) ⟨i + 1, by omega, rfl, take_all hpi (by simpa using hx) hpx, rfl⟩ (.next rfl (by omega) .nil) rfl
    | (refine loop_frH [2, 4, 8, 9, 10, 11, 12, 13, 14, 15] (fun mm_ CC_ => ∃ (i : Nat), i ≤ (pieces 47 t).length ∧ mm_ = (pieces 47 t).length - i ∧ (∀ x ∈ (pieces 47 t).take i, partF x = true) ∧ CC_ = [(8, .raw (.int .i64 ((i : Nat) : Int)))]) ((pieces 47 t).length) _ ⟨0, by omega, by omega, by simp, rfl⟩ (.cons rfl .nil) ?_; rintro mm_ CC_ ji ⟨i, hi, rfl, hpi, rfl⟩)

theorem lv1 : lowF ⟨#[97, 95, 49]⟩ = true := by decide +kernel
theorem lv2 : lowF ⟨#[110, 111, 100, 101]⟩ = false := by decide +kernel
theorem lv3 : wordF ⟨#[110, 111, 100, 101]⟩ = true := by decide +kernel
theorem lv4 : highF ⟨#[65]⟩ = true := by decide +kernel
theorem lv5 : pathF ⟨#[97, 47, 98, 46, 49, 50]⟩ = true := by decide +kernel
theorem lv6 : pathF ⟨#[97, 46, 48]⟩ = false := by decide +kernel
theorem lv7 : pathF ⟨#[97, 47, 47, 98]⟩ = false := by decide +kernel
end Go.Proofs.YtipcmpkihhfhcaaDoor
