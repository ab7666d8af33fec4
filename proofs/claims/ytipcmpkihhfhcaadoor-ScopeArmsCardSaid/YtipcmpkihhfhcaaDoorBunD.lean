/-
  IdP2, RightP, Once2, Walk, Walk2, RightP2, AbsW, RightP3, ChkP, ScopeP1, ScopeP2, ScopeP3, ChkP2, ChkP3, ChkP4, ScopeP4, RightR, ChkX, ChkX2, ScopeX1, ScopeX2, ScopeX3, ScopeL: put together.
-/
import Derived.Test.YtipcmpkihhfhcaaDoorBunA
import Derived.Test.YtipcmpkihhfhcaaDoorBunB
import Derived.Test.YtipcmpkihhfhcaaDoorBunC
namespace Go.Proofs.YtipcmpkihhfhcaaDoor
open Go.Abs
set_option maxRecDepth 20000
set_option linter.unusedSimpArgs false
set_option linter.unusedVariables false
set_option maxHeartbeats 1000000
attribute [local irreducible] vc vcOps vcStep vcGuard prK hrK gK gsK brK callK ElemK SeqK BlockK ScopeK OpsK CallK LoopK LoopGo finPost ACall PCall PCallE BCall vqOps vqStep vqGuard qrK heK pcK gqK gqsK QOpsK qcallK DrawK
theorem numG_all {t : ByteArray} (h : (bts t).all (fun c => inB 48 57 c.toNat) = false) : numG t = false := by unfold numG; rw [h]; simp
theorem numG_first {t : ByteArray} (h : firstNo0 (bts t) = false) : numG t = false := by unfold numG; rw [h]; simp
theorem firstNo0_at {t : ByteArray} {p : Nat} {c : UInt8} (hc : (bts t)[p]? = some c) (hp : (p : Int) = 0) : firstNo0 (bts t) = !decide (c.toNat = 48) := by
  have : p = 0 := by omega
  subst this
  obtain ⟨l, hl⟩ := bts_cons hc
  rw [hl]; rfl
theorem n92 : (Tryd.f92.name == "runtime.NumGoroutine") = false := by kernel_rfl
theorem number24 (t : ByteArray) : PCall Tryd.prog 92 [.s t] (.b (numG t)) := by
  refine pcall_of_vc tabOK Tryd.func92 n92 rfl (pure_cons (.raw _) pure_nil) (.raw _) (n := 30) rfl (rs := [.tmp 2]) rfl ?_
  simp only [go_sem, Nat.reduceAdd, Nat.reduceSub, Nat.reduceMul, Nat.reduceLT, Nat.reduceLeDiff, Nat.reduceEqDiff, Nat.reduceBEq, Nat.reduceBNe, Nat.reducePow, Int.reduceEq, Int.reduceNe, Int.reduceLT, Int.reduceLE, Int.reduceGT, Int.reduceGE, Int.reduceAdd, Int.reduceSub, Int.reduceNeg, Int.reduceMul, not_true_eq_false, not_false_eq_true, true_and, and_true, Int.reduceToNat]
  refine loop_fr [2, 3, 4, 7, 8, 9, 10, 11, 12, 13, 14, 15, 16, 17, 18, 19, 20, 21] (fun m C hh => ∃ p : Nat, p ≤ t.size ∧ m = t.size - p ∧ (∀ c ∈ (bts t).take p, inB 48 57 c.toNat = true) ∧ (0 < p → firstNo0 (bts t) = true) ∧ C = [] ∧ hh = [.it t p]) t.size _ ⟨0, by omega, by omega, by simp, by omega, rfl, rfl⟩ .nil ?_
  rintro m C j hh ⟨p, hp, rfl, hpi, hf, rfl, rfl⟩
  rcases Nat.lt_or_ge p t.size with hlt | hge
  · obtain ⟨c, hcc⟩ := bts_at hlt
    have hd : decide (p < t.size) = true := decide_eq_true hlt
    by_cases hlo : c.toNat < 128
    · simp only [go_sem, Nat.reduceAdd, Nat.reduceSub, Nat.reduceMul, Nat.reduceLT, Nat.reduceLeDiff, Nat.reduceEqDiff, Nat.reduceBEq, Nat.reduceBNe, Nat.reducePow, Int.reduceEq, Int.reduceNe, Int.reduceLT, Int.reduceLE, Int.reduceGT, Int.reduceGE, Int.reduceAdd, Int.reduceSub, Int.reduceNeg, Int.reduceMul, not_true_eq_false, not_false_eq_true, true_and, and_true, Int.reduceToNat, hd, decode_lo hcc hlo]
      repeat' first
        | (exfalso; omega)
        | simp only [go_sem, Nat.reduceAdd, Nat.reduceSub, Nat.reduceMul, Nat.reduceLT, Nat.reduceLeDiff, Nat.reduceEqDiff, Nat.reduceBEq, Nat.reduceBNe, Nat.reducePow, Int.reduceEq, Int.reduceNe, Int.reduceLT, Int.reduceLE, Int.reduceGT, Int.reduceGE, Int.reduceAdd, Int.reduceSub, Int.reduceNeg, Int.reduceMul, not_true_eq_false, not_false_eq_true, true_and, and_true, Int.reduceToNat]
        | refine brK_dec (fun _ => ?_) (fun _ => ?_)
        | refine gK_dec (fun _ => ?_) (fun _ => ?_)
        | (refine PCall.call (digit20 _) ?_; generalize hdi : inB 48 57 (c.toNat : Nat) = q; cases q)
        | (refine finBq rfl ?_; first
            | (rw [numG_all (all_no (p := fun c => inB 48 57 c.toNat) hcc hdi)])
            | (have hp0 : (p : Int) = 0 := (by assumption); have h48 : c.toNat = 48 := (by omega); have hno : firstNo0 (bts t) = false := (by rw [firstNo0_at hcc hp0, h48]; rfl); rw [numG_first hno]))
        | exact loopFr _ (by omega) ⟨p + 1, by omega, rfl, take_all hpi hcc hdi, fun _ => by
            rcases Nat.eq_zero_or_pos p with h0 | h0
            · have h48 : ¬ c.toNat = 48 := by omega
              rw [firstNo0_at hcc (by omega), decide_eq_false h48]; rfl
            · exact hf h0, rfl, rfl⟩ .nil rfl
    · have hhi := decode_hi hcc (by omega)
      simp only [go_sem, Nat.reduceAdd, Nat.reduceSub, Nat.reduceMul, Nat.reduceLT, Nat.reduceLeDiff, Nat.reduceEqDiff, Nat.reduceBEq, Nat.reduceBNe, Nat.reducePow, Int.reduceEq, Int.reduceNe, Int.reduceLT, Int.reduceLE, Int.reduceGT, Int.reduceGE, Int.reduceAdd, Int.reduceSub, Int.reduceNeg, Int.reduceMul, not_true_eq_false, not_false_eq_true, true_and, and_true, Int.reduceToNat, hd]
      generalize Utf8.decode t p = r at hhi ⊢
      obtain ⟨r, wd⟩ := r
      dsimp only at hhi
      have h3 : inB 48 57 (r : Int) = false := inB_hi (by omega) (by omega)
      have hno : inB 48 57 (c.toNat : Nat) = false := by unfold inB; simp; omega
      repeat' first
        | (exfalso; omega)
        | simp only [go_sem, Nat.reduceAdd, Nat.reduceSub, Nat.reduceMul, Nat.reduceLT, Nat.reduceLeDiff, Nat.reduceEqDiff, Nat.reduceBEq, Nat.reduceBNe, Nat.reducePow, Int.reduceEq, Int.reduceNe, Int.reduceLT, Int.reduceLE, Int.reduceGT, Int.reduceGE, Int.reduceAdd, Int.reduceSub, Int.reduceNeg, Int.reduceMul, not_true_eq_false, not_false_eq_true, true_and, and_true, Int.reduceToNat]
        | refine brK_dec (fun _ => ?_) (fun _ => ?_)
        | refine gK_dec (fun _ => ?_) (fun _ => ?_)
        | (refine PCall.call (digit20 _) ?_; rw [h3])
        | (refine finBq rfl ?_; rw [numG_all (all_no (p := fun c => inB 48 57 c.toNat) hcc hno)])
  · have hd : decide (p < t.size) = false := decide_eq_false (by omega)
    simp only [go_sem, Nat.reduceAdd, Nat.reduceSub, Nat.reduceMul, Nat.reduceLT, Nat.reduceLeDiff, Nat.reduceEqDiff, Nat.reduceBEq, Nat.reduceBNe, Nat.reducePow, Int.reduceEq, Int.reduceNe, Int.reduceLT, Int.reduceLE, Int.reduceGT, Int.reduceGE, Int.reduceAdd, Int.reduceSub, Int.reduceNeg, Int.reduceMul, not_true_eq_false, not_false_eq_true, true_and, and_true, Int.reduceToNat, hd]
    have hall := all_yes (p := fun c => inB 48 57 c.toNat) hpi hge
    repeat' first
      | (exfalso; omega)
      | simp only [go_sem, Nat.reduceAdd, Nat.reduceSub, Nat.reduceMul, Nat.reduceLT, Nat.reduceLeDiff, Nat.reduceEqDiff, Nat.reduceBEq, Nat.reduceBNe, Nat.reducePow, Int.reduceEq, Int.reduceNe, Int.reduceLT, Int.reduceLE, Int.reduceGT, Int.reduceGE, Int.reduceAdd, Int.reduceSub, Int.reduceNeg, Int.reduceMul, not_true_eq_false, not_false_eq_true, true_and, and_true, Int.reduceToNat]
      | refine brK_dec (fun _ => ?_) (fun _ => ?_)
      | refine gK_dec (fun _ => ?_) (fun _ => ?_)
      | (refine finBq rfl ?_; unfold numG; rw [hall]; first | (have h0 : 0 < p := (by omega); have h1 : 1 ≤ t.size := (by omega); rw [hf h0, decide_eq_true h1]; by_cases q : t.size ≤ 3 <;> simp [q] <;> omega) | (have h1 : ¬ 1 ≤ t.size := (by omega); simp [h1]; done))

theorem n78 : (Tryd.f78.name == "runtime.NumGoroutine") = false := by kernel_rfl
theorem part19 (t : ByteArray) (ht : t.size ≤ 1000000000) : PCall Tryd.prog 78 [.s t] (.b (partF t)) := by
  refine pcall_of_vc tabOK Tryd.func78 n78 rfl (by repeat' first | exact pure_nil | refine pure_cons ?_ ?_ | exact .raw _ | exact pure_enc _ | exact pure_lst _ | exact pure_strs _ | exact pure_ints _ | exact DTy.pure _ | exact DTy.pures _ | exact DEnum.pure _ | exact DEnum.pures _ | exact DDecl.pure _ | exact DDecl.pures _ | exact DEq.pure _ | exact DEq.pures _ | exact DNode.pure _ | exact DNode.pures _ | exact DProg.pure _ | exact DProg.pures _ | exact DCond.pure _ | exact DCond.pures _ | exact DAtom.pure _ | exact DAtom.pures _ | exact DPlain.pure _ | exact DPlain.pures _ | exact DVar.pure _ | exact DVar.pures _ | exact DFlow.pure _ | exact DFlow.pures _ | exact DFlows.pure _ | exact DFlows.pures _ | exact DAsked.pure _ | exact DAsked.pures _ | exact DFault.pure _ | exact DFault.pures _ | exact DCell.pure _ | exact DCell.pures _ | exact DReply.pure _ | exact DReply.pures _ | exact DAsk.pure _ | exact DAsk.pures _ | exact DOp.pure _ | exact DOp.pures _ | exact pure_list (fun x => DDecl.pures x) _ | exact .fn _ _ _ pure_nil pure_nil | refine .agg _ ?_ | refine .tup _ ?_ | assumption) (by repeat' first | exact pure_nil | refine pure_cons ?_ ?_ | exact .raw _ | exact pure_enc _ | exact pure_lst _ | exact pure_strs _ | exact pure_ints _ | exact DTy.pure _ | exact DTy.pures _ | exact DEnum.pure _ | exact DEnum.pures _ | exact DDecl.pure _ | exact DDecl.pures _ | exact DEq.pure _ | exact DEq.pures _ | exact DNode.pure _ | exact DNode.pures _ | exact DProg.pure _ | exact DProg.pures _ | exact DCond.pure _ | exact DCond.pures _ | exact DAtom.pure _ | exact DAtom.pures _ | exact DPlain.pure _ | exact DPlain.pures _ | exact DVar.pure _ | exact DVar.pures _ | exact DFlow.pure _ | exact DFlow.pures _ | exact DFlows.pure _ | exact DFlows.pures _ | exact DAsked.pure _ | exact DAsked.pures _ | exact DFault.pure _ | exact DFault.pures _ | exact DCell.pure _ | exact DCell.pures _ | exact DReply.pure _ | exact DReply.pures _ | exact DAsk.pure _ | exact DAsk.pures _ | exact DOp.pure _ | exact DOp.pures _ | exact pure_list (fun x => DDecl.pures x) _ | exact .fn _ _ _ pure_nil pure_nil | refine .agg _ ?_ | refine .tup _ ?_ | assumption) (n := 22) rfl (rs := [.tmp 2]) rfl ?_
  simp only [go_sem, Nat.reduceAdd, Nat.reduceSub, Nat.reduceMul, Nat.reduceLT, Nat.reduceLeDiff, Nat.reduceEqDiff, Nat.reduceBEq, Nat.reduceBNe, Nat.reducePow, Int.reduceEq, Int.reduceNe, Int.reduceLT, Int.reduceLE, Int.reduceGT, Int.reduceGE, Int.reduceAdd, Int.reduceSub, Int.reduceNeg, Int.reduceMul, not_true_eq_false, not_false_eq_true, true_and, and_true, Int.reduceToNat]
  refine PCall.call (cut23 t 46 ht) ?_
  by_cases hc : (46 : UInt8) ∈ bts t
  · obtain ⟨m, h1, h2, h3, h4⟩ := idx_at hc
    unfold cutA
    rw [if_pos hc, if_pos hc, decide_eq_true hc, h1, Int.toNat_natCast, partF_at h2 h3 h4]
    repeat' first
      | simp only [go_sem, Nat.reduceAdd, Nat.reduceSub, Nat.reduceMul, Nat.reduceLT, Nat.reduceLeDiff, Nat.reduceEqDiff, Nat.reduceBEq, Nat.reduceBNe, Nat.reducePow, Int.reduceEq, Int.reduceNe, Int.reduceLT, Int.reduceLE, Int.reduceGT, Int.reduceGE, Int.reduceAdd, Int.reduceSub, Int.reduceNeg, Int.reduceMul, not_true_eq_false, not_false_eq_true, true_and, and_true, Int.reduceToNat]
      | (refine PCall.call (low6 _) ?_; generalize lowF (t.extract 0 m) = q; cases q)
      | (refine PCall.call (number24 _) ?_)
      | exact finBq rfl (by simp)
      | refine gK_split (fun _ => ?_) (fun _ => ?_)
  · unfold cutA
    rw [if_neg hc, if_neg hc, decide_eq_false hc, partF_no hc]
    repeat' first
      | simp only [go_sem, Nat.reduceAdd, Nat.reduceSub, Nat.reduceMul, Nat.reduceLT, Nat.reduceLeDiff, Nat.reduceEqDiff, Nat.reduceBEq, Nat.reduceBNe, Nat.reducePow, Int.reduceEq, Int.reduceNe, Int.reduceLT, Int.reduceLE, Int.reduceGT, Int.reduceGE, Int.reduceAdd, Int.reduceSub, Int.reduceNeg, Int.reduceMul, not_true_eq_false, not_false_eq_true, true_and, and_true, Int.reduceToNat]
      | (refine PCall.call (low6 _) ?_; generalize lowF t = q; cases q)
      | exact finBq rfl (by simp)

theorem n59 : (Tryd.f59.name == "runtime.NumGoroutine") = false := by kernel_rfl
theorem path12 (t : ByteArray) (ht : t.size ≤ 1000000) : PCall Tryd.prog 59 [.s t] (.b (pathF t)) := by
  refine pcall_of_vc tabOK Tryd.func59 n59 rfl (by repeat' first | exact pure_nil | refine pure_cons ?_ ?_ | exact .raw _ | exact pure_enc _ | exact pure_lst _ | exact pure_strs _ | exact pure_ints _ | exact DTy.pure _ | exact DTy.pures _ | exact DEnum.pure _ | exact DEnum.pures _ | exact DDecl.pure _ | exact DDecl.pures _ | exact DEq.pure _ | exact DEq.pures _ | exact DNode.pure _ | exact DNode.pures _ | exact DProg.pure _ | exact DProg.pures _ | exact DCond.pure _ | exact DCond.pures _ | exact DAtom.pure _ | exact DAtom.pures _ | exact DPlain.pure _ | exact DPlain.pures _ | exact DVar.pure _ | exact DVar.pures _ | exact DFlow.pure _ | exact DFlow.pures _ | exact DFlows.pure _ | exact DFlows.pures _ | exact DAsked.pure _ | exact DAsked.pures _ | exact DFault.pure _ | exact DFault.pures _ | exact DCell.pure _ | exact DCell.pures _ | exact DReply.pure _ | exact DReply.pures _ | exact DAsk.pure _ | exact DAsk.pures _ | exact DOp.pure _ | exact DOp.pures _ | exact pure_list (fun x => DDecl.pures x) _ | exact .fn _ _ _ pure_nil pure_nil | refine .agg _ ?_ | refine .tup _ ?_ | assumption) (by repeat' first | exact pure_nil | refine pure_cons ?_ ?_ | exact .raw _ | exact pure_enc _ | exact pure_lst _ | exact pure_strs _ | exact pure_ints _ | exact DTy.pure _ | exact DTy.pures _ | exact DEnum.pure _ | exact DEnum.pures _ | exact DDecl.pure _ | exact DDecl.pures _ | exact DEq.pure _ | exact DEq.pures _ | exact DNode.pure _ | exact DNode.pures _ | exact DProg.pure _ | exact DProg.pures _ | exact DCond.pure _ | exact DCond.pures _ | exact DAtom.pure _ | exact DAtom.pures _ | exact DPlain.pure _ | exact DPlain.pures _ | exact DVar.pure _ | exact DVar.pures _ | exact DFlow.pure _ | exact DFlow.pures _ | exact DFlows.pure _ | exact DFlows.pures _ | exact DAsked.pure _ | exact DAsked.pures _ | exact DFault.pure _ | exact DFault.pures _ | exact DCell.pure _ | exact DCell.pures _ | exact DReply.pure _ | exact DReply.pures _ | exact DAsk.pure _ | exact DAsk.pures _ | exact DOp.pure _ | exact DOp.pures _ | exact pure_list (fun x => DDecl.pures x) _ | exact .fn _ _ _ pure_nil pure_nil | refine .agg _ ?_ | refine .tup _ ?_ | assumption) (n := 16) rfl (rs := [.tmp 2]) rfl ?_
  unfold pathF
  repeat' first
    | exact finB rfl
    | exact finI rfl
    | exact finP rfl
    | exact absurd rfl (by assumption)
    | simp only [go_sem, Nat.reduceAdd, Nat.reduceSub, Nat.reduceMul, Nat.reduceLT, Nat.reduceLeDiff, Nat.reduceEqDiff, Nat.reduceBEq, Nat.reduceBNe, Nat.reducePow, Int.reduceEq, Int.reduceNe, Int.reduceLT, Int.reduceLE, Int.reduceGT, Int.reduceGE, Int.reduceAdd, Int.reduceSub, Int.reduceNeg, Int.reduceMul, not_true_eq_false, not_false_eq_true, true_and, and_true, Int.reduceToNat]
    | (intro _)
    | refine brK_dec (fun _ => ?_) (fun _ => ?_)
    | refine brK_any ?_ ?_
    | refine gK_dec (fun _ => ?_) (fun _ => ?_)
    | refine gK_any ?_ ?_
    | refine gqK_dec (fun _ => ?_) (fun _ => ?_)
    | refine ⟨by omega, ?_⟩
    | refine elemHave (by omega) (by assumption) ?_
    | refine elemMap (by omega) (by omega) (fun x hx => ?_)
    | refine drawK mo (by kernel_rfl) ?_
    | (refine PCall.call (split18 t 47 ht) ?_)
    | (have hle := pieces_le (List.mem_of_getElem? hx); refine PCall.call (part19 x (by omega)) ?_; generalize hpx : partF x = q; cases q)
    | (refine finBq rfl ?_; first | (rw [List.all_eq_true.2 (take_full hpi (by omega))]) | (rw [List.all_eq_false.2 ⟨x, List.mem_of_getElem? hx, by simp [hpx]⟩]))
    | exact loopFrH _ (by omega) ⟨i + 1, by omega, rfl, take_all hpi (by simpa using hx) hpx, rfl⟩ (.next rfl (by omega) .nil) rfl
    | (refine loop_frH [2, 4, 8, 9, 10, 11, 12, 13, 14, 15] (fun mm_ CC_ => ∃ (i : Nat), i ≤ (pieces 47 t).length ∧ mm_ = (pieces 47 t).length - i ∧ (∀ x ∈ (pieces 47 t).take i, partF x = true) ∧ CC_ = [(8, .raw (.int .i64 ((i : Nat) : Int)))]) ((pieces 47 t).length) _ ⟨0, by omega, by omega, by simp, rfl⟩ (.cons rfl .nil) ?_; rintro mm_ CC_ ji ⟨i, hi, rfl, hpi, rfl⟩)

theorem lv1 : lowF ⟨#[97, 95, 49]⟩ = true := by decide +kernel
theorem lv2 : lowF ⟨#[110, 111, 100, 101]⟩ = false := by decide +kernel
theorem lv3 : wordF ⟨#[110, 111, 100, 101]⟩ = true := by decide +kernel
theorem lv4 : highF ⟨#[65]⟩ = true := by decide +kernel
theorem lv5 : pathF ⟨#[97, 47, 98, 46, 49, 50]⟩ = true := by decide +kernel
theorem lv6 : pathF ⟨#[97, 46, 48]⟩ = false := by decide +kernel
theorem lv7 : pathF ⟨#[97, 47, 47, 98]⟩ = false := by decide +kernel
end Go.Proofs.YtipcmpkihhfhcaaDoor

namespace Go.Proofs.YtipcmpkihhfhcaaDoor
open Go.Abs
set_option maxRecDepth 20000
set_option linter.unusedSimpArgs false
set_option linter.unusedVariables false
set_option maxHeartbeats 1000000
attribute [local irreducible] vc vcOps vcStep vcGuard prK hrK gK gsK brK callK ElemK SeqK BlockK ScopeK OpsK CallK LoopK LoopGo finPost ACall PCall PCallE BCall vqOps vqStep vqGuard qrK heK pcK gqK gqsK QOpsK qcallK DrawK
theorem n40 : (Tryd.f40.name == "runtime.NumGoroutine") = false := by kernel_rfl
theorem nothing88 (e : Ex) (n : Int) : PCall Tryd.prog 40 [e.enc, .i n] (nothingE e n).enc := by
  refine pcall_of_vc tabOK Tryd.func40 n40 rfl (by repeat' first | exact pure_nil | refine pure_cons ?_ ?_ | exact .raw _ | exact pure_enc _ | exact pure_lst _ | exact pure_strs _ | exact pure_ints _ | exact DTy.pure _ | exact DTy.pures _ | exact DEnum.pure _ | exact DEnum.pures _ | exact DDecl.pure _ | exact DDecl.pures _ | exact DEq.pure _ | exact DEq.pures _ | exact DNode.pure _ | exact DNode.pures _ | exact DProg.pure _ | exact DProg.pures _ | exact DCond.pure _ | exact DCond.pures _ | exact DAtom.pure _ | exact DAtom.pures _ | exact DPlain.pure _ | exact DPlain.pures _ | exact DVar.pure _ | exact DVar.pures _ | exact DFlow.pure _ | exact DFlow.pures _ | exact DFlows.pure _ | exact DFlows.pures _ | exact DAsked.pure _ | exact DAsked.pures _ | exact DFault.pure _ | exact DFault.pures _ | exact DCell.pure _ | exact DCell.pures _ | exact DReply.pure _ | exact DReply.pures _ | exact DAsk.pure _ | exact DAsk.pures _ | exact DOp.pure _ | exact DOp.pures _ | exact pure_list (fun x => DDecl.pures x) _ | exact .fn _ _ _ pure_nil pure_nil | refine .agg _ ?_ | refine .tup _ ?_ | assumption) (DRule.pure _) (n := 17) rfl (rs := [.cell 4 67]) rfl ?_
  repeat' first
    | simp only [go_sem, Nat.reduceAdd, Nat.reduceSub, Nat.reduceMul, Nat.reduceLT, Nat.reduceLeDiff, Nat.reduceEqDiff, Nat.reduceBEq, Nat.reduceBNe, Nat.reducePow, Int.reduceEq, Int.reduceNe, Int.reduceLT, Int.reduceLE, Int.reduceGT, Int.reduceGE, Int.reduceAdd, Int.reduceSub, Int.reduceNeg, Int.reduceMul, not_true_eq_false, not_false_eq_true, true_and, and_true, Int.reduceToNat]
    | (refine drawC [1] mo (by kernel_rfl) ?_)
    | exact finRule rfl rfl
theorem n39 : (Tryd.f39.name == "runtime.NumGoroutine") = false := by kernel_rfl
theorem leaf87 (e : Ex) (hn : e.name.size ≤ 1000000) : PCall Tryd.prog 39 [e.enc] (leafE e).enc := by
  refine pcall_of_vc tabOK Tryd.func39 n39 rfl (by repeat' first | exact pure_nil | refine pure_cons ?_ ?_ | exact .raw _ | exact pure_enc _ | exact pure_lst _ | exact pure_strs _ | exact pure_ints _ | exact DTy.pure _ | exact DTy.pures _ | exact DEnum.pure _ | exact DEnum.pures _ | exact DDecl.pure _ | exact DDecl.pures _ | exact DEq.pure _ | exact DEq.pures _ | exact DNode.pure _ | exact DNode.pures _ | exact DProg.pure _ | exact DProg.pures _ | exact DCond.pure _ | exact DCond.pures _ | exact DAtom.pure _ | exact DAtom.pures _ | exact DPlain.pure _ | exact DPlain.pures _ | exact DVar.pure _ | exact DVar.pures _ | exact DFlow.pure _ | exact DFlow.pures _ | exact DFlows.pure _ | exact DFlows.pures _ | exact DAsked.pure _ | exact DAsked.pures _ | exact DFault.pure _ | exact DFault.pures _ | exact DCell.pure _ | exact DCell.pures _ | exact DReply.pure _ | exact DReply.pures _ | exact DAsk.pure _ | exact DAsk.pures _ | exact DOp.pure _ | exact DOp.pures _ | exact pure_list (fun x => DDecl.pures x) _ | exact .fn _ _ _ pure_nil pure_nil | refine .agg _ ?_ | refine .tup _ ?_ | assumption) (DRule.pure _) (n := 44) rfl (rs := [.cell 2 67]) rfl ?_
  simp only [go_sem, Nat.reduceAdd, Nat.reduceSub, Nat.reduceMul, Nat.reduceLT, Nat.reduceLeDiff, Nat.reduceEqDiff, Nat.reduceBEq, Nat.reduceBNe, Nat.reducePow, Int.reduceEq, Int.reduceNe, Int.reduceLT, Int.reduceLE, Int.reduceGT, Int.reduceGE, Int.reduceAdd, Int.reduceSub, Int.reduceNeg, Int.reduceMul, not_true_eq_false, not_false_eq_true, true_and, and_true, Int.reduceToNat]
  refine PCall.call (nothing88 e 0) ?_
  repeat' first
    | simp only [go_sem, Nat.reduceAdd, Nat.reduceSub, Nat.reduceMul, Nat.reduceLT, Nat.reduceLeDiff, Nat.reduceEqDiff, Nat.reduceBEq, Nat.reduceBNe, Nat.reducePow, Int.reduceEq, Int.reduceNe, Int.reduceLT, Int.reduceLE, Int.reduceGT, Int.reduceGE, Int.reduceAdd, Int.reduceSub, Int.reduceNeg, Int.reduceMul, not_true_eq_false, not_false_eq_true, true_and, and_true, Int.reduceToNat, nothingE]
    | refine brK_dec (fun _ => ?_) (fun _ => ?_)
    | refine gK_dec (fun _ => ?_) (fun _ => ?_)
    | refine PCall.call (low6 _) ?_
    | refine PCall.call (high8 _) ?_
    | refine PCall.call (path12 _ hn) ?_
    | (refine drawC [2] mo (by kernel_rfl) ?_)
    | (exact finRule rfl (by simp [leafE, nothingE, *]))
theorem ofA_eq (x : DRule) : x.enc = .agg [.b x.number, .b x.name, .b x.op, .i x.least, .i x.most, .i x.arms] := rfl
theorem n29 : (Tryd.f29.name == "runtime.NumGoroutine") = false := by kernel_rfl
theorem of68 (e : Ex) (hn : e.name.size ≤ 1000000) : PCall Tryd.prog 29 [e.enc] (ruleA (ofE e)) := by
  refine pcall_of_vc tabOK Tryd.func29 n29 rfl (by repeat' first | exact pure_nil | refine pure_cons ?_ ?_ | exact .raw _ | exact pure_enc _ | exact pure_lst _ | exact pure_strs _ | exact pure_ints _ | exact DTy.pure _ | exact DTy.pures _ | exact DEnum.pure _ | exact DEnum.pures _ | exact DDecl.pure _ | exact DDecl.pures _ | exact DEq.pure _ | exact DEq.pures _ | exact DNode.pure _ | exact DNode.pures _ | exact DProg.pure _ | exact DProg.pures _ | exact DCond.pure _ | exact DCond.pures _ | exact DAtom.pure _ | exact DAtom.pures _ | exact DPlain.pure _ | exact DPlain.pures _ | exact DVar.pure _ | exact DVar.pures _ | exact DFlow.pure _ | exact DFlow.pures _ | exact DFlows.pure _ | exact DFlows.pures _ | exact DAsked.pure _ | exact DAsked.pures _ | exact DFault.pure _ | exact DFault.pures _ | exact DCell.pure _ | exact DCell.pures _ | exact DReply.pure _ | exact DReply.pures _ | exact DAsk.pure _ | exact DAsk.pures _ | exact DOp.pure _ | exact DOp.pures _ | exact pure_list (fun x => DDecl.pures x) _ | exact .fn _ _ _ pure_nil pure_nil | refine .agg _ ?_ | refine .tup _ ?_ | assumption) (pure_ruleA _) (n := 106) rfl (rs := [.cell 2 67, .tmp 3]) rfl ?_
  repeat' first
    | (exfalso; omega)
    | simp only [go_sem, Nat.reduceAdd, Nat.reduceSub, Nat.reduceMul, Nat.reduceLT, Nat.reduceLeDiff, Nat.reduceEqDiff, Nat.reduceBEq, Nat.reduceBNe, Nat.reducePow, Int.reduceEq, Int.reduceNe, Int.reduceLT, Int.reduceLE, Int.reduceGT, Int.reduceGE, Int.reduceAdd, Int.reduceSub, Int.reduceNeg, Int.reduceMul, not_true_eq_false, not_false_eq_true, true_and, and_true, Int.reduceToNat, nothingE]
    | (intro _)
    | refine brK_dec (fun _ => ?_) (fun _ => ?_)
    | refine gK_dec (fun _ => ?_) (fun _ => ?_)
    | refine gqK_dec (fun _ => ?_) (fun _ => ?_)
    | refine PCall.call (low6 _) ?_
    | refine pcK_of (low6 _) ?_
    | refine PCall.call (leaf87 e hn) ?_
    | refine PCall.call (nothing88 e _) ?_
    | (refine drawC [2] mo (by kernel_rfl) ?_)
    | (exact finRule2 rfl (by simp [ofE, nothingE, *]))
    | (exact finRule2 rfl (by simp [ofE, nothingE, *] <;> omega))
end Go.Proofs.YtipcmpkihhfhcaaDoor

namespace Go.Proofs.YtipcmpkihhfhcaaDoor
open Go.Abs
set_option maxRecDepth 20000
set_option linter.unusedSimpArgs false
set_option linter.unusedVariables false
set_option maxHeartbeats 1000000
attribute [local irreducible] vc vcOps vcStep vcGuard prK hrK gK gsK brK callK ElemK SeqK BlockK ScopeK OpsK CallK LoopK LoopGo finPost ACall PCall PCallE BCall vqOps vqStep vqGuard qrK heK pcK gqK gqsK QOpsK qcallK DrawK
theorem n30 : (Tryd.f30.name == "runtime.NumGoroutine") = false := by kernel_rfl
theorem once12 (l : List ByteArray) : PCall Tryd.prog 30 [.lst 1 (l.map AV.s) none] (.b (onceB l)) := by
  refine pcall_of_vc tabOK Tryd.func30 n30 rfl (pure_cons (pure_strs _) pure_nil) (.raw _) (n := 22) rfl (rs := [.tmp 2]) rfl ?_
  simp only [go_sem, Nat.reduceAdd, Nat.reduceSub, Nat.reduceMul, Nat.reduceLT, Nat.reduceLeDiff, Nat.reduceEqDiff, Nat.reduceBEq, Nat.reduceBNe, Nat.reducePow, Int.reduceEq, Int.reduceNe, Int.reduceLT, Int.reduceLE, Int.reduceGT, Int.reduceGE, Int.reduceAdd, Int.reduceSub, Int.reduceNeg, Int.reduceMul, not_true_eq_false, not_false_eq_true, true_and, and_true, Int.reduceToNat]
  intro _
  refine loop_fr [2, 5, 9, 10, 11, 12, 13, 14, 15, 16, 17, 18, 19, 20, 21] (fun m C hh => ∃ (i n : Nat) (f : Value → Option AV), i ≤ l.length ∧ m = l.length - i ∧ (l.take i).Nodup ∧ MapN f (fun s => 0 + cntL s (l.take i)) ∧ C = [(9, .raw (.int .i64 (i : Nat)))] ∧ hh = [.mp .str n f]) l.length _ ⟨0, 0, _, by omega, by omega, by simp, MapN.nil.cast (fun s => by simp [cntL]), rfl, rfl⟩ (.cons rfl .nil) ?_
  rintro m C j hh ⟨i, n, f, hi, rfl, hN, hM, rfl, rfl⟩
  simp only [go_sem, Nat.reduceAdd, Nat.reduceSub, Nat.reduceMul, Nat.reduceLT, Nat.reduceLeDiff, Nat.reduceEqDiff, Nat.reduceBEq, Nat.reduceBNe, Nat.reducePow, Int.reduceEq, Int.reduceNe, Int.reduceLT, Int.reduceLE, Int.reduceGT, Int.reduceGE, Int.reduceAdd, Int.reduceSub, Int.reduceNeg, Int.reduceMul, not_true_eq_false, not_false_eq_true, true_and, and_true, Int.reduceToNat]
  refine brK_dec (fun hlt => ?_) (fun hge => ?_)
  · simp only [go_sem, Nat.reduceAdd, Nat.reduceSub, Nat.reduceMul, Nat.reduceLT, Nat.reduceLeDiff, Nat.reduceEqDiff, Nat.reduceBEq, Nat.reduceBNe, Nat.reducePow, Int.reduceEq, Int.reduceNe, Int.reduceLT, Int.reduceLE, Int.reduceGT, Int.reduceGE, Int.reduceAdd, Int.reduceSub, Int.reduceNeg, Int.reduceMul, not_true_eq_false, not_false_eq_true, true_and, and_true, Int.reduceToNat]
    refine elemMap (by omega) (by omega) (fun x hx => ?_)
    have hx' : l[i]? = some x := by simpa using hx
    have hMx := hM x
    have hle := cntL_le x (l.take i)
    rw [List.length_take] at hle
    simp only [go_sem, Nat.reduceAdd, Nat.reduceSub, Nat.reduceMul, Nat.reduceLT, Nat.reduceLeDiff, Nat.reduceEqDiff, Nat.reduceBEq, Nat.reduceBNe, Nat.reducePow, Int.reduceEq, Int.reduceNe, Int.reduceLT, Int.reduceLE, Int.reduceGT, Int.reduceGE, Int.reduceAdd, Int.reduceSub, Int.reduceNeg, Int.reduceMul, not_true_eq_false, not_false_eq_true, true_and, and_true, Int.reduceToNat, hMx]
    refine brK_dec (fun hp => ?_) (fun hp => ?_)
    · simp only [go_sem, Nat.reduceAdd, Nat.reduceSub, Nat.reduceMul, Nat.reduceLT, Nat.reduceLeDiff, Nat.reduceEqDiff, Nat.reduceBEq, Nat.reduceBNe, Nat.reducePow, Int.reduceEq, Int.reduceNe, Int.reduceLT, Int.reduceLE, Int.reduceGT, Int.reduceGE, Int.reduceAdd, Int.reduceSub, Int.reduceNeg, Int.reduceMul, not_true_eq_false, not_false_eq_true, true_and, and_true, Int.reduceToNat]
      refine finBq rfl ?_
      rw [onceB_no]
      refine nodup_bad hx' ?_
      by_cases hm : x ∈ l.take i
      · exact hm
      · have := cntL_zero hm
        exfalso; omega
    · simp only [go_sem, Nat.reduceAdd, Nat.reduceSub, Nat.reduceMul, Nat.reduceLT, Nat.reduceLeDiff, Nat.reduceEqDiff, Nat.reduceBEq, Nat.reduceBNe, Nat.reducePow, Int.reduceEq, Int.reduceNe, Int.reduceLT, Int.reduceLE, Int.reduceGT, Int.reduceGE, Int.reduceAdd, Int.reduceSub, Int.reduceNeg, Int.reduceMul, not_true_eq_false, not_false_eq_true, true_and, and_true, Int.reduceToNat, hMx]
      have hm : x ∉ l.take i := fun hm => by have := cntL_mem hm; omega
      exact loopFr _ (by omega) ⟨i + 1, _, _, by omega, rfl, nodup_step hN hx' hm, (by have h := hM.upW hx (by omega); simpa only [Nat.zero_add] using h), rfl, rfl⟩ (.next rfl (by omega) .nil) rfl
  · simp only [go_sem, Nat.reduceAdd, Nat.reduceSub, Nat.reduceMul, Nat.reduceLT, Nat.reduceLeDiff, Nat.reduceEqDiff, Nat.reduceBEq, Nat.reduceBNe, Nat.reducePow, Int.reduceEq, Int.reduceNe, Int.reduceLT, Int.reduceLE, Int.reduceGT, Int.reduceGE, Int.reduceAdd, Int.reduceSub, Int.reduceNeg, Int.reduceMul, not_true_eq_false, not_false_eq_true, true_and, and_true, Int.reduceToNat]
    exact finBq rfl (nodup_all hN (by omega)).symm
end Go.Proofs.YtipcmpkihhfhcaaDoor

namespace Go.Proofs.YtipcmpkihhfhcaaDoor
open Go.Abs
set_option maxRecDepth 20000
set_option linter.unusedSimpArgs false
set_option linter.unusedVariables false
set_option maxHeartbeats 1000000
attribute [local irreducible] vc vcOps vcStep vcGuard prK hrK gK gsK brK callK ElemK SeqK BlockK ScopeK OpsK CallK LoopK LoopGo finPost ACall PCall PCallE BCall vqOps vqStep vqGuard qrK heK pcK gqK gqsK QOpsK qcallK DrawK
theorem parts_sub {L : List Ex} {e : Ex} {n i : Nat} {x : Ex} (hL : ∀ (k : Nat) y, (parts e)[k]? = some y → L[n + k]? = some y) (hx : e.subs[i]? = some x) :
    ∀ (k : Nat) y, (parts x)[k]? = some y → L[n + 1 + (partsL (e.subs.take i)).length + k]? = some y := by
  obtain ⟨hi, rfl⟩ := List.getElem?_eq_some_iff.1 hx
  intro k y hy
  have h1 := partsL_take hi
  have h2 : partsL e.subs = partsL (e.subs.take i) ++ parts e.subs[i] ++ partsL (e.subs.drop (i + 1)) := by
    rw [← h1, ← partsL_append, List.take_append_drop]
  have := hL (1 + (partsL (e.subs.take i)).length + k) y (by
    rw [parts_eq, h2, show 1 + (partsL (e.subs.take i)).length + k = ((partsL (e.subs.take i)).length + k) + 1 by omega, List.getElem?_cons_succ, List.append_assoc, List.getElem?_append_right (by omega), show (partsL (e.subs.take i)).length + k - (partsL (e.subs.take i)).length = k by omega,
      List.getElem?_append_left (List.getElem?_eq_some_iff.1 hy).1]
    exact hy)
  rw [show n + 1 + (partsL (e.subs.take i)).length + k = n + (1 + (partsL (e.subs.take i)).length + k) by omega]
  exact this
theorem n23 : (Tryd.f23.name == "runtime.NumGoroutine") = false := by kernel_rfl
theorem walk53 (yl m0 : Nat) (L : List Ex) (I : Nat → List Blk → Prop) (St : List Blk → Prop) (hlen : ∀ n h, I n h → h.length = m0) (hst : ∀ h, St h → h.length = m0)
    (hy : ∀ n x h r (K : AV → List Blk → Prop), L[n]? = some x → I n h → (∀ h' r', I (n + 1) h' → K (.b true) (h' ++ (r ++ r'))) → (∀ h' r', St h' → K (.b false) (h' ++ (r ++ r'))) → YCall Tryd.prog yl [x.enc] (h ++ r) K) :
    ∀ (e : Ex) (n : Nat) (h r : List Blk) (K : AV → List Blk → Prop), (∀ (k : Nat) y, (parts e)[k]? = some y → L[n + k]? = some y) → I n h →
      (∀ h' r', I (n + (parts e).length) h' → K (.b true) (h' ++ (r ++ r'))) → (∀ h' r', St h' → K (.b false) (h' ++ (r ++ r'))) → ACall Tryd.prog 23 [e.enc, .fn (.yield yl) [] []] (h ++ r) K := by
  intro e
  induction e using Ex.ind with
  | _ e ih =>
  intro n h r K hL hI hT hF
  refine acallK_of_vc tabOK Tryd.func23 n23 rfl (n := 23) rfl (rs := [.tmp 4]) rfl ?_
  simp only [go_sem, Nat.reduceAdd, Nat.reduceSub, Nat.reduceMul, Nat.reduceLT, Nat.reduceLeDiff, Nat.reduceEqDiff, Nat.reduceBEq, Nat.reduceBNe, Nat.reducePow, Int.reduceEq, Int.reduceNe, Int.reduceLT, Int.reduceLE, Int.reduceGT, Int.reduceGE, Int.reduceAdd, Int.reduceSub, Int.reduceNeg, Int.reduceMul, not_true_eq_false, not_false_eq_true, true_and, and_true, Int.reduceToNat]
  have h0 : L[n]? = some e := by have := hL 0 e (by rw [parts_eq]; rfl); simpa using this
  have hm := hlen _ _ hI
  refine hy n e h (r ++ [exBx e]) _ h0 hI (fun h1 r1 hI1 => ?_) (fun h1 r1 hS1 => ?_)
  · have hm1 := hlen _ _ hI1
    have hbox : (h1 ++ (r ++ exBx e :: r1))[h.length + r.length]? = some (.cells 25 [.i e.kind, .i e.n, .s e.name, .i e.op, .lst 1 (e.arms.map AV.s) none, .lst 6 (e.subs.map Ex.enc) none]) := by
      rw [List.getElem?_append_right (by omega), List.getElem?_append_right (by omega)]
      rw [show h.length + r.length - h1.length - r.length = 0 by omega]; rfl
    simp only [go_sem, Nat.reduceAdd, Nat.reduceSub, Nat.reduceMul, Nat.reduceLT, Nat.reduceLeDiff, Nat.reduceEqDiff, Nat.reduceBEq, Nat.reduceBNe, Nat.reducePow, Int.reduceEq, Int.reduceNe, Int.reduceLT, Int.reduceLE, Int.reduceGT, Int.reduceGE, Int.reduceAdd, Int.reduceSub, Int.reduceNeg, Int.reduceMul, not_true_eq_false, not_false_eq_true, true_and, and_true, Int.reduceToNat, hbox]
    intro _
    refine loop_fr [4, 6, 14, 15, 16, 17, 18, 19, 20, 21, 22] (fun m C hh => ∃ (i : Nat) (h' r' : List Blk), i ≤ e.subs.length ∧ m = e.subs.length - i ∧ I (n + 1 + (partsL (e.subs.take i)).length) h' ∧ C = [(14, .raw (.int .i64 (i : Nat)))] ∧ hh = h' ++ (r ++ exBx e :: r')) e.subs.length _ ⟨0, h1, r1, by omega, by omega, by simpa [partsL] using hI1, rfl, rfl⟩ (.cons rfl .nil) ?_
    rintro m C j hh ⟨i, h', r', hi, rfl, hI', rfl, rfl⟩
    simp only [go_sem, Nat.reduceAdd, Nat.reduceSub, Nat.reduceMul, Nat.reduceLT, Nat.reduceLeDiff, Nat.reduceEqDiff, Nat.reduceBEq, Nat.reduceBNe, Nat.reducePow, Int.reduceEq, Int.reduceNe, Int.reduceLT, Int.reduceLE, Int.reduceGT, Int.reduceGE, Int.reduceAdd, Int.reduceSub, Int.reduceNeg, Int.reduceMul, not_true_eq_false, not_false_eq_true, true_and, and_true, Int.reduceToNat]
    refine brK_dec (fun hlt => ?_) (fun hge => ?_)
    · simp only [go_sem, Nat.reduceAdd, Nat.reduceSub, Nat.reduceMul, Nat.reduceLT, Nat.reduceLeDiff, Nat.reduceEqDiff, Nat.reduceBEq, Nat.reduceBNe, Nat.reducePow, Int.reduceEq, Int.reduceNe, Int.reduceLT, Int.reduceLE, Int.reduceGT, Int.reduceGE, Int.reduceAdd, Int.reduceSub, Int.reduceNeg, Int.reduceMul, not_true_eq_false, not_false_eq_true, true_and, and_true, Int.reduceToNat]
      refine elemMap (by omega) (by omega) (fun x hx => ?_)
      have hx' : e.subs[i]? = some x := by simpa using hx
      simp only [go_sem, Nat.reduceAdd, Nat.reduceSub, Nat.reduceMul, Nat.reduceLT, Nat.reduceLeDiff, Nat.reduceEqDiff, Nat.reduceBEq, Nat.reduceBNe, Nat.reducePow, Int.reduceEq, Int.reduceNe, Int.reduceLT, Int.reduceLE, Int.reduceGT, Int.reduceGE, Int.reduceAdd, Int.reduceSub, Int.reduceNeg, Int.reduceMul, not_true_eq_false, not_false_eq_true, true_and, and_true, Int.reduceToNat]
      refine ih x (List.mem_of_getElem? hx') (n + 1 + (partsL (e.subs.take i)).length) h' (r ++ exBx e :: (r' ++ [exBx x])) _ (parts_sub hL hx') hI' (fun h2 r2 hI2 => ?_) (fun h2 r2 hS2 => ?_)
      · simp only [go_sem, Nat.reduceAdd, Nat.reduceSub, Nat.reduceMul, Nat.reduceLT, Nat.reduceLeDiff, Nat.reduceEqDiff, Nat.reduceBEq, Nat.reduceBNe, Nat.reducePow, Int.reduceEq, Int.reduceNe, Int.reduceLT, Int.reduceLE, Int.reduceGT, Int.reduceGE, Int.reduceAdd, Int.reduceSub, Int.reduceNeg, Int.reduceMul, not_true_eq_false, not_false_eq_true, true_and, and_true, Int.reduceToNat]
        exact loopFr _ (by omega) ⟨i + 1, h2, r' ++ (exBx x :: r2), by omega, rfl, by rw [parts_len hx', ← Nat.add_assoc]; exact hI2, rfl, by simp⟩ (.next rfl (by omega) .nil) rfl
      · simp only [go_sem, Nat.reduceAdd, Nat.reduceSub, Nat.reduceMul, Nat.reduceLT, Nat.reduceLeDiff, Nat.reduceEqDiff, Nat.reduceBEq, Nat.reduceBNe, Nat.reducePow, Int.reduceEq, Int.reduceNe, Int.reduceLT, Int.reduceLE, Int.reduceGT, Int.reduceGE, Int.reduceAdd, Int.reduceSub, Int.reduceNeg, Int.reduceMul, not_true_eq_false, not_false_eq_true, true_and, and_true, Int.reduceToNat]
        exact finK (r := .b false) rfl (by have := hF h2 (exBx e :: (r' ++ (exBx x :: r2))) hS2; simpa using this)
    · simp only [go_sem, Nat.reduceAdd, Nat.reduceSub, Nat.reduceMul, Nat.reduceLT, Nat.reduceLeDiff, Nat.reduceEqDiff, Nat.reduceBEq, Nat.reduceBNe, Nat.reducePow, Int.reduceEq, Int.reduceNe, Int.reduceLT, Int.reduceLE, Int.reduceGT, Int.reduceGE, Int.reduceAdd, Int.reduceSub, Int.reduceNeg, Int.reduceMul, not_true_eq_false, not_false_eq_true, true_and, and_true, Int.reduceToNat]
      have hie : i = e.subs.length := by omega
      subst hie
      rw [List.take_length] at hI'
      exact finK rfl (hT h' (exBx e :: r') (by rw [parts_eq, List.length_cons, show n + ((partsL e.subs).length + 1) = n + 1 + (partsL e.subs).length by omega]; exact hI'))
  · simp only [go_sem, Nat.reduceAdd, Nat.reduceSub, Nat.reduceMul, Nat.reduceLT, Nat.reduceLeDiff, Nat.reduceEqDiff, Nat.reduceBEq, Nat.reduceBNe, Nat.reducePow, Int.reduceEq, Int.reduceNe, Int.reduceLT, Int.reduceLE, Int.reduceGT, Int.reduceGE, Int.reduceAdd, Int.reduceSub, Int.reduceNeg, Int.reduceMul, not_true_eq_false, not_false_eq_true, true_and, and_true, Int.reduceToNat]
    exact finK rfl (hF h1 (exBx e :: r1) hS1)
theorem n8 : (Tryd.f8.name == "runtime.NumGoroutine") = false := by kernel_rfl
theorem n22 : (Tryd.f22.name == "runtime.NumGoroutine") = false := by kernel_rfl
theorem each28 (e : Ex) {h : List Blk} {K : AV → List Blk → Prop} (hK : K (.fn (.func 22) [] [.ptr h.length 0]) (h ++ [exBx e])) : ACall Tryd.prog 8 [e.enc] h K := by
  refine acallK_of_vc tabOK Tryd.func8 n8 rfl (n := 4) rfl (rs := [.tmp 2]) rfl ?_
  simp only [go_sem, Nat.reduceAdd, Nat.reduceSub, Nat.reduceMul, Nat.reduceLT, Nat.reduceLeDiff, Nat.reduceEqDiff, Nat.reduceBEq, Nat.reduceBNe, Nat.reducePow, Int.reduceEq, Int.reduceNe, Int.reduceLT, Int.reduceLE, Int.reduceGT, Int.reduceGE, Int.reduceAdd, Int.reduceSub, Int.reduceNeg, Int.reduceMul, not_true_eq_false, not_false_eq_true, true_and, and_true, Int.reduceToNat]
  exact finK rfl hK
theorem each52 (e : Ex) (yl m0 : Nat) (I : Nat → List Blk → Prop) (St : List Blk → Prop) (hlen : ∀ n h, I n h → h.length = m0) (hst : ∀ h, St h → h.length = m0)
    (hy : ∀ n x h r (K : AV → List Blk → Prop), (parts e)[n]? = some x → I n h → (∀ h' r', I (n + 1) h' → K (.b true) (h' ++ (r ++ r'))) → (∀ h' r', St h' → K (.b false) (h' ++ (r ++ r'))) → YCall Tryd.prog yl [x.enc] (h ++ r) K)
    {h : List Blk} {k : Nat} {K : AV → List Blk → Prop} (hk : h[k]? = some (exBx e)) (h0 : I 0 h) (hT : ∀ h' r', I (parts e).length h' → K (.tup []) (h' ++ r')) (hF : ∀ h' r', St h' → K (.tup []) (h' ++ r')) :
    ACall Tryd.prog 22 [.fn (.yield yl) [] [], .ptr k 0] h K := by
  have hk' : h[k]? = some (.cells 25 [.i e.kind, .i e.n, .s e.name, .i e.op, .lst 1 (e.arms.map AV.s) none, .lst 6 (e.subs.map Ex.enc) none]) := hk
  refine acallK_of_vc tabOK Tryd.func22 n22 rfl (n := 6) rfl (rs := []) rfl ?_
  simp only [go_sem, Nat.reduceAdd, Nat.reduceSub, Nat.reduceMul, Nat.reduceLT, Nat.reduceLeDiff, Nat.reduceEqDiff, Nat.reduceBEq, Nat.reduceBNe, Nat.reducePow, Int.reduceEq, Int.reduceNe, Int.reduceLT, Int.reduceLE, Int.reduceGT, Int.reduceGE, Int.reduceAdd, Int.reduceSub, Int.reduceNeg, Int.reduceMul, not_true_eq_false, not_false_eq_true, true_and, and_true, Int.reduceToNat, hk']
  have hw := walk53 yl m0 (parts e) I St hlen hst hy e 0 h []
  rw [List.append_nil] at hw
  refine hw _ (fun k y hy => by simpa using hy) h0 (fun h' r' hI' => ?_) (fun h' r' hS' => ?_)
  · simp only [go_sem, Nat.reduceAdd, Nat.reduceSub, Nat.reduceMul, Nat.reduceLT, Nat.reduceLeDiff, Nat.reduceEqDiff, Nat.reduceBEq, Nat.reduceBNe, Nat.reducePow, Int.reduceEq, Int.reduceNe, Int.reduceLT, Int.reduceLE, Int.reduceGT, Int.reduceGE, Int.reduceAdd, Int.reduceSub, Int.reduceNeg, Int.reduceMul, not_true_eq_false, not_false_eq_true, true_and, and_true, Int.reduceToNat]
    rw [Nat.zero_add] at hI'
    exact ⟨[], rfl, .tup [], .refl _, hT _ _ hI'⟩
  · simp only [go_sem, Nat.reduceAdd, Nat.reduceSub, Nat.reduceMul, Nat.reduceLT, Nat.reduceLeDiff, Nat.reduceEqDiff, Nat.reduceBEq, Nat.reduceBNe, Nat.reducePow, Int.reduceEq, Int.reduceNe, Int.reduceLT, Int.reduceLE, Int.reduceGT, Int.reduceGE, Int.reduceAdd, Int.reduceSub, Int.reduceNeg, Int.reduceMul, not_true_eq_false, not_false_eq_true, true_and, and_true, Int.reduceToNat]
    exact ⟨[], rfl, .tup [], .refl _, hF _ _ hS'⟩
end Go.Proofs.YtipcmpkihhfhcaaDoor

namespace Go.Proofs.YtipcmpkihhfhcaaDoor
open Go.Abs
set_option maxRecDepth 20000
set_option linter.unusedSimpArgs false
set_option linter.unusedVariables false
set_option maxHeartbeats 1000000
attribute [local irreducible] vc vcOps vcStep vcGuard prK hrK gK gsK brK callK ElemK SeqK BlockK ScopeK OpsK CallK LoopK LoopGo finPost ACall PCall PCallE BCall vqOps vqStep vqGuard qrK heK pcK gqK gqsK QOpsK qcallK DrawK
theorem acall_ghost {P : Program} {f : FuncId} {args args' : List AV} {h h' : List Blk} {K : AV → List Blk → Prop} (hg : Ghost args h args' h') (hc : ACall P f args' h' K) : ACall P f args h K := by
  unfold ACall Ghost at *
  intro S φ w vs hr ha
  obtain ⟨S1, φ1, k1, k2, k3⟩ := hg S φ w vs ha hr
  obtain ⟨h1, h2⟩ := hc S1 φ1 w vs k2 k1
  refine ⟨h1, Calls.mono h2 ?_⟩
  rintro e w' ⟨v, r, hh, S', φ', e1, e2, e3, e4, e5⟩
  exact ⟨v, r, hh, S', φ', e1, e2, e3, e4, k3.trans e5⟩
/-- A range over the parts of an expression. H: what lies ahead of the loop's record behind so many rounds, G: behind it; Inv: what holds then; Hs: where a round has returned. -/
theorem each_range (e : Ex) {ps : Array Tmp} {x y : Code} {s : List AV} {l : Nat} {Q : Post} (m k g : Nat) (Inv : Nat → Prop) (H G : Nat → List Blk) (Hs : List Blk → Prop) (hH : ∀ n, (H n).length = m) (hG : ∀ n, (G n).length = g) (hHs : ∀ h, Hs h → h.length = m) (hk : (H 0)[k]? = some (exBx e)) (hps : ps.size = 1) (hx : noR x = true) (hy : noR y = true) (h0 : Inv 0)
    (hbody : ∀ (n : Nat) (z : Ex) (r : List Blk) (K : AV → List Blk → Prop), (parts e)[n]? = some z → Inv n → (Inv (n + 1) → ∀ r', K (.b true) (H (n + 1) ++ (.lp l .ready none ps x y s :: (G (n + 1) ++ (r ++ r'))))) → (∀ h' r', Hs h' → K (.b false) (h' ++ (.lp l .done (some .ret) ps x y s :: (G n ++ (r ++ r'))))) →
      vc Tryd.prog ti x (roundA Tryd.prog ti l m ps x y s K) (setPs s ps.toList [z.enc]) (H n ++ (.lp l .ready none ps x y s :: (G n ++ r))))
    (hn : ∀ r, Inv (parts e).length → Q .normal s (H (parts e).length ++ (.dead :: (G (parts e).length ++ r)))) (hr : ∀ n h' r, Hs h' → Q .ret s (h' ++ (.dead :: (G n ++ r)))) :
    ACall Tryd.prog 22 [.fn (.yield l) [] [], .ptr k 0] (H 0 ++ (.lp l .ready none ps x y s :: G 0)) (fun _ h' => loopEnd Q s m h') := by
  refine each52 e l (m + 1 + g) (fun n h => Inv n ∧ h = H n ++ (.lp l .ready none ps x y s :: G n)) (fun h => ∃ n h', Hs h' ∧ h = h' ++ (.lp l .done (some .ret) ps x y s :: G n)) ?_ ?_ ?_ ?_ ⟨h0, rfl⟩ ?_ ?_
  · rintro n h ⟨_, rfl⟩; simp [hH, hG]; omega
  · rintro h ⟨n, h', hs, rfl⟩; simp [hHs h' hs, hG]; omega
  · rintro n z h r K hz ⟨hi, rfl⟩ hK1 hK2
    rw [List.append_assoc, List.cons_append]
    refine ycall_of_vc tabOK (k := m) (ps := ps) (x := x) (y := y) (s := s) ?_ (by simp [hps]) hx hy (hbody n z r K hz hi (fun hi' r' => ?_) (fun h' r' hs => ?_))
    · rw [List.getElem?_append_right (by rw [hH]; exact Nat.le_refl _), hH, Nat.sub_self]; rfl
    · have := hK1 _ r' ⟨hi', rfl⟩
      rwa [List.append_assoc, List.cons_append] at this
    · have := hK2 _ r' ⟨n, h', hs, rfl⟩
      rwa [List.append_assoc, List.cons_append] at this
  · rw [List.getElem?_append_left (List.getElem?_eq_some_iff.1 hk).1]; exact hk
  · rintro h' r' ⟨hi, rfl⟩
    have e1 : ((H (parts e).length ++ (Blk.lp l .ready none ps x y s :: G (parts e).length)) ++ r')[m]? = some (.lp l .ready none ps x y s) := by
      rw [List.append_assoc, List.getElem?_append_right (by rw [hH]; exact Nat.le_refl _), hH, Nat.sub_self]; rfl
    have e2 : ((H (parts e).length ++ (Blk.lp l .ready none ps x y s :: G (parts e).length)) ++ r').set m .dead = H (parts e).length ++ (.dead :: (G (parts e).length ++ r')) := by
      rw [List.append_assoc, List.set_append_right _ _ (by rw [hH]; exact Nat.le_refl _), hH, Nat.sub_self]; rfl
    unfold loopEnd
    rw [e1, e2]
    exact hn r' hi
  · rintro h r' ⟨n, h', hs, rfl⟩
    have e1 : ((h' ++ (Blk.lp l .done (some .ret) ps x y s :: G n)) ++ r')[m]? = some (.lp l .done (some .ret) ps x y s) := by
      rw [List.append_assoc, List.getElem?_append_right (by rw [hHs h' hs]; exact Nat.le_refl _), hHs h' hs, Nat.sub_self]; rfl
    have e2 : ((h' ++ (Blk.lp l .done (some .ret) ps x y s :: G n)) ++ r').set m .dead = h' ++ (.dead :: (G n ++ r')) := by
      rw [List.append_assoc, List.set_append_right _ _ (by rw [hHs h' hs]; exact Nat.le_refl _), hHs h' hs, Nat.sub_self]; rfl
    unfold loopEnd
    rw [e1, e2]
    exact hr n h' r' hs

theorem n18 : (Tryd.f18.name == "runtime.NumGoroutine") = false := by kernel_rfl
theorem size20 (e : Ex) (hb : (parts e).length ≤ 100000) : PCall Tryd.prog 18 [e.enc] (.i ((parts e).length : Nat)) := by
  refine pcall_of_vc tabOK Tryd.func18 n18 rfl (by repeat' first | exact pure_nil | refine pure_cons ?_ ?_ | exact .raw _ | exact pure_enc _ | exact pure_lst _ | exact pure_strs _ | exact pure_ints _ | exact DTy.pure _ | exact DTy.pures _ | exact DEnum.pure _ | exact DEnum.pures _ | exact DDecl.pure _ | exact DDecl.pures _ | exact DEq.pure _ | exact DEq.pures _ | exact DNode.pure _ | exact DNode.pures _ | exact DProg.pure _ | exact DProg.pures _ | exact DCond.pure _ | exact DCond.pures _ | exact DAtom.pure _ | exact DAtom.pures _ | exact DPlain.pure _ | exact DPlain.pures _ | exact DVar.pure _ | exact DVar.pures _ | exact DFlow.pure _ | exact DFlow.pures _ | exact DFlows.pure _ | exact DFlows.pures _ | exact DAsked.pure _ | exact DAsked.pures _ | exact DFault.pure _ | exact DFault.pures _ | exact DCell.pure _ | exact DCell.pures _ | exact DReply.pure _ | exact DReply.pures _ | exact DAsk.pure _ | exact DAsk.pures _ | exact DOp.pure _ | exact DOp.pures _ | exact pure_list (fun x => DDecl.pures x) _ | exact .fn _ _ _ pure_nil pure_nil | refine .agg _ ?_ | refine .tup _ ?_ | assumption) (by repeat' first | exact pure_nil | refine pure_cons ?_ ?_ | exact .raw _ | exact pure_enc _ | exact pure_lst _ | exact pure_strs _ | exact pure_ints _ | exact DTy.pure _ | exact DTy.pures _ | exact DEnum.pure _ | exact DEnum.pures _ | exact DDecl.pure _ | exact DDecl.pures _ | exact DEq.pure _ | exact DEq.pures _ | exact DNode.pure _ | exact DNode.pures _ | exact DProg.pure _ | exact DProg.pures _ | exact DCond.pure _ | exact DCond.pures _ | exact DAtom.pure _ | exact DAtom.pures _ | exact DPlain.pure _ | exact DPlain.pures _ | exact DVar.pure _ | exact DVar.pures _ | exact DFlow.pure _ | exact DFlow.pures _ | exact DFlows.pure _ | exact DFlows.pures _ | exact DAsked.pure _ | exact DAsked.pures _ | exact DFault.pure _ | exact DFault.pures _ | exact DCell.pure _ | exact DCell.pures _ | exact DReply.pure _ | exact DReply.pures _ | exact DAsk.pure _ | exact DAsk.pures _ | exact DOp.pure _ | exact DOp.pures _ | exact pure_list (fun x => DDecl.pures x) _ | exact .fn _ _ _ pure_nil pure_nil | refine .agg _ ?_ | refine .tup _ ?_ | assumption) (n := 10) rfl (rs := [.tmp 2]) rfl ?_
  simp only [go_sem, Nat.reduceAdd, Nat.reduceSub, Nat.reduceMul, Nat.reduceLT, Nat.reduceLeDiff, Nat.reduceEqDiff, Nat.reduceBEq, Nat.reduceBNe, Nat.reducePow, Int.reduceEq, Int.reduceNe, Int.reduceLT, Int.reduceLE, Int.reduceGT, Int.reduceGE, Int.reduceAdd, Int.reduceSub, Int.reduceNeg, Int.reduceMul, not_true_eq_false, not_false_eq_true, true_and, and_true, Int.reduceToNat]
  refine each28 e ?_
  simp only [go_sem, Nat.reduceAdd, Nat.reduceSub, Nat.reduceMul, Nat.reduceLT, Nat.reduceLeDiff, Nat.reduceEqDiff, Nat.reduceBEq, Nat.reduceBNe, Nat.reducePow, Int.reduceEq, Int.reduceNe, Int.reduceLT, Int.reduceLE, Int.reduceGT, Int.reduceGE, Int.reduceAdd, Int.reduceSub, Int.reduceNeg, Int.reduceMul, not_true_eq_false, not_false_eq_true, true_and, and_true, Int.reduceToNat]
  intro l
  refine each_range e 3 2 0 (fun _ => True) (fun n => [exBx e, .cells 3 [.i (n : Nat)], exBx e]) (fun _ => []) (fun _ => False) (fun _ => rfl) (fun _ => rfl) (fun _ h => h.elim) rfl rfl rfl rfl trivial (fun n z r K hz _ hK1 _ => ?_) (fun r _ => ?_) (fun _ _ _ h => h.elim)
  · have hn := (List.getElem?_eq_some_iff.1 hz).1
    simp only [go_sem, Nat.reduceAdd, Nat.reduceSub, Nat.reduceMul, Nat.reduceLT, Nat.reduceLeDiff, Nat.reduceEqDiff, Nat.reduceBEq, Nat.reduceBNe, Nat.reducePow, Int.reduceEq, Int.reduceNe, Int.reduceLT, Int.reduceLE, Int.reduceGT, Int.reduceGE, Int.reduceAdd, Int.reduceSub, Int.reduceNeg, Int.reduceMul, not_true_eq_false, not_false_eq_true, true_and, and_true, Int.reduceToNat, setPs, roundA]
    try refine ⟨rfl, ?_⟩
    try simp only [go_sem, Nat.reduceAdd, Nat.reduceSub, Nat.reduceMul, Nat.reduceLT, Nat.reduceLeDiff, Nat.reduceEqDiff, Nat.reduceBEq, Nat.reduceBNe, Nat.reducePow, Int.reduceEq, Int.reduceNe, Int.reduceLT, Int.reduceLE, Int.reduceGT, Int.reduceGE, Int.reduceAdd, Int.reduceSub, Int.reduceNeg, Int.reduceMul, not_true_eq_false, not_false_eq_true, true_and, and_true, Int.reduceToNat, roundB]
    have := hK1 trivial []
    rw [wrap_in _ (by omega) (by omega)]
    simpa using this
  · simp only [go_sem, Nat.reduceAdd, Nat.reduceSub, Nat.reduceMul, Nat.reduceLT, Nat.reduceLeDiff, Nat.reduceEqDiff, Nat.reduceBEq, Nat.reduceBNe, Nat.reducePow, Int.reduceEq, Int.reduceNe, Int.reduceLT, Int.reduceLE, Int.reduceGT, Int.reduceGE, Int.reduceAdd, Int.reduceSub, Int.reduceNeg, Int.reduceMul, not_true_eq_false, not_false_eq_true, true_and, and_true, Int.reduceToNat]
    exact ⟨_, rfl, false, .refl _⟩
end Go.Proofs.YtipcmpkihhfhcaaDoor

namespace Go.Proofs.YtipcmpkihhfhcaaDoor
open Go.Abs
set_option maxRecDepth 20000
set_option linter.unusedSimpArgs false
set_option linter.unusedVariables false
set_option maxHeartbeats 1000000
attribute [local irreducible] vc vcOps vcStep vcGuard prK hrK gK gsK brK callK ElemK SeqK BlockK ScopeK OpsK CallK LoopK LoopGo finPost ACall PCall PCallE BCall vqOps vqStep vqGuard qrK heK pcK gqK gqsK QOpsK qcallK DrawK
theorem n44 : (Tryd.f44.name == "runtime.NumGoroutine") = false := by kernel_rfl
theorem literal48 (e : Ex) : PCall Tryd.prog 44 [e.enc] (.b (litE e)) := by
  refine pcall_of_vc tabOK Tryd.func44 n44 rfl (by repeat' first | exact pure_nil | refine pure_cons ?_ ?_ | exact .raw _ | exact pure_enc _ | exact pure_lst _ | exact pure_strs _ | exact pure_ints _ | exact DTy.pure _ | exact DTy.pures _ | exact DEnum.pure _ | exact DEnum.pures _ | exact DDecl.pure _ | exact DDecl.pures _ | exact DEq.pure _ | exact DEq.pures _ | exact DNode.pure _ | exact DNode.pures _ | exact DProg.pure _ | exact DProg.pures _ | exact DCond.pure _ | exact DCond.pures _ | exact DAtom.pure _ | exact DAtom.pures _ | exact DPlain.pure _ | exact DPlain.pures _ | exact DVar.pure _ | exact DVar.pures _ | exact DFlow.pure _ | exact DFlow.pures _ | exact DFlows.pure _ | exact DFlows.pures _ | exact DAsked.pure _ | exact DAsked.pures _ | exact DFault.pure _ | exact DFault.pures _ | exact DCell.pure _ | exact DCell.pures _ | exact DReply.pure _ | exact DReply.pures _ | exact DAsk.pure _ | exact DAsk.pures _ | exact DOp.pure _ | exact DOp.pures _ | exact pure_list (fun x => DDecl.pures x) _ | exact .fn _ _ _ pure_nil pure_nil | refine .agg _ ?_ | refine .tup _ ?_ | assumption) (by repeat' first | exact pure_nil | refine pure_cons ?_ ?_ | exact .raw _ | exact pure_enc _ | exact pure_lst _ | exact pure_strs _ | exact pure_ints _ | exact DTy.pure _ | exact DTy.pures _ | exact DEnum.pure _ | exact DEnum.pures _ | exact DDecl.pure _ | exact DDecl.pures _ | exact DEq.pure _ | exact DEq.pures _ | exact DNode.pure _ | exact DNode.pures _ | exact DProg.pure _ | exact DProg.pures _ | exact DCond.pure _ | exact DCond.pures _ | exact DAtom.pure _ | exact DAtom.pures _ | exact DPlain.pure _ | exact DPlain.pures _ | exact DVar.pure _ | exact DVar.pures _ | exact DFlow.pure _ | exact DFlow.pures _ | exact DFlows.pure _ | exact DFlows.pures _ | exact DAsked.pure _ | exact DAsked.pures _ | exact DFault.pure _ | exact DFault.pures _ | exact DCell.pure _ | exact DCell.pures _ | exact DReply.pure _ | exact DReply.pures _ | exact DAsk.pure _ | exact DAsk.pures _ | exact DOp.pure _ | exact DOp.pures _ | exact pure_list (fun x => DDecl.pures x) _ | exact .fn _ _ _ pure_nil pure_nil | refine .agg _ ?_ | refine .tup _ ?_ | assumption) (n := 28) rfl (rs := [.tmp 2]) rfl ?_
  repeat' first
    | (exfalso; omega)
    | simp only [go_sem, Nat.reduceAdd, Nat.reduceSub, Nat.reduceMul, Nat.reduceLT, Nat.reduceLeDiff, Nat.reduceEqDiff, Nat.reduceBEq, Nat.reduceBNe, Nat.reducePow, Int.reduceEq, Int.reduceNe, Int.reduceLT, Int.reduceLE, Int.reduceGT, Int.reduceGE, Int.reduceAdd, Int.reduceSub, Int.reduceNeg, Int.reduceMul, not_true_eq_false, not_false_eq_true, true_and, and_true, Int.reduceToNat]
    | (intro _)
    | refine brK_dec (fun _ => ?_) (fun _ => ?_)
    | refine gK_dec (fun _ => ?_) (fun _ => ?_)
    | refine elemMap (by omega) (by omega) (fun x hx => ?_)
    | (refine finBq rfl ?_; have hk := k0_at hx; simp [litE, *]; done)
    | (refine finBq rfl ?_; simp [litE, *]; done)
    | (refine finBq rfl ?_; have h1 : ¬ e.subs.length = 1 := (by omega); simp [litE, *]; done)
    | (refine finBq rfl ?_; have h1 : e.subs.length = 1 := (by omega); have hk := k0_at hx; simp [litE, *]; done)
theorem n45 : (Tryd.f45.name == "runtime.NumGoroutine") = false := by kernel_rfl
theorem containsExR {l : List Ex} {p : Ex → Bool} {g : Nat} {first capt : List AV} {h : List Blk} {K : AV → List Blk → Prop} (hp : ∀ x ∈ l, ∀ K : AV → List Blk → Prop, K (.b (p x)) h → ACall Tryd.prog g (first ++ Ex.enc x :: capt) h K)
    (hK : K (.b (l.any p)) h) : ACall Tryd.prog 45 [.lst 6 (l.map Ex.enc) none, .fn (.func g) first capt] h K := by
  refine acall_of_vc tabOK Tryd.func45 n45 rfl (n := 9) rfl (rs := [.tmp 4]) rfl ?_
  simp only [go_sem, Nat.reduceAdd, Nat.reduceSub, Nat.reduceMul, Nat.reduceLT, Nat.reduceLeDiff, Nat.reduceEqDiff, Nat.reduceBEq, Nat.reduceBNe, Nat.reducePow, Int.reduceEq, Int.reduceNe, Int.reduceLT, Int.reduceLE, Int.reduceGT, Int.reduceGE, Int.reduceAdd, Int.reduceSub, Int.reduceNeg, Int.reduceMul, not_true_eq_false, not_false_eq_true, true_and, and_true, Int.reduceToNat]
  refine indexEx hp ?_
  simp only [go_sem, Nat.reduceAdd, Nat.reduceSub, Nat.reduceMul, Nat.reduceLT, Nat.reduceLeDiff, Nat.reduceEqDiff, Nat.reduceBEq, Nat.reduceBNe, Nat.reducePow, Int.reduceEq, Int.reduceNe, Int.reduceLT, Int.reduceLE, Int.reduceGT, Int.reduceGE, Int.reduceAdd, Int.reduceSub, Int.reduceNeg, Int.reduceMul, not_true_eq_false, not_false_eq_true, true_and, and_true, Int.reduceToNat]
  rw [idx_any]
  exact finH1 rfl (.raw _) hK
theorem n31 : (Tryd.f31.name == "runtime.NumGoroutine") = false := by kernel_rfl
theorem containsStrR {l : List ByteArray} {p : ByteArray → Bool} {g : Nat} {first capt : List AV} {h : List Blk} {K : AV → List Blk → Prop} (hp : ∀ x ∈ l, ∀ K : AV → List Blk → Prop, K (.b (p x)) h → ACall Tryd.prog g (first ++ AV.s x :: capt) h K)
    (hK : K (.b (l.any p)) h) : ACall Tryd.prog 31 [.lst 1 (l.map AV.s) none, .fn (.func g) first capt] h K := by
  refine acall_of_vc tabOK Tryd.func31 n31 rfl (n := 9) rfl (rs := [.tmp 4]) rfl ?_
  simp only [go_sem, Nat.reduceAdd, Nat.reduceSub, Nat.reduceMul, Nat.reduceLT, Nat.reduceLeDiff, Nat.reduceEqDiff, Nat.reduceBEq, Nat.reduceBNe, Nat.reducePow, Int.reduceEq, Int.reduceNe, Int.reduceLT, Int.reduceLE, Int.reduceGT, Int.reduceGE, Int.reduceAdd, Int.reduceSub, Int.reduceNeg, Int.reduceMul, not_true_eq_false, not_false_eq_true, true_and, and_true, Int.reduceToNat]
  refine indexStr hp ?_
  simp only [go_sem, Nat.reduceAdd, Nat.reduceSub, Nat.reduceMul, Nat.reduceLT, Nat.reduceLeDiff, Nat.reduceEqDiff, Nat.reduceBEq, Nat.reduceBNe, Nat.reducePow, Int.reduceEq, Int.reduceNe, Int.reduceLT, Int.reduceLE, Int.reduceGT, Int.reduceGE, Int.reduceAdd, Int.reduceSub, Int.reduceNeg, Int.reduceMul, not_true_eq_false, not_false_eq_true, true_and, and_true, Int.reduceToNat]
  rw [idx_any]
  exact finH1 rfl (.raw _) hK
theorem n46 : (Tryd.f46.name == "runtime.NumGoroutine") = false := by kernel_rfl
theorem n34 : (Tryd.f34.name == "runtime.NumGoroutine") = false := by kernel_rfl
theorem const18 (e : Ex) : PCall Tryd.prog 34 [e.enc] (.b (constE e)) := by
  refine pcall_of_vc tabOK Tryd.func34 n34 rfl (by repeat' first | exact pure_nil | refine pure_cons ?_ ?_ | exact .raw _ | exact pure_enc _ | exact pure_lst _ | exact pure_strs _ | exact pure_ints _ | exact DTy.pure _ | exact DTy.pures _ | exact DEnum.pure _ | exact DEnum.pures _ | exact DDecl.pure _ | exact DDecl.pures _ | exact DEq.pure _ | exact DEq.pures _ | exact DNode.pure _ | exact DNode.pures _ | exact DProg.pure _ | exact DProg.pures _ | exact DCond.pure _ | exact DCond.pures _ | exact DAtom.pure _ | exact DAtom.pures _ | exact DPlain.pure _ | exact DPlain.pures _ | exact DVar.pure _ | exact DVar.pures _ | exact DFlow.pure _ | exact DFlow.pures _ | exact DFlows.pure _ | exact DFlows.pures _ | exact DAsked.pure _ | exact DAsked.pures _ | exact DFault.pure _ | exact DFault.pures _ | exact DCell.pure _ | exact DCell.pures _ | exact DReply.pure _ | exact DReply.pures _ | exact DAsk.pure _ | exact DAsk.pures _ | exact DOp.pure _ | exact DOp.pures _ | exact pure_list (fun x => DDecl.pures x) _ | exact .fn _ _ _ pure_nil pure_nil | refine .agg _ ?_ | refine .tup _ ?_ | assumption) (by repeat' first | exact pure_nil | refine pure_cons ?_ ?_ | exact .raw _ | exact pure_enc _ | exact pure_lst _ | exact pure_strs _ | exact pure_ints _ | exact DTy.pure _ | exact DTy.pures _ | exact DEnum.pure _ | exact DEnum.pures _ | exact DDecl.pure _ | exact DDecl.pures _ | exact DEq.pure _ | exact DEq.pures _ | exact DNode.pure _ | exact DNode.pures _ | exact DProg.pure _ | exact DProg.pures _ | exact DCond.pure _ | exact DCond.pures _ | exact DAtom.pure _ | exact DAtom.pures _ | exact DPlain.pure _ | exact DPlain.pures _ | exact DVar.pure _ | exact DVar.pures _ | exact DFlow.pure _ | exact DFlow.pures _ | exact DFlows.pure _ | exact DFlows.pures _ | exact DAsked.pure _ | exact DAsked.pures _ | exact DFault.pure _ | exact DFault.pures _ | exact DCell.pure _ | exact DCell.pures _ | exact DReply.pure _ | exact DReply.pures _ | exact DAsk.pure _ | exact DAsk.pures _ | exact DOp.pure _ | exact DOp.pures _ | exact pure_list (fun x => DDecl.pures x) _ | exact .fn _ _ _ pure_nil pure_nil | refine .agg _ ?_ | refine .tup _ ?_ | assumption) (n := 12) rfl (rs := [.tmp 2]) rfl ?_
  simp only [go_sem, Nat.reduceAdd, Nat.reduceSub, Nat.reduceMul, Nat.reduceLT, Nat.reduceLeDiff, Nat.reduceEqDiff, Nat.reduceBEq, Nat.reduceBNe, Nat.reducePow, Int.reduceEq, Int.reduceNe, Int.reduceLT, Int.reduceLE, Int.reduceGT, Int.reduceGE, Int.reduceAdd, Int.reduceSub, Int.reduceNeg, Int.reduceMul, not_true_eq_false, not_false_eq_true, true_and, and_true, Int.reduceToNat]
  refine brK_dec (fun h14 => ?_) (fun h14 => ?_)
  · simp only [go_sem, Nat.reduceAdd, Nat.reduceSub, Nat.reduceMul, Nat.reduceLT, Nat.reduceLeDiff, Nat.reduceEqDiff, Nat.reduceBEq, Nat.reduceBNe, Nat.reducePow, Int.reduceEq, Int.reduceNe, Int.reduceLT, Int.reduceLE, Int.reduceGT, Int.reduceGE, Int.reduceAdd, Int.reduceSub, Int.reduceNeg, Int.reduceMul, not_true_eq_false, not_false_eq_true, true_and, and_true, Int.reduceToNat]
    refine PCall.call (literal48 e) ?_
    simp only [go_sem, Nat.reduceAdd, Nat.reduceSub, Nat.reduceMul, Nat.reduceLT, Nat.reduceLeDiff, Nat.reduceEqDiff, Nat.reduceBEq, Nat.reduceBNe, Nat.reducePow, Int.reduceEq, Int.reduceNe, Int.reduceLT, Int.reduceLE, Int.reduceGT, Int.reduceGE, Int.reduceAdd, Int.reduceSub, Int.reduceNeg, Int.reduceMul, not_true_eq_false, not_false_eq_true, true_and, and_true, Int.reduceToNat]
    exact finBq rfl (by simp [constE, h14])
  · have h14 : e.kind = 14 := Classical.not_not.1 h14
    simp only [go_sem, Nat.reduceAdd, Nat.reduceSub, Nat.reduceMul, Nat.reduceLT, Nat.reduceLeDiff, Nat.reduceEqDiff, Nat.reduceBEq, Nat.reduceBNe, Nat.reducePow, Int.reduceEq, Int.reduceNe, Int.reduceLT, Int.reduceLE, Int.reduceGT, Int.reduceGE, Int.reduceAdd, Int.reduceSub, Int.reduceNeg, Int.reduceMul, not_true_eq_false, not_false_eq_true, true_and, and_true, Int.reduceToNat]
    refine containsExR (p := fun x => !litE x) (fun x hx K hK => ?_) ?_
    · refine acall_of_vc tabOK Tryd.func46 n46 rfl (n := 6) rfl (rs := [.tmp 2]) rfl ?_
      simp only [go_sem, Nat.reduceAdd, Nat.reduceSub, Nat.reduceMul, Nat.reduceLT, Nat.reduceLeDiff, Nat.reduceEqDiff, Nat.reduceBEq, Nat.reduceBNe, Nat.reducePow, Int.reduceEq, Int.reduceNe, Int.reduceLT, Int.reduceLE, Int.reduceGT, Int.reduceGE, Int.reduceAdd, Int.reduceSub, Int.reduceNeg, Int.reduceMul, not_true_eq_false, not_false_eq_true, true_and, and_true, Int.reduceToNat]
      refine PCall.call (literal48 x) ?_
      simp only [go_sem, Nat.reduceAdd, Nat.reduceSub, Nat.reduceMul, Nat.reduceLT, Nat.reduceLeDiff, Nat.reduceEqDiff, Nat.reduceBEq, Nat.reduceBNe, Nat.reducePow, Int.reduceEq, Int.reduceNe, Int.reduceLT, Int.reduceLE, Int.reduceGT, Int.reduceGE, Int.reduceAdd, Int.reduceSub, Int.reduceNeg, Int.reduceMul, not_true_eq_false, not_false_eq_true, true_and, and_true, Int.reduceToNat]
      exact finH0 _ rfl (.raw _) hK
    simp only [go_sem, Nat.reduceAdd, Nat.reduceSub, Nat.reduceMul, Nat.reduceLT, Nat.reduceLeDiff, Nat.reduceEqDiff, Nat.reduceBEq, Nat.reduceBNe, Nat.reducePow, Int.reduceEq, Int.reduceNe, Int.reduceLT, Int.reduceLE, Int.reduceGT, Int.reduceGE, Int.reduceAdd, Int.reduceSub, Int.reduceNeg, Int.reduceMul, not_true_eq_false, not_false_eq_true, true_and, and_true, Int.reduceToNat]
    exact finBq rfl (by simp [constE, h14, List.all_eq_not_any_not])
theorem n33 : (Tryd.f33.name == "runtime.NumGoroutine") = false := by kernel_rfl
theorem arm71 (s : ByteArray) : PCall Tryd.prog 33 [.s s] (.b (armE s)) := by
  refine pcall_of_vc tabOK Tryd.func33 n33 rfl (by repeat' first | exact pure_nil | refine pure_cons ?_ ?_ | exact .raw _ | exact pure_enc _ | exact pure_lst _ | exact pure_strs _ | exact pure_ints _ | exact DTy.pure _ | exact DTy.pures _ | exact DEnum.pure _ | exact DEnum.pures _ | exact DDecl.pure _ | exact DDecl.pures _ | exact DEq.pure _ | exact DEq.pures _ | exact DNode.pure _ | exact DNode.pures _ | exact DProg.pure _ | exact DProg.pures _ | exact DCond.pure _ | exact DCond.pures _ | exact DAtom.pure _ | exact DAtom.pures _ | exact DPlain.pure _ | exact DPlain.pures _ | exact DVar.pure _ | exact DVar.pures _ | exact DFlow.pure _ | exact DFlow.pures _ | exact DFlows.pure _ | exact DFlows.pures _ | exact DAsked.pure _ | exact DAsked.pures _ | exact DFault.pure _ | exact DFault.pures _ | exact DCell.pure _ | exact DCell.pures _ | exact DReply.pure _ | exact DReply.pures _ | exact DAsk.pure _ | exact DAsk.pures _ | exact DOp.pure _ | exact DOp.pures _ | exact pure_list (fun x => DDecl.pures x) _ | exact .fn _ _ _ pure_nil pure_nil | refine .agg _ ?_ | refine .tup _ ?_ | assumption) (by repeat' first | exact pure_nil | refine pure_cons ?_ ?_ | exact .raw _ | exact pure_enc _ | exact pure_lst _ | exact pure_strs _ | exact pure_ints _ | exact DTy.pure _ | exact DTy.pures _ | exact DEnum.pure _ | exact DEnum.pures _ | exact DDecl.pure _ | exact DDecl.pures _ | exact DEq.pure _ | exact DEq.pures _ | exact DNode.pure _ | exact DNode.pures _ | exact DProg.pure _ | exact DProg.pures _ | exact DCond.pure _ | exact DCond.pures _ | exact DAtom.pure _ | exact DAtom.pures _ | exact DPlain.pure _ | exact DPlain.pures _ | exact DVar.pure _ | exact DVar.pures _ | exact DFlow.pure _ | exact DFlow.pures _ | exact DFlows.pure _ | exact DFlows.pures _ | exact DAsked.pure _ | exact DAsked.pures _ | exact DFault.pure _ | exact DFault.pures _ | exact DCell.pure _ | exact DCell.pures _ | exact DReply.pure _ | exact DReply.pures _ | exact DAsk.pure _ | exact DAsk.pures _ | exact DOp.pure _ | exact DOp.pures _ | exact pure_list (fun x => DDecl.pures x) _ | exact .fn _ _ _ pure_nil pure_nil | refine .agg _ ?_ | refine .tup _ ?_ | assumption) (n := 13) rfl (rs := [.tmp 2]) rfl ?_
  unfold armE
  repeat' first
    | exact finB rfl
    | exact finI rfl
    | exact finP rfl
    | exact absurd rfl (by assumption)
    | simp only [go_sem, Nat.reduceAdd, Nat.reduceSub, Nat.reduceMul, Nat.reduceLT, Nat.reduceLeDiff, Nat.reduceEqDiff, Nat.reduceBEq, Nat.reduceBNe, Nat.reducePow, Int.reduceEq, Int.reduceNe, Int.reduceLT, Int.reduceLE, Int.reduceGT, Int.reduceGE, Int.reduceAdd, Int.reduceSub, Int.reduceNeg, Int.reduceMul, not_true_eq_false, not_false_eq_true, true_and, and_true, Int.reduceToNat]
    | (intro _)
    | refine brK_dec (fun _ => ?_) (fun _ => ?_)
    | refine brK_split (fun hb_ => ?_) (fun hb_ => ?_)
    | refine gK_dec (fun _ => ?_) (fun _ => ?_)
    | refine gK_split (fun hb_ => ?_) (fun hb_ => ?_)
    | refine gqK_dec (fun _ => ?_) (fun _ => ?_)
    | refine ⟨by omega, ?_⟩
    | refine elemHave (by omega) (by assumption) ?_
    | refine elemMap (by omega) (by omega) (fun x hx => ?_)
    | refine drawK mo (by kernel_rfl) ?_
    | (refine PCall.call (high8 s) ?_; generalize highF s = q; cases q)
    | (exact finBq rfl (by simp [*]))
theorem n24 : (Tryd.f24.name == "runtime.NumGoroutine") = false := by kernel_rfl
theorem n32 : (Tryd.f32.name == "runtime.NumGoroutine") = false := by kernel_rfl
theorem part46 (e : Ex) (hn : e.name.size ≤ 1000000) : PCall Tryd.prog 24 [e.enc] (.b (partP e)) := by
  refine pcall_of_vc tabOK Tryd.func24 n24 rfl (by repeat' first | exact pure_nil | refine pure_cons ?_ ?_ | exact .raw _ | exact pure_enc _ | exact pure_lst _ | exact pure_strs _ | exact pure_ints _ | exact DTy.pure _ | exact DTy.pures _ | exact DEnum.pure _ | exact DEnum.pures _ | exact DDecl.pure _ | exact DDecl.pures _ | exact DEq.pure _ | exact DEq.pures _ | exact DNode.pure _ | exact DNode.pures _ | exact DProg.pure _ | exact DProg.pures _ | exact DCond.pure _ | exact DCond.pures _ | exact DAtom.pure _ | exact DAtom.pures _ | exact DPlain.pure _ | exact DPlain.pures _ | exact DVar.pure _ | exact DVar.pures _ | exact DFlow.pure _ | exact DFlow.pures _ | exact DFlows.pure _ | exact DFlows.pures _ | exact DAsked.pure _ | exact DAsked.pures _ | exact DFault.pure _ | exact DFault.pures _ | exact DCell.pure _ | exact DCell.pures _ | exact DReply.pure _ | exact DReply.pures _ | exact DAsk.pure _ | exact DAsk.pures _ | exact DOp.pure _ | exact DOp.pures _ | exact pure_list (fun x => DDecl.pures x) _ | exact .fn _ _ _ pure_nil pure_nil | refine .agg _ ?_ | refine .tup _ ?_ | assumption) (.raw _) (n := 79) rfl (rs := [.tmp 2]) rfl ?_
  have h2 : 1 ≤ (ofE e).1.least ∨ ¬ e.kind = 8 := by
    by_cases h8 : e.kind = 8
    · left; simp [ofE, nothingE, h8]
    · right; exact h8
  unfold partP
  simp only [go_sem, Nat.reduceAdd, Nat.reduceSub, Nat.reduceMul, Nat.reduceLT, Nat.reduceLeDiff, Nat.reduceEqDiff, Nat.reduceBEq, Nat.reduceBNe, Nat.reducePow, Int.reduceEq, Int.reduceNe, Int.reduceLT, Int.reduceLE, Int.reduceGT, Int.reduceGE, Int.reduceAdd, Int.reduceSub, Int.reduceNeg, Int.reduceMul, not_true_eq_false, not_false_eq_true, true_and, and_true, Int.reduceToNat]
  refine PCall.call (of68 e hn) ?_
  generalize ofE e = R at h2 ⊢
  obtain ⟨⟨x, y, z, a, b, c⟩, ok⟩ := R
  dsimp only at h2
  cases ok <;> cases x <;> cases y <;> cases z <;>
  repeat' first
    | (exfalso; omega)
    | simp only [go_sem, Nat.reduceAdd, Nat.reduceSub, Nat.reduceMul, Nat.reduceLT, Nat.reduceLeDiff, Nat.reduceEqDiff, Nat.reduceBEq, Nat.reduceBNe, Nat.reducePow, Int.reduceEq, Int.reduceNe, Int.reduceLT, Int.reduceLE, Int.reduceGT, Int.reduceGE, Int.reduceAdd, Int.reduceSub, Int.reduceNeg, Int.reduceMul, not_true_eq_false, not_false_eq_true, true_and, and_true, Int.reduceToNat]
    | (intro _)
    | refine brK_dec (fun _ => ?_) (fun _ => ?_)
    | refine gK_dec (fun _ => ?_) (fun _ => ?_)
    | refine brK_split (fun hb_ => ?_) (fun hb_ => ?_)
    | refine gK_split (fun hb_ => ?_) (fun hb_ => ?_)
    | (refine PCall.call (once12 e.arms) ?_; generalize ho : onceB e.arms = o; cases o)
    | (refine containsStrR (p := fun s => !armE s) (fun s hs K hK => ?_) ?_
       · refine acall_of_vc tabOK Tryd.func32 n32 rfl (n := 6) rfl (rs := [.tmp 2]) rfl ?_
         simp only [go_sem, Nat.reduceAdd, Nat.reduceSub, Nat.reduceMul, Nat.reduceLT, Nat.reduceLeDiff, Nat.reduceEqDiff, Nat.reduceBEq, Nat.reduceBNe, Nat.reducePow, Int.reduceEq, Int.reduceNe, Int.reduceLT, Int.reduceLE, Int.reduceGT, Int.reduceGE, Int.reduceAdd, Int.reduceSub, Int.reduceNeg, Int.reduceMul, not_true_eq_false, not_false_eq_true, true_and, and_true, Int.reduceToNat]
         refine PCall.call (arm71 s) ?_
         simp only [go_sem, Nat.reduceAdd, Nat.reduceSub, Nat.reduceMul, Nat.reduceLT, Nat.reduceLeDiff, Nat.reduceEqDiff, Nat.reduceBEq, Nat.reduceBNe, Nat.reducePow, Int.reduceEq, Int.reduceNe, Int.reduceLT, Int.reduceLE, Int.reduceGT, Int.reduceGE, Int.reduceAdd, Int.reduceSub, Int.reduceNeg, Int.reduceMul, not_true_eq_false, not_false_eq_true, true_and, and_true, Int.reduceToNat]
         exact finH0 _ rfl (.raw _) hK
       have hall : e.arms.all armE = !(e.arms.any fun s => !armE s) := List.all_eq_not_any_not
       rw [hall]
       generalize (e.arms.any fun s => !armE s) = q
       cases q)
    | refine elemMap (by omega) (by omega) (fun x hx => ?_)
    | (refine PCall.call (const18 _) ?_)
    | (refine finBq rfl ?_; simp [*]; done)
    | (refine finBq rfl ?_; simp [*]; omega)
    | (refine finBq rfl ?_; have hm : e.arms.length = 0 := (by omega); simp [*]; done)
    | (refine finBq rfl ?_; have f1 : a ≤ (e.subs.length : Int) := (by omega); have f2 : (e.subs.length : Int) ≤ b := (by omega); have f3 : (e.arms.length : Int) ≤ c := (by omega)
       rw [decide_eq_true f1, decide_eq_true f2, decide_eq_true f3]
       first
         | (have hm : ¬ e.arms.length = 0 := (by omega); rw [decide_eq_false hm]; first | (simp [*]; done) | (rw [head_at hx]; simp [*]; done))
         | (have hm : ¬ c > 0 := (by omega); rw [decide_eq_false hm]; first | (simp [*]; done) | (rw [head_at hx]; simp [*]; done)))
end Go.Proofs.YtipcmpkihhfhcaaDoor

/-
  Fresh slices: a call's result that its caller may append to.
-/
namespace Go.Abs
open Go

theorem swap_sound {S S' : Addr → Prop} {φ φ' : Nat → Loc} {w w' : World} {h h1 junk : List Blk} {e : TypeId} {sz n k : Nat} (hr : R S φ h w) (hr' : R S' φ' (h1 ++ junk) w') (he : Ext S φ h w S' φ' (h1 ++ junk) w') (hc : Chg h.length h h1)
    (hk : (h1 ++ junk)[k]? = some (.tok e sz n)) (hkl : h.length ≤ k) :
    let φ'' : Nat → Loc := fun j => if j < h.length then φ' j else if j = h.length then φ' k else .no
    R S' φ'' (h1 ++ [.tok e sz n]) w' ∧ Ext S φ h w S' φ'' (h1 ++ [.tok e sz n]) w' := by
  intro φ''
  obtain ⟨hl, hat⟩ := hc.at
  have hf : ∀ j, j < h.length → φ'' j = φ' j := fun j hj => by simp only [φ'']; rw [if_pos hj]
  have hmid : φ'' h.length = φ' k := by simp [φ'']
  have hno : ∀ j, h.length < j → φ'' j = .no := fun j hj => by simp only [φ'']; rw [if_neg (by omega), if_neg (by omega)]
  have hle : ∀ j, (φ j).le (φ'' j) := by
    intro j
    rcases Nat.lt_or_ge j h.length with g | g
    · rw [hf j g]; exact he.loc j
    · rw [hr.fresh j g]; trivial
  have hin : ∀ (j : Nat) y, (h1 ++ [Blk.tok e sz n])[j]? = some y → (j < h.length ∧ h1[j]? = some y ∧ (h1 ++ junk)[j]? = some y) ∨ (j = h.length ∧ y = .tok e sz n) := by
    intro j y hj
    rcases Nat.lt_or_ge j h1.length with g | g
    · rw [List.getElem?_append_left g] at hj
      exact .inl ⟨by omega, hj, by rw [List.getElem?_append_left g]; exact hj⟩
    · rw [List.getElem?_append_right g] at hj
      have : j - h1.length = 0 := by
        rcases Nat.eq_zero_or_pos (j - h1.length) with q | q
        · exact q
        · rw [List.getElem?_eq_none (by simp; omega)] at hj; cases hj
      rw [this] at hj
      simp at hj
      exact .inr ⟨by omega, hj.symm⟩
  have hlow : ∀ (j : Nat) y, h1[j]? = some y → BlwBlk h.length y := by
    intro j y hj
    rcases hat j y hj with g | g
    · exact RB.blw (fun i hi => hr.fresh i hi) (hr.blk j _ g)
    · exact g
  have hown : ∀ b, Owns φ'' (h1 ++ [.tok e sz n]) b → Owns φ' (h1 ++ junk) b := by
    rintro b ⟨j, x, hj, hb⟩
    rcases hin j x hj with ⟨g1, _, g2⟩ | ⟨rfl, rfl⟩
    · exact ⟨j, x, g2, by rw [← hf j g1]; exact hb⟩
    · exact ⟨k, _, hk, by rw [← hmid]; exact hb⟩
  refine ⟨⟨fun j x hj => ?_, fun j j' x x' b hj hj' hb hb' => ?_, hr'.bnd, fun j hj => hno j (by simp at hj; omega)⟩, ⟨he.os, he.tape, he.output, he.size, he.keep, he.sub, he.cell, hle, he.new, fun b hb => he.own b (hown b hb)⟩⟩
  · rcases hin j x hj with ⟨g1, g3, g2⟩ | ⟨rfl, rfl⟩
    · exact RB.low hf g1 (hr'.blk j x g2) (hlow j x g3)
    · obtain ⟨u, q1, q2⟩ := hr'.blk k _ hk
      exact ⟨u, by rw [hmid]; exact q1, q2⟩
  · rcases hin j x hj with ⟨g1, _, g2⟩ | ⟨rfl, rfl⟩
    · rw [hf j g1] at hb
      rcases hin j' x' hj' with ⟨q1, _, q2⟩ | ⟨rfl, rfl⟩
      · rw [hf j' q1] at hb'
        exact hr'.inj j j' x x' b g2 q2 hb hb'
      · rw [hmid] at hb'
        have := hr'.inj j k x _ b g2 hk hb hb'
        omega
    · rw [hmid] at hb
      rcases hin j' x' hj' with ⟨q1, _, q2⟩ | ⟨rfl, rfl⟩
      · rw [hf j' q1] at hb'
        have := hr'.inj k j' _ x' b hk q2 hb hb'
        omega
      · rfl

section
variable {P : Program} {T : TypeId → TI} {s : List AV} {h : List Blk} {c : Code}

/-- What the end of a function must be whose result is a fresh slice, with its token at the caller's next place. -/
def FinT (T : TypeId → TI) (rs : List ResultVar) (h : List Blk) (e : TypeId) (sz : Nat) (l : List AV) (K : AV → List Blk → Prop) (s : List AV) (h' : List Blk) : Prop :=
  ∃ h1 junk k, resAV T s h' rs = some [.lst sz l (some k)] ∧ h' = h1 ++ junk ∧ Chg h.length h h1 ∧ h.length ≤ k ∧ h'[k]? = some (.tok e sz l.length) ∧ (∀ c ∈ flat l, Blw h.length c) ∧
    K (.lst sz l (some h.length)) (h1 ++ [.tok e sz l.length])

theorem acallT_of_vc (hT : TabOK P T) {f : FuncId} {fn : Func} (hf : P.funcs[f]? = some fn) (hname : (fn.name == "runtime.NumGoroutine") = false) (hb : fn.body = some c) {args : List AV} {K : AV → List Blk → Prop}
    {n : Nat} (hn : fn.ntmps = n) {rs : List ResultVar} (hrs : fn.results.toList = rs) {e : TypeId} {sz : Nat} {l : List AV}
    (hv : vc P T c (finPost (FinT T rs h e sz l K)) (args ++ List.replicate (n - args.length) (.tup [])) h) : ACall P f args h K := by
  intro S φ w vs hr hargs
  refine ⟨run_callFunc hf hname (by rw [hb]; rfl) vs w, ?_⟩
  have htmps : CAll S w φ (args ++ List.replicate (n - args.length) (.tup [])) (vs ++ Array.replicate (fn.ntmps - vs.size) undef) := by
    refine hargs.append ⟨by rw [Array.size_replicate, List.length_replicate, hn, hargs.1], fun i x v hx hv => ?_⟩
    rw [List.getElem?_replicate] at hx
    rw [Array.getElem?_replicate] at hv
    split at hx
    · split at hv
      · cases hx; cases hv; exact C.undef_
      · cases hv
    · cases hx
  refine calls_of_vc hT hf hb hv htmps hr ?_
  intro tmps s' h' S' φ' w' hG hs' hr' he
  revert hG
  rintro ⟨h1, junk, k, hl, rfl, hchg, hkl, hk, hbl, hKr⟩
  obtain ⟨k1, k2⟩ := swap_sound hr hr' he hchg hk hkl
  have g3 := results_plain hT hs' hr' (fn := fn) (a := { tmps := tmps, defers := [] }) (by rw [hrs]; exact hl)
  obtain ⟨v', e1, e2⟩ := g3
  refine ⟨v', e1, v', _, _, S', _, rfl, hKr, ?_, k1, k2⟩
  have hlow : ∀ j, j < h.length → (fun j => if j < h.length then φ' j else if j = h.length then φ' k else Loc.no) j = φ' j := fun j hj => by simp [hj]
  have e3 : C S' w' φ' (.lst sz l (some k)) v' := e2
  cases e3 with
  | lst _ _ _ a len cap u hlen hcap hmax hsz hm hc h1' ht =>
    exact .lst sz l _ a len cap u hlen hcap hmax hsz hm (fun j c hj => Blw.C hlow (hc j c hj) (hbl c (List.mem_of_getElem? hj))) h1' (by simpa [TokOK] using ht)
  | lstnil _ _ ht => exact .lstnil _ _ (by simpa [TokOK] using ht)

/-- A slot that holds no slice becomes an empty list with a token. -/
theorem ghost_tok (t : Nat) (e : TypeId) (sz : Nat) (ht : s[t]? = some (.raw (.slice none 0 0))) : Ghost s h (s.set t (.lst sz [] (some h.length))) (h ++ [.tok e sz 0]) := by
  intro S φ w vs hs hr
  obtain ⟨k1, k2⟩ := hr.push (l := .tok 0 (.slice none 0 0)) (x := .tok e sz 0) (S' := S) (w' := w) rfl rfl rfl (Nat.le_refl _) (fun _ _ => rfl) (fun _ h => h) (fun _ h => .inl h) hr.bnd
    ⟨_, upd_same _ _ _, .inl ⟨rfl, rfl⟩⟩ (fun b hb => by simp [blockOf] at hb)
  refine ⟨S, _, ?_, k1, k2⟩
  have hs' := k2.CAll hs
  obtain ⟨v, hv, hc⟩ := hs.at ht
  cases hc
  have := hs'.set t (C.lstnil (S := S) (w := w) sz (some h.length) ⟨_, _, upd_same _ _ _, Nat.le_refl _, fun _ => rfl⟩)
  have e : vs.setIfInBounds t (.slice none 0 0) = vs := by
    apply Array.ext
    · simp
    · intro i h1 h2
      by_cases ei : t = i
      · subst ei
        have hv' : vs[t] = .slice none 0 0 := by
          rw [Array.getElem?_eq_getElem h2] at hv
          exact Option.some.inj hv
        simp [hv']
      · simp [h2, ei]
  rw [e] at this
  exact this

theorem R.recell {S : Addr → Prop} {φ : Nat → Loc} {w : World} {k : Nat} {t : TypeId} {cs cs' : List AV} (r : R S φ h w) (hk : h[k]? = some (.cells t cs)) (hc : ∀ vs, CAll S w φ cs vs → CAll S w φ cs' vs) :
    R S φ (h.set k (.cells t cs')) w ∧ Ext S φ h w S φ (h.set k (.cells t cs')) w := by
  have hkl : k < h.length := by obtain ⟨a, _⟩ := List.getElem?_eq_some_iff.1 hk; exact a
  have hin : ∀ (j : Nat) x, (h.set k (.cells t cs'))[j]? = some x → (j = k ∧ x = .cells t cs') ∨ (j ≠ k ∧ h[j]? = some x) := by
    intro j x hj
    rw [List.getElem?_set] at hj
    split at hj
    · rename_i e
      subst e
      cases hj
      exact .inl ⟨rfl, rfl⟩
    · exact .inr ⟨fun e => by subst e; contradiction, hj⟩
  have hback : ∀ (j : Nat) x b, (h.set k (.cells t cs'))[j]? = some x → blockOf (φ j) x = some b → ∃ y, h[j]? = some y ∧ blockOf (φ j) y = some b := by
    intro j x b hj hb
    rcases hin j x hj with ⟨rfl, rfl⟩ | ⟨_, g⟩
    · refine ⟨_, hk, ?_⟩
      cases hl : φ j <;> rw [hl] at hb <;> simp [blockOf] at hb ⊢ <;> exact hb
    · exact ⟨x, g, hb⟩
  refine ⟨⟨fun j x hj => ?_, fun j j' x x' b hj hj' hb hb' => ?_, r.bnd, fun j hj => r.fresh j (by simpa using hj)⟩, ⟨rfl, rfl, rfl, Nat.le_refl _, fun _ _ _ => rfl, fun _ h => h, fun _ _ => rfl, fun _ => Loc.le_refl _, fun _ h => .inl h, ?_⟩⟩
  · rcases hin j x hj with ⟨rfl, rfl⟩ | ⟨_, g⟩
    · obtain ⟨b, vs, h1, h2, h3, h4, h5⟩ := r.blk j _ hk
      exact ⟨b, vs, h1, h2, hc vs h3, h4, h5⟩
    · exact r.blk j x g
  · obtain ⟨y, g1, g2⟩ := hback j x b hj hb
    obtain ⟨y', g3, g4⟩ := hback j' x' b hj' hb'
    exact r.inj j j' y y' b g1 g3 g2 g4
  · rintro b ⟨j, x, hj, hb⟩
    obtain ⟨y, g1, g2⟩ := hback j x b hj hb
    exact .inl ⟨j, y, g1, g2⟩

theorem CAll.nil_tok {S : Addr → Prop} {φ : Nat → Loc} {w : World} {m i : Nat} {cs : List AV} {vs : Array Value} (sz : Nat) (hs : CAll S w φ cs vs) (ht : cs[i]? = some (.raw (.slice none 0 0))) (hm : TokOK φ (some m) 0 (.slice none 0 0)) : CAll S w φ (cs.set i (.lst sz [] (some m))) vs := by
  obtain ⟨v, hv, hc⟩ := hs.at ht
  cases hc
  have := hs.set i (C.lstnil (S := S) (w := w) sz (some m) hm)
  have e : vs.setIfInBounds i (.slice none 0 0) = vs := by
    apply Array.ext
    · simp
    · intro j h1 h2
      by_cases ei : i = j
      · subst ei
        have hv' : vs[i] = .slice none 0 0 := by
          rw [Array.getElem?_eq_getElem h2] at hv
          exact Option.some.inj hv
        simp [hv']
      · simp [h2, ei]
  rw [e] at this
  exact this

/-- A cell that holds no slice comes to hold an empty list with a token. -/
theorem ghost_cell (k i : Nat) (e : TypeId) (sz : Nat) {t : TypeId} {cs : List AV} (hk : h[k]? = some (.cells t cs)) (ht : cs[i]? = some (.raw (.slice none 0 0))) :
    Ghost s h s ((h ++ [Blk.tok e sz 0]).set k (Blk.cells t (cs.set i (.lst sz [] (some h.length))))) := by
  intro S φ w vs hs hr
  obtain ⟨k1, k2⟩ := hr.push (l := .tok 0 (.slice none 0 0)) (x := .tok e sz 0) (S' := S) (w' := w) rfl rfl rfl (Nat.le_refl _) (fun _ _ => rfl) (fun _ h => h) (fun _ h => .inl h) hr.bnd
    ⟨_, upd_same _ _ _, .inl ⟨rfl, rfl⟩⟩ (fun b hb => by simp [blockOf] at hb)
  obtain ⟨q1, q2⟩ := k1.recell (k := k) (t := t) (cs := cs) (cs' := cs.set i (.lst sz [] (some h.length)))
    (by rw [List.getElem?_append_left (by obtain ⟨a, _⟩ := List.getElem?_eq_some_iff.1 hk; exact a)]; exact hk)
    (fun vs hc => hc.nil_tok sz ht ⟨_, _, upd_same _ _ _, Nat.le_refl _, fun _ => rfl⟩)
  exact ⟨S, _, q2.CAll (k2.CAll hs), q1, k2.trans q2⟩

/-- A contract in the empty heap whose result is a fresh slice, in any heap. -/
theorem tcall {f : FuncId} {args : List AV} {e : TypeId} {sz : Nat} {l : List AV} {K : AV → List Blk → Prop} (hv : ∀ KK : AV → List Blk → Prop, KK (.lst sz l (some 0)) [.tok e sz l.length] → ACall P f args [] KK)
    (pa : ∀ x ∈ args, Pure x) (pl : ∀ c ∈ flat l, Pure c) (hK : K (.lst sz l (some h.length)) (h ++ [.tok e sz l.length])) : ACall P f args h K := by
  intro S φ w vs hr hargs
  obtain ⟨henter, hcalls⟩ := hv (fun r h' => r = .lst sz l (some 0) ∧ h' = [.tok e sz l.length]) ⟨rfl, rfl⟩ S (fun _ => .no) w vs (R.nil hr.bnd) (hargs.pure _ pa)
  refine ⟨henter, Calls.mono hcalls ?_⟩
  rintro e' w' ⟨v, r, h', S', φ', rfl, ⟨rfl, rfl⟩, hc, hr', he⟩
  obtain ⟨u, q1, q2⟩ := hr'.blk 0 _ rfl
  obtain ⟨k1, k2⟩ := hr.push (l := φ' 0) (x := .tok e sz l.length) he.os he.tape he.output he.size (fun b hb => he.keep b hb no_owns) he.sub (fun a ha => (he.new a ha).imp_right (fun x => x.resolve_right no_owns)) hr'.bnd
    ⟨u, by rw [upd_same, q1], q2⟩ (fun b hb => (he.own b ⟨0, _, rfl, hb⟩).resolve_left no_owns)
  refine ⟨v, _, _, S', _, rfl, hK, ?_, k1, k2⟩
  cases hc with
  | lst _ _ _ a len cap u hlen hcap hmax hsz hm hc h1' ht =>
    exact .lst sz l _ a len cap u hlen hcap hmax hsz hm (fun j c hj => (hc j c hj).pure _ (pl c (List.mem_of_getElem? hj))) h1' (by simpa [TokOK, upd_same] using ht)
  | lstnil _ _ ht => exact .lstnil _ _ (by simpa [TokOK, upd_same] using ht)

theorem finTk {rs : List ResultVar} {e : TypeId} {sz : Nat} {l l0 : List AV} {k n : Nat} {h' : List Blk} {KK : AV → List Blk → Prop} (hk0 : KK (.lst sz l (some 0)) [.tok e sz l.length]) (hl : resAV T s h' rs = some [.lst sz l0 (some k)]) (hll : l0 = l) (hk : h'[k]? = some (.tok e sz n)) (hn : n = l.length)
    (hb : ∀ c ∈ flat l, Go.Abs.Pure c) : FinT T rs [] e sz l KK s h' := by
  subst hll hn
  exact ⟨[], h', k, hl, rfl, .refl _ _, Nat.zero_le _, hk, fun c hc => Blw.pure (hb c hc), hk0⟩
attribute [irreducible] FinT
end
end Go.Abs

namespace Go.Proofs.YtipcmpkihhfhcaaDoor
open Go.Abs
set_option maxRecDepth 20000
set_option linter.unusedSimpArgs false
set_option linter.unusedVariables false
set_option maxHeartbeats 1000000
attribute [local irreducible] vc vcOps vcStep vcGuard prK hrK gK gsK brK callK ElemK SeqK BlockK ScopeK OpsK CallK LoopK LoopGo finPost ACall PCall PCallE BCall vqOps vqStep vqGuard qrK heK pcK gqK gqsK QOpsK qcallK DrawK
theorem n19 : (Tryd.f19.name == "runtime.NumGoroutine") = false := by kernel_rfl
theorem depth22 : ∀ (e : Ex), (parts e).length ≤ 100000 → PCall Tryd.prog 19 [e.enc] (.i (depthE e : Nat)) := by
  intro e
  induction e using Ex.ind with
  | _ e ih =>
  intro hl
  refine pcall_of_vc tabOK Tryd.func19 n19 rfl (by repeat' first | exact pure_nil | refine pure_cons ?_ ?_ | exact .raw _ | exact pure_enc _ | exact pure_lst _ | exact pure_strs _ | exact pure_ints _ | exact DTy.pure _ | exact DTy.pures _ | exact DEnum.pure _ | exact DEnum.pures _ | exact DDecl.pure _ | exact DDecl.pures _ | exact DEq.pure _ | exact DEq.pures _ | exact DNode.pure _ | exact DNode.pures _ | exact DProg.pure _ | exact DProg.pures _ | exact DCond.pure _ | exact DCond.pures _ | exact DAtom.pure _ | exact DAtom.pures _ | exact DPlain.pure _ | exact DPlain.pures _ | exact DVar.pure _ | exact DVar.pures _ | exact DFlow.pure _ | exact DFlow.pures _ | exact DFlows.pure _ | exact DFlows.pures _ | exact DAsked.pure _ | exact DAsked.pures _ | exact DFault.pure _ | exact DFault.pures _ | exact DCell.pure _ | exact DCell.pures _ | exact DReply.pure _ | exact DReply.pures _ | exact DAsk.pure _ | exact DAsk.pures _ | exact DOp.pure _ | exact DOp.pures _ | exact pure_list (fun x => DDecl.pures x) _ | exact .fn _ _ _ pure_nil pure_nil | refine .agg _ ?_ | refine .tup _ ?_ | assumption) (by repeat' first | exact pure_nil | refine pure_cons ?_ ?_ | exact .raw _ | exact pure_enc _ | exact pure_lst _ | exact pure_strs _ | exact pure_ints _ | exact DTy.pure _ | exact DTy.pures _ | exact DEnum.pure _ | exact DEnum.pures _ | exact DDecl.pure _ | exact DDecl.pures _ | exact DEq.pure _ | exact DEq.pures _ | exact DNode.pure _ | exact DNode.pures _ | exact DProg.pure _ | exact DProg.pures _ | exact DCond.pure _ | exact DCond.pures _ | exact DAtom.pure _ | exact DAtom.pures _ | exact DPlain.pure _ | exact DPlain.pures _ | exact DVar.pure _ | exact DVar.pures _ | exact DFlow.pure _ | exact DFlow.pures _ | exact DFlows.pure _ | exact DFlows.pures _ | exact DAsked.pure _ | exact DAsked.pures _ | exact DFault.pure _ | exact DFault.pures _ | exact DCell.pure _ | exact DCell.pures _ | exact DReply.pure _ | exact DReply.pures _ | exact DAsk.pure _ | exact DAsk.pures _ | exact DOp.pure _ | exact DOp.pures _ | exact pure_list (fun x => DDecl.pures x) _ | exact .fn _ _ _ pure_nil pure_nil | refine .agg _ ?_ | refine .tup _ ?_ | assumption) (n := 20) rfl (rs := [.tmp 2]) rfl ?_
  simp only [go_sem, Nat.reduceAdd, Nat.reduceSub, Nat.reduceMul, Nat.reduceLT, Nat.reduceLeDiff, Nat.reduceEqDiff, Nat.reduceBEq, Nat.reduceBNe, Nat.reducePow, Int.reduceEq, Int.reduceNe, Int.reduceLT, Int.reduceLE, Int.reduceGT, Int.reduceGE, Int.reduceAdd, Int.reduceSub, Int.reduceNeg, Int.reduceMul, not_true_eq_false, not_false_eq_true, true_and, and_true, Int.reduceToNat]
  intro _
  refine loop_frX [3, 5, 9, 10, 11, 12, 13, 14, 15, 16, 17] (fun m C => ∃ i : Nat, i ≤ e.subs.length ∧ m = e.subs.length - i ∧ C = [(9, .raw (.int .i64 (i : Nat))), (3, .raw (.int .i64 (depthL (e.subs.take i) : Nat)))]) e.subs.length _ ⟨0, by omega, by omega, rfl⟩ (.cons rfl (.cons (by simp [depthL]) .nil)) ?_
  rintro m C j r ⟨i, hi, rfl, rfl⟩
  simp only [go_sem, Nat.reduceAdd, Nat.reduceSub, Nat.reduceMul, Nat.reduceLT, Nat.reduceLeDiff, Nat.reduceEqDiff, Nat.reduceBEq, Nat.reduceBNe, Nat.reducePow, Int.reduceEq, Int.reduceNe, Int.reduceLT, Int.reduceLE, Int.reduceGT, Int.reduceGE, Int.reduceAdd, Int.reduceSub, Int.reduceNeg, Int.reduceMul, not_true_eq_false, not_false_eq_true, true_and, and_true, Int.reduceToNat]
  refine brK_dec (fun hlt => ?_) (fun hge => ?_)
  · simp only [go_sem, Nat.reduceAdd, Nat.reduceSub, Nat.reduceMul, Nat.reduceLT, Nat.reduceLeDiff, Nat.reduceEqDiff, Nat.reduceBEq, Nat.reduceBNe, Nat.reducePow, Int.reduceEq, Int.reduceNe, Int.reduceLT, Int.reduceLE, Int.reduceGT, Int.reduceGE, Int.reduceAdd, Int.reduceSub, Int.reduceNeg, Int.reduceMul, not_true_eq_false, not_false_eq_true, true_and, and_true, Int.reduceToNat]
    refine elemMap (by omega) (by omega) (fun x hx => ?_)
    have hx' : e.subs[i]? = some x := by simpa using hx
    simp only [go_sem, Nat.reduceAdd, Nat.reduceSub, Nat.reduceMul, Nat.reduceLT, Nat.reduceLeDiff, Nat.reduceEqDiff, Nat.reduceBEq, Nat.reduceBNe, Nat.reducePow, Int.reduceEq, Int.reduceNe, Int.reduceLT, Int.reduceLE, Int.reduceGT, Int.reduceGE, Int.reduceAdd, Int.reduceSub, Int.reduceNeg, Int.reduceMul, not_true_eq_false, not_false_eq_true, true_and, and_true, Int.reduceToNat]
    refine PCall.call (ih x (List.mem_of_getElem? hx') (sub_small (List.mem_of_getElem? hx') hl)) ?_
    simp only [go_sem, Nat.reduceAdd, Nat.reduceSub, Nat.reduceMul, Nat.reduceLT, Nat.reduceLeDiff, Nat.reduceEqDiff, Nat.reduceBEq, Nat.reduceBNe, Nat.reducePow, Int.reduceEq, Int.reduceNe, Int.reduceLT, Int.reduceLE, Int.reduceGT, Int.reduceGE, Int.reduceAdd, Int.reduceSub, Int.reduceNeg, Int.reduceMul, not_true_eq_false, not_false_eq_true, true_and, and_true, Int.reduceToNat, max_step hx']
    exact loopFrX _ (by omega) _ ⟨i + 1, by omega, rfl, rfl⟩ (.next rfl (by omega) (.cons rfl .nil)) rfl (by first | rfl | (simp only [List.append_assoc, List.cons_append, List.nil_append]; rfl))
  · have hie : i = e.subs.length := by omega
    subst hie
    have hd := depth_le e
    rw [depthE_eq] at hd ⊢
    rw [List.take_length]
    simp only [go_sem, Nat.reduceAdd, Nat.reduceSub, Nat.reduceMul, Nat.reduceLT, Nat.reduceLeDiff, Nat.reduceEqDiff, Nat.reduceBEq, Nat.reduceBNe, Nat.reducePow, Int.reduceEq, Int.reduceNe, Int.reduceLT, Int.reduceLE, Int.reduceGT, Int.reduceGE, Int.reduceAdd, Int.reduceSub, Int.reduceNeg, Int.reduceMul, not_true_eq_false, not_false_eq_true, true_and, and_true, Int.reduceToNat]
    rw [wrap_in _ (by omega) (by omega)]
    exact ⟨_, rfl, false, .refl _⟩
theorem n21 : (Tryd.f21.name == "runtime.NumGoroutine") = false := by kernel_rfl
theorem vars25 (e : Ex) (hb : (parts e).length ≤ 100000) : PCall Tryd.prog 21 [e.enc] (.lst 1 ((varsE (parts e)).map AV.s) none) := by
  refine pcall_of_vc tabOK Tryd.func21 n21 rfl (by repeat' first | exact pure_nil | refine pure_cons ?_ ?_ | exact .raw _ | exact pure_enc _ | exact pure_lst _ | exact pure_strs _ | exact pure_ints _ | exact DTy.pure _ | exact DTy.pures _ | exact DEnum.pure _ | exact DEnum.pures _ | exact DDecl.pure _ | exact DDecl.pures _ | exact DEq.pure _ | exact DEq.pures _ | exact DNode.pure _ | exact DNode.pures _ | exact DProg.pure _ | exact DProg.pures _ | exact DCond.pure _ | exact DCond.pures _ | exact DAtom.pure _ | exact DAtom.pures _ | exact DPlain.pure _ | exact DPlain.pures _ | exact DVar.pure _ | exact DVar.pures _ | exact DFlow.pure _ | exact DFlow.pures _ | exact DFlows.pure _ | exact DFlows.pures _ | exact DAsked.pure _ | exact DAsked.pures _ | exact DFault.pure _ | exact DFault.pures _ | exact DCell.pure _ | exact DCell.pures _ | exact DReply.pure _ | exact DReply.pures _ | exact DAsk.pure _ | exact DAsk.pures _ | exact DOp.pure _ | exact DOp.pures _ | exact pure_list (fun x => DDecl.pures x) _ | exact .fn _ _ _ pure_nil pure_nil | refine .agg _ ?_ | refine .tup _ ?_ | assumption) (pure_strs _) (n := 20) rfl (rs := [.tmp 2]) rfl ?_
  simp only [go_sem, Nat.reduceAdd, Nat.reduceSub, Nat.reduceMul, Nat.reduceLT, Nat.reduceLeDiff, Nat.reduceEqDiff, Nat.reduceBEq, Nat.reduceBNe, Nat.reducePow, Int.reduceEq, Int.reduceNe, Int.reduceLT, Int.reduceLE, Int.reduceGT, Int.reduceGE, Int.reduceAdd, Int.reduceSub, Int.reduceNeg, Int.reduceMul, not_true_eq_false, not_false_eq_true, true_and, and_true, Int.reduceToNat]
  refine each28 e ?_
  simp only [go_sem, Nat.reduceAdd, Nat.reduceSub, Nat.reduceMul, Nat.reduceLT, Nat.reduceLeDiff, Nat.reduceEqDiff, Nat.reduceBEq, Nat.reduceBNe, Nat.reducePow, Int.reduceEq, Int.reduceNe, Int.reduceLT, Int.reduceLE, Int.reduceGT, Int.reduceGE, Int.reduceAdd, Int.reduceSub, Int.reduceNeg, Int.reduceMul, not_true_eq_false, not_false_eq_true, true_and, and_true, Int.reduceToNat]
  intro l
  refine acall_ghost (ghost_cell 1 0 9 1 rfl rfl) ?_
  refine each_range e 3 2 1 (fun _ => True) (fun n => [exBx e, .cells 22 [.lst 1 ((varsE ((parts e).take n)).map AV.s) (some 4)], exBx e]) (fun n => [.tok 9 1 (varsE ((parts e).take n)).length]) (fun _ => False) (fun _ => rfl) (fun _ => rfl) (fun _ h => h.elim) rfl rfl rfl rfl trivial (fun n z r K hz _ hK1 _ => ?_) (fun r _ => ?_) (fun _ _ _ h => h.elim)
  · have hn := (List.getElem?_eq_some_iff.1 hz).1
    have hK1 := hK1 trivial
    have hle := varsE_le ((parts e).take n)
    rw [List.length_take] at hle
    rw [varsE_step hz] at hK1
    simp only [go_sem, Nat.reduceAdd, Nat.reduceSub, Nat.reduceMul, Nat.reduceLT, Nat.reduceLeDiff, Nat.reduceEqDiff, Nat.reduceBEq, Nat.reduceBNe, Nat.reducePow, Int.reduceEq, Int.reduceNe, Int.reduceLT, Int.reduceLE, Int.reduceGT, Int.reduceGE, Int.reduceAdd, Int.reduceSub, Int.reduceNeg, Int.reduceMul, not_true_eq_false, not_false_eq_true, true_and, and_true, Int.reduceToNat, setPs, roundA]
    repeat' first
      | (exfalso; omega)
      | simp only [go_sem, Nat.reduceAdd, Nat.reduceSub, Nat.reduceMul, Nat.reduceLT, Nat.reduceLeDiff, Nat.reduceEqDiff, Nat.reduceBEq, Nat.reduceBNe, Nat.reducePow, Int.reduceEq, Int.reduceNe, Int.reduceLT, Int.reduceLE, Int.reduceGT, Int.reduceGE, Int.reduceAdd, Int.reduceSub, Int.reduceNeg, Int.reduceMul, not_true_eq_false, not_false_eq_true, true_and, and_true, Int.reduceToNat, roundB]
      | refine ⟨rfl, ?_⟩
      | refine brK_dec (fun _ => ?_) (fun _ => ?_)
      | refine ⟨by omega, ?_⟩
      | (have hv : isV z = true := (by simp [isV, *]; done); rw [if_pos hv] at hK1; have hk := hK1 [exBx z, .tok 9 1 1]; (simpa using hk); done)
      | (have hv : ¬ isV z = true := (by simp [isV, *]; done); rw [if_neg hv] at hK1; have hk := hK1 [exBx z]; (simpa using hk); done)
  · rw [List.take_length]
    simp only [go_sem, Nat.reduceAdd, Nat.reduceSub, Nat.reduceMul, Nat.reduceLT, Nat.reduceLeDiff, Nat.reduceEqDiff, Nat.reduceBEq, Nat.reduceBNe, Nat.reducePow, Int.reduceEq, Int.reduceNe, Int.reduceLT, Int.reduceLE, Int.reduceGT, Int.reduceGE, Int.reduceAdd, Int.reduceSub, Int.reduceNeg, Int.reduceMul, not_true_eq_false, not_false_eq_true, true_and, and_true, Int.reduceToNat]
    exact ⟨_, rfl, false, .tok _ _ _⟩
theorem n11 : (Tryd.f11.name == "runtime.NumGoroutine") = false := by kernel_rfl
theorem right16 (e : Ex) (ho : okE e) : PCall Tryd.prog 11 [e.enc] (.b (rightE e)) := by
  have hb : (parts e).length ≤ 100000 := by have := ho.1; omega
  refine pcall_of_vc tabOK Tryd.func11 n11 rfl (by repeat' first | exact pure_nil | refine pure_cons ?_ ?_ | exact .raw _ | exact pure_enc _ | exact pure_lst _ | exact pure_strs _ | exact pure_ints _ | exact DTy.pure _ | exact DTy.pures _ | exact DEnum.pure _ | exact DEnum.pures _ | exact DDecl.pure _ | exact DDecl.pures _ | exact DEq.pure _ | exact DEq.pures _ | exact DNode.pure _ | exact DNode.pures _ | exact DProg.pure _ | exact DProg.pures _ | exact DCond.pure _ | exact DCond.pures _ | exact DAtom.pure _ | exact DAtom.pures _ | exact DPlain.pure _ | exact DPlain.pures _ | exact DVar.pure _ | exact DVar.pures _ | exact DFlow.pure _ | exact DFlow.pures _ | exact DFlows.pure _ | exact DFlows.pures _ | exact DAsked.pure _ | exact DAsked.pures _ | exact DFault.pure _ | exact DFault.pures _ | exact DCell.pure _ | exact DCell.pures _ | exact DReply.pure _ | exact DReply.pures _ | exact DAsk.pure _ | exact DAsk.pures _ | exact DOp.pure _ | exact DOp.pures _ | exact pure_list (fun x => DDecl.pures x) _ | exact .fn _ _ _ pure_nil pure_nil | refine .agg _ ?_ | refine .tup _ ?_ | assumption) (.raw _) (n := 18) rfl (rs := [.cell 2 4]) rfl ?_
  unfold rightE
  simp only [go_sem, Nat.reduceAdd, Nat.reduceSub, Nat.reduceMul, Nat.reduceLT, Nat.reduceLeDiff, Nat.reduceEqDiff, Nat.reduceBEq, Nat.reduceBNe, Nat.reducePow, Int.reduceEq, Int.reduceNe, Int.reduceLT, Int.reduceLE, Int.reduceGT, Int.reduceGE, Int.reduceAdd, Int.reduceSub, Int.reduceNeg, Int.reduceMul, not_true_eq_false, not_false_eq_true, true_and, and_true, Int.reduceToNat]
  refine PCall.call (size20 e hb) ?_
  by_cases h1 : (parts e).length ≤ 60 ∧ depthE e ≤ 12
  · rw [decide_eq_true h1.1, decide_eq_true h1.2]
    simp only [go_sem, Nat.reduceAdd, Nat.reduceSub, Nat.reduceMul, Nat.reduceLT, Nat.reduceLeDiff, Nat.reduceEqDiff, Nat.reduceBEq, Nat.reduceBNe, Nat.reducePow, Int.reduceEq, Int.reduceNe, Int.reduceLT, Int.reduceLE, Int.reduceGT, Int.reduceGE, Int.reduceAdd, Int.reduceSub, Int.reduceNeg, Int.reduceMul, not_true_eq_false, not_false_eq_true, true_and, and_true, Int.reduceToNat]
    refine gK_dec (fun _ => by exfalso; omega) (fun _ => ?_)
    simp only [go_sem, Nat.reduceAdd, Nat.reduceSub, Nat.reduceMul, Nat.reduceLT, Nat.reduceLeDiff, Nat.reduceEqDiff, Nat.reduceBEq, Nat.reduceBNe, Nat.reducePow, Int.reduceEq, Int.reduceNe, Int.reduceLT, Int.reduceLE, Int.reduceGT, Int.reduceGE, Int.reduceAdd, Int.reduceSub, Int.reduceNeg, Int.reduceMul, not_true_eq_false, not_false_eq_true, true_and, and_true, Int.reduceToNat]
    refine PCall.call (depth22 e hb) ?_
    simp only [go_sem, Nat.reduceAdd, Nat.reduceSub, Nat.reduceMul, Nat.reduceLT, Nat.reduceLeDiff, Nat.reduceEqDiff, Nat.reduceBEq, Nat.reduceBNe, Nat.reducePow, Int.reduceEq, Int.reduceNe, Int.reduceLT, Int.reduceLE, Int.reduceGT, Int.reduceGE, Int.reduceAdd, Int.reduceSub, Int.reduceNeg, Int.reduceMul, not_true_eq_false, not_false_eq_true, true_and, and_true, Int.reduceToNat]
    refine brK_dec (fun _ => by exfalso; omega) (fun _ => ?_)
    simp only [go_sem, Nat.reduceAdd, Nat.reduceSub, Nat.reduceMul, Nat.reduceLT, Nat.reduceLeDiff, Nat.reduceEqDiff, Nat.reduceBEq, Nat.reduceBNe, Nat.reducePow, Int.reduceEq, Int.reduceNe, Int.reduceLT, Int.reduceLE, Int.reduceGT, Int.reduceGE, Int.reduceAdd, Int.reduceSub, Int.reduceNeg, Int.reduceMul, not_true_eq_false, not_false_eq_true, true_and, and_true, Int.reduceToNat]
    refine each28 e ?_
    simp only [go_sem, Nat.reduceAdd, Nat.reduceSub, Nat.reduceMul, Nat.reduceLT, Nat.reduceLeDiff, Nat.reduceEqDiff, Nat.reduceBEq, Nat.reduceBNe, Nat.reducePow, Int.reduceEq, Int.reduceNe, Int.reduceLT, Int.reduceLE, Int.reduceGT, Int.reduceGE, Int.reduceAdd, Int.reduceSub, Int.reduceNeg, Int.reduceMul, not_true_eq_false, not_false_eq_true, true_and, and_true, Int.reduceToNat]
    intro l
    refine each_range e 3 2 0 (fun n => ∀ y ∈ (parts e).take n, partE y = true) (fun n => [exBx e, .cells 4 [.b false], exBx e]) (fun _ => []) (fun h => (parts e).all partE = false ∧ h = [exBx e, .cells 4 [.b false], exBx e]) (fun _ => rfl) (fun _ => rfl) (fun _ h => by rw [h.2]; rfl) rfl rfl rfl rfl (by simp) (fun n z r K hz hi hK1 hK2 => ?_) (fun r hi => ?_) (fun n h' r hs => ?_)
    · have hzm := List.mem_of_getElem? hz
      have hoz := ho.2 z hzm
      simp only [go_sem, Nat.reduceAdd, Nat.reduceSub, Nat.reduceMul, Nat.reduceLT, Nat.reduceLeDiff, Nat.reduceEqDiff, Nat.reduceBEq, Nat.reduceBNe, Nat.reducePow, Int.reduceEq, Int.reduceNe, Int.reduceLT, Int.reduceLE, Int.reduceGT, Int.reduceGE, Int.reduceAdd, Int.reduceSub, Int.reduceNeg, Int.reduceMul, not_true_eq_false, not_false_eq_true, true_and, and_true, Int.reduceToNat, setPs, roundA]
      try refine ⟨rfl, ?_⟩
      try simp only [go_sem, Nat.reduceAdd, Nat.reduceSub, Nat.reduceMul, Nat.reduceLT, Nat.reduceLeDiff, Nat.reduceEqDiff, Nat.reduceBEq, Nat.reduceBNe, Nat.reducePow, Int.reduceEq, Int.reduceNe, Int.reduceLT, Int.reduceLE, Int.reduceGT, Int.reduceGE, Int.reduceAdd, Int.reduceSub, Int.reduceNeg, Int.reduceMul, not_true_eq_false, not_false_eq_true, true_and, and_true, Int.reduceToNat]
      refine PCall.call (part46 z (by omega)) ?_
      rw [part_same]
      cases hp : partE z with
      | true =>
        have hk := hK1 (take_all hi hz hp) [exBx z]
        simp only [go_sem, Nat.reduceAdd, Nat.reduceSub, Nat.reduceMul, Nat.reduceLT, Nat.reduceLeDiff, Nat.reduceEqDiff, Nat.reduceBEq, Nat.reduceBNe, Nat.reducePow, Int.reduceEq, Int.reduceNe, Int.reduceLT, Int.reduceLE, Int.reduceGT, Int.reduceGE, Int.reduceAdd, Int.reduceSub, Int.reduceNeg, Int.reduceMul, not_true_eq_false, not_false_eq_true, true_and, and_true, Int.reduceToNat, roundB]
        first | exact hk | (simpa using hk) | (refine ⟨rfl, ?_⟩; simpa using hk)
      | false =>
        have hk := hK2 [exBx e, .cells 4 [.b false], exBx e] [exBx z] ⟨List.all_eq_false.2 ⟨z, hzm, by simp [hp]⟩, rfl⟩
        simp only [go_sem, Nat.reduceAdd, Nat.reduceSub, Nat.reduceMul, Nat.reduceLT, Nat.reduceLeDiff, Nat.reduceEqDiff, Nat.reduceBEq, Nat.reduceBNe, Nat.reducePow, Int.reduceEq, Int.reduceNe, Int.reduceLT, Int.reduceLE, Int.reduceGT, Int.reduceGE, Int.reduceAdd, Int.reduceSub, Int.reduceNeg, Int.reduceMul, not_true_eq_false, not_false_eq_true, true_and, and_true, Int.reduceToNat, roundB]
        first | exact hk | (simpa using hk) | (refine ⟨rfl, ?_⟩; simpa using hk)
    · rw [List.take_length] at hi
      rw [List.all_eq_true.2 hi]
      simp only [go_sem, Nat.reduceAdd, Nat.reduceSub, Nat.reduceMul, Nat.reduceLT, Nat.reduceLeDiff, Nat.reduceEqDiff, Nat.reduceBEq, Nat.reduceBNe, Nat.reducePow, Int.reduceEq, Int.reduceNe, Int.reduceLT, Int.reduceLE, Int.reduceGT, Int.reduceGE, Int.reduceAdd, Int.reduceSub, Int.reduceNeg, Int.reduceMul, not_true_eq_false, not_false_eq_true, true_and, and_true, Int.reduceToNat]
      exact ⟨_, rfl, false, .refl _⟩
    · obtain ⟨hs, rfl⟩ := hs
      simp only [go_sem, Nat.reduceAdd, Nat.reduceSub, Nat.reduceMul, Nat.reduceLT, Nat.reduceLeDiff, Nat.reduceEqDiff, Nat.reduceBEq, Nat.reduceBNe, Nat.reducePow, Int.reduceEq, Int.reduceNe, Int.reduceLT, Int.reduceLE, Int.reduceGT, Int.reduceGE, Int.reduceAdd, Int.reduceSub, Int.reduceNeg, Int.reduceMul, not_true_eq_false, not_false_eq_true, true_and, and_true, Int.reduceToNat]
      rw [hs]
      exact ⟨_, rfl, false, .refl _⟩
  · have hf : (decide ((parts e).length ≤ 60) && decide (depthE e ≤ 12)) = false := by
      by_cases q : (parts e).length ≤ 60
      · have : ¬ depthE e ≤ 12 := fun q' => h1 ⟨q, q'⟩
        simp [this]
      · simp [q]
    rw [hf, Bool.false_and]
    repeat' first
      | (exfalso; exact h1 ⟨by omega, by omega⟩)
      | simp only [go_sem, Nat.reduceAdd, Nat.reduceSub, Nat.reduceMul, Nat.reduceLT, Nat.reduceLeDiff, Nat.reduceEqDiff, Nat.reduceBEq, Nat.reduceBNe, Nat.reducePow, Int.reduceEq, Int.reduceNe, Int.reduceLT, Int.reduceLE, Int.reduceGT, Int.reduceGE, Int.reduceAdd, Int.reduceSub, Int.reduceNeg, Int.reduceMul, not_true_eq_false, not_false_eq_true, true_and, and_true, Int.reduceToNat]
      | refine brK_dec (fun _ => ?_) (fun _ => ?_)
      | refine gK_dec (fun _ => ?_) (fun _ => ?_)
      | refine PCall.call (depth22 e hb) ?_
      | exact ⟨_, rfl, false, .refl _⟩
end Go.Proofs.YtipcmpkihhfhcaaDoor

namespace Go.Proofs.YtipcmpkihhfhcaaDoor
open Go.Abs
set_option maxRecDepth 20000
set_option linter.unusedSimpArgs false
set_option linter.unusedVariables false
set_option maxHeartbeats 1000000
attribute [local irreducible] vc vcOps vcStep vcGuard prK hrK gK gsK brK callK ElemK SeqK BlockK ScopeK OpsK CallK LoopK LoopGo finPost ACall PCall PCallE BCall vqOps vqStep vqGuard qrK heK pcK gqK gqsK QOpsK qcallK DrawK
theorem n93 : (Tryd.f93.name == "runtime.NumGoroutine") = false := by kernel_rfl
/-- slices.IndexFunc: the first place at which the function answers true; it is left where it is: memory stays. -/
theorem indexEn {l : List DEnum} {p : DEnum → Bool} {g : Nat} {first capt : List AV} {h : List Blk} {K : AV → List Blk → Prop} (hp : ∀ x ∈ l, ∀ K : AV → List Blk → Prop, K (.b (p x)) h → ACall Tryd.prog g (first ++ DEnum.enc x :: capt) h K)
    (hK : K (.i (idxOf p l)) h) : ACall Tryd.prog 93 [.lst 2 (l.map (DEnum.enc)) none, .fn (.func g) first capt] h K := by
  refine acall_of_vc tabOK Tryd.func93 n93 rfl (n := 19) rfl (rs := [.tmp 4]) rfl ?_
  simp only [go_sem, Nat.reduceAdd, Nat.reduceSub, Nat.reduceMul, Nat.reduceLT, Nat.reduceLeDiff, Nat.reduceEqDiff, Nat.reduceBEq, Nat.reduceBNe, Nat.reducePow, Int.reduceEq, Int.reduceNe, Int.reduceLT, Int.reduceLE, Int.reduceGT, Int.reduceGE, Int.reduceAdd, Int.reduceSub, Int.reduceNeg, Int.reduceMul, not_true_eq_false, not_false_eq_true, true_and, and_true, Int.reduceToNat]
  intro hlen
  refine loop_frH [5, 8, 9, 10, 11, 12, 13, 14, 15, 16, 18] (fun n C => ∃ (i : Nat), i ≤ l.length ∧ n = l.length - i ∧ (∀ x ∈ l.take i, p x = false) ∧ C = [(8, .raw (.int .i64 (i : Nat)))]) l.length _ ⟨0, by omega, by omega, by simp, rfl⟩ (.cons rfl .nil) ?_
  rintro n C j ⟨i, hi, rfl, hp0, rfl⟩
  simp only [go_sem, Nat.reduceAdd, Nat.reduceSub, Nat.reduceMul, Nat.reduceLT, Nat.reduceLeDiff, Nat.reduceEqDiff, Nat.reduceBEq, Nat.reduceBNe, Nat.reducePow, Int.reduceEq, Int.reduceNe, Int.reduceLT, Int.reduceLE, Int.reduceGT, Int.reduceGE, Int.reduceAdd, Int.reduceSub, Int.reduceNeg, Int.reduceMul, not_true_eq_false, not_false_eq_true, true_and, and_true, Int.reduceToNat]
  refine brK_dec (fun hlt => ?_) (fun hge => ?_)
  · simp only [go_sem, Nat.reduceAdd, Nat.reduceSub, Nat.reduceMul, Nat.reduceLT, Nat.reduceLeDiff, Nat.reduceEqDiff, Nat.reduceBEq, Nat.reduceBNe, Nat.reducePow, Int.reduceEq, Int.reduceNe, Int.reduceLT, Int.reduceLE, Int.reduceGT, Int.reduceGE, Int.reduceAdd, Int.reduceSub, Int.reduceNeg, Int.reduceMul, not_true_eq_false, not_false_eq_true, true_and, and_true, Int.reduceToNat]
    refine elemMap (by omega) (by omega) (fun x hx => ?_)
    simp only [go_sem, Nat.reduceAdd, Nat.reduceSub, Nat.reduceMul, Nat.reduceLT, Nat.reduceLeDiff, Nat.reduceEqDiff, Nat.reduceBEq, Nat.reduceBNe, Nat.reducePow, Int.reduceEq, Int.reduceNe, Int.reduceLT, Int.reduceLE, Int.reduceGT, Int.reduceGE, Int.reduceAdd, Int.reduceSub, Int.reduceNeg, Int.reduceMul, not_true_eq_false, not_false_eq_true, true_and, and_true, Int.reduceToNat]
    refine hp x (List.mem_of_getElem? hx) _ ?_
    simp only [go_sem, Nat.reduceAdd, Nat.reduceSub, Nat.reduceMul, Nat.reduceLT, Nat.reduceLeDiff, Nat.reduceEqDiff, Nat.reduceBEq, Nat.reduceBNe, Nat.reducePow, Int.reduceEq, Int.reduceNe, Int.reduceLT, Int.reduceLE, Int.reduceGT, Int.reduceGE, Int.reduceAdd, Int.reduceSub, Int.reduceNeg, Int.reduceMul, not_true_eq_false, not_false_eq_true, true_and, and_true, Int.reduceToNat]
    cases hb : p x with
    | true =>
      simp only [go_sem, Nat.reduceAdd, Nat.reduceSub, Nat.reduceMul, Nat.reduceLT, Nat.reduceLeDiff, Nat.reduceEqDiff, Nat.reduceBEq, Nat.reduceBNe, Nat.reducePow, Int.reduceEq, Int.reduceNe, Int.reduceLT, Int.reduceLE, Int.reduceGT, Int.reduceGE, Int.reduceAdd, Int.reduceSub, Int.reduceNeg, Int.reduceMul, not_true_eq_false, not_false_eq_true, true_and, and_true, Int.reduceToNat]
      rw [idxOf_at hp0 hx hb] at hK
      exact finH1 rfl (.raw _) hK
    | false =>
      simp only [go_sem, Nat.reduceAdd, Nat.reduceSub, Nat.reduceMul, Nat.reduceLT, Nat.reduceLeDiff, Nat.reduceEqDiff, Nat.reduceBEq, Nat.reduceBNe, Nat.reducePow, Int.reduceEq, Int.reduceNe, Int.reduceLT, Int.reduceLE, Int.reduceGT, Int.reduceGE, Int.reduceAdd, Int.reduceSub, Int.reduceNeg, Int.reduceMul, not_true_eq_false, not_false_eq_true, true_and, and_true, Int.reduceToNat]
      exact loopFrH (l.length - (i + 1)) (by omega) ⟨i + 1, by omega, rfl, take_all hp0 (by rw [Int.toNat_natCast] at hx; exact hx) hb, rfl⟩ (.next rfl (by omega) .nil) rfl
  · simp only [go_sem, Nat.reduceAdd, Nat.reduceSub, Nat.reduceMul, Nat.reduceLT, Nat.reduceLeDiff, Nat.reduceEqDiff, Nat.reduceBEq, Nat.reduceBNe, Nat.reducePow, Int.reduceEq, Int.reduceNe, Int.reduceLT, Int.reduceLE, Int.reduceGT, Int.reduceGE, Int.reduceAdd, Int.reduceSub, Int.reduceNeg, Int.reduceMul, not_true_eq_false, not_false_eq_true, true_and, and_true, Int.reduceToNat]
    rw [idxOf_none (take_full hp0 (by omega))] at hK
    exact finH1 rfl (.raw _) hK

theorem n80 : (Tryd.f80.name == "runtime.NumGoroutine") = false := by kernel_rfl
theorem containsEn {l : List DEnum} {p : DEnum → Bool} {g : Nat} {first capt : List AV} {h : List Blk} {K : AV → List Blk → Prop} (hp : ∀ x ∈ l, ∀ K : AV → List Blk → Prop, K (.b (p x)) h → ACall Tryd.prog g (first ++ DEnum.enc x :: capt) h K)
    (hK : K (.b (l.any p)) h) : ACall Tryd.prog 80 [.lst 2 (l.map (DEnum.enc)) none, .fn (.func g) first capt] h K := by
  refine acall_of_vc tabOK Tryd.func80 n80 rfl (n := 9) rfl (rs := [.tmp 4]) rfl ?_
  simp only [go_sem, Nat.reduceAdd, Nat.reduceSub, Nat.reduceMul, Nat.reduceLT, Nat.reduceLeDiff, Nat.reduceEqDiff, Nat.reduceBEq, Nat.reduceBNe, Nat.reducePow, Int.reduceEq, Int.reduceNe, Int.reduceLT, Int.reduceLE, Int.reduceGT, Int.reduceGE, Int.reduceAdd, Int.reduceSub, Int.reduceNeg, Int.reduceMul, not_true_eq_false, not_false_eq_true, true_and, and_true, Int.reduceToNat]
  refine indexEn hp ?_
  simp only [go_sem, Nat.reduceAdd, Nat.reduceSub, Nat.reduceMul, Nat.reduceLT, Nat.reduceLeDiff, Nat.reduceEqDiff, Nat.reduceBEq, Nat.reduceBNe, Nat.reducePow, Int.reduceEq, Int.reduceNe, Int.reduceLT, Int.reduceLE, Int.reduceGT, Int.reduceGE, Int.reduceAdd, Int.reduceSub, Int.reduceNeg, Int.reduceMul, not_true_eq_false, not_false_eq_true, true_and, and_true, Int.reduceToNat]
  rw [idx_any]
  exact finH1 rfl (.raw _) hK

theorem n70 : (Tryd.f70.name == "runtime.NumGoroutine") = false := by kernel_rfl
theorem containsDe {l : List DDecl} {p : DDecl → Bool} {g : Nat} {first capt : List AV} {h : List Blk} {K : AV → List Blk → Prop} (hp : ∀ x ∈ l, ∀ K : AV → List Blk → Prop, K (.b (p x)) h → ACall Tryd.prog g (first ++ DDecl.enc x :: capt) h K)
    (hK : K (.b (l.any p)) h) : ACall Tryd.prog 70 [.lst 6 (l.map (DDecl.enc)) none, .fn (.func g) first capt] h K := by
  refine acall_of_vc tabOK Tryd.func70 n70 rfl (n := 9) rfl (rs := [.tmp 4]) rfl ?_
  simp only [go_sem, Nat.reduceAdd, Nat.reduceSub, Nat.reduceMul, Nat.reduceLT, Nat.reduceLeDiff, Nat.reduceEqDiff, Nat.reduceBEq, Nat.reduceBNe, Nat.reducePow, Int.reduceEq, Int.reduceNe, Int.reduceLT, Int.reduceLE, Int.reduceGT, Int.reduceGE, Int.reduceAdd, Int.reduceSub, Int.reduceNeg, Int.reduceMul, not_true_eq_false, not_false_eq_true, true_and, and_true, Int.reduceToNat]
  refine indexDecl hp ?_
  simp only [go_sem, Nat.reduceAdd, Nat.reduceSub, Nat.reduceMul, Nat.reduceLT, Nat.reduceLeDiff, Nat.reduceEqDiff, Nat.reduceBEq, Nat.reduceBNe, Nat.reducePow, Int.reduceEq, Int.reduceNe, Int.reduceLT, Int.reduceLE, Int.reduceGT, Int.reduceGE, Int.reduceAdd, Int.reduceSub, Int.reduceNeg, Int.reduceMul, not_true_eq_false, not_false_eq_true, true_and, and_true, Int.reduceToNat]
  rw [idx_any]
  exact finH1 rfl (.raw _) hK

theorem n66 : (Tryd.f66.name == "runtime.NumGoroutine") = false := by kernel_rfl
theorem containsNo {l : List DNode} {p : DNode → Bool} {g : Nat} {first capt : List AV} {h : List Blk} {K : AV → List Blk → Prop} (hp : ∀ x ∈ l, ∀ K : AV → List Blk → Prop, K (.b (p x)) h → ACall Tryd.prog g (first ++ DNode.enc x :: capt) h K)
    (hK : K (.b (l.any p)) h) : ACall Tryd.prog 66 [.lst 5 (l.map (DNode.enc)) none, .fn (.func g) first capt] h K := by
  refine acall_of_vc tabOK Tryd.func66 n66 rfl (n := 9) rfl (rs := [.tmp 4]) rfl ?_
  simp only [go_sem, Nat.reduceAdd, Nat.reduceSub, Nat.reduceMul, Nat.reduceLT, Nat.reduceLeDiff, Nat.reduceEqDiff, Nat.reduceBEq, Nat.reduceBNe, Nat.reducePow, Int.reduceEq, Int.reduceNe, Int.reduceLT, Int.reduceLE, Int.reduceGT, Int.reduceGE, Int.reduceAdd, Int.reduceSub, Int.reduceNeg, Int.reduceMul, not_true_eq_false, not_false_eq_true, true_and, and_true, Int.reduceToNat]
  refine indexNode hp ?_
  simp only [go_sem, Nat.reduceAdd, Nat.reduceSub, Nat.reduceMul, Nat.reduceLT, Nat.reduceLeDiff, Nat.reduceEqDiff, Nat.reduceBEq, Nat.reduceBNe, Nat.reducePow, Int.reduceEq, Int.reduceNe, Int.reduceLT, Int.reduceLE, Int.reduceGT, Int.reduceGE, Int.reduceAdd, Int.reduceSub, Int.reduceNeg, Int.reduceMul, not_true_eq_false, not_false_eq_true, true_and, and_true, Int.reduceToNat]
  rw [idx_any]
  exact finH1 rfl (.raw _) hK

theorem finHb {T : TypeId → TI} {s : List AV} {h : List Blk} {rs : List ResultVar} {K : AV → List Blk → Prop} {b c : Bool} (junk : List Blk) (hl : resAV T s (h ++ junk) rs = some [.b b]) (hK : K (.b c) h) (he : b = c) : FinH T rs h K s (h ++ junk) := finH0 junk hl (.raw _) (he ▸ hK)
theorem n81 : (Tryd.f81.name == "runtime.NumGoroutine") = false := by kernel_rfl
theorem n65 : (Tryd.f65.name == "runtime.NumGoroutine") = false := by kernel_rfl
theorem great74 (l : List DEnum) : PCall Tryd.prog 65 [.lst 2 (l.map DEnum.enc) none] (.b (greatE l)) := by
  refine pcall_of_vc tabOK Tryd.func65 n65 rfl (by repeat' first | exact pure_nil | refine pure_cons ?_ ?_ | exact .raw _ | exact pure_enc _ | exact pure_lst _ | exact pure_strs _ | exact pure_ints _ | exact DTy.pure _ | exact DTy.pures _ | exact DEnum.pure _ | exact DEnum.pures _ | exact DDecl.pure _ | exact DDecl.pures _ | exact DEq.pure _ | exact DEq.pures _ | exact DNode.pure _ | exact DNode.pures _ | exact DProg.pure _ | exact DProg.pures _ | exact DCond.pure _ | exact DCond.pures _ | exact DAtom.pure _ | exact DAtom.pures _ | exact DPlain.pure _ | exact DPlain.pures _ | exact DVar.pure _ | exact DVar.pures _ | exact DFlow.pure _ | exact DFlow.pures _ | exact DFlows.pure _ | exact DFlows.pures _ | exact DAsked.pure _ | exact DAsked.pures _ | exact DFault.pure _ | exact DFault.pures _ | exact DCell.pure _ | exact DCell.pures _ | exact DReply.pure _ | exact DReply.pures _ | exact DAsk.pure _ | exact DAsk.pures _ | exact DOp.pure _ | exact DOp.pures _ | exact pure_list (fun x => DDecl.pures x) _ | exact .fn _ _ _ pure_nil pure_nil | refine .agg _ ?_ | refine .tup _ ?_ | assumption) (by repeat' first | exact pure_nil | refine pure_cons ?_ ?_ | exact .raw _ | exact pure_enc _ | exact pure_lst _ | exact pure_strs _ | exact pure_ints _ | exact DTy.pure _ | exact DTy.pures _ | exact DEnum.pure _ | exact DEnum.pures _ | exact DDecl.pure _ | exact DDecl.pures _ | exact DEq.pure _ | exact DEq.pures _ | exact DNode.pure _ | exact DNode.pures _ | exact DProg.pure _ | exact DProg.pures _ | exact DCond.pure _ | exact DCond.pures _ | exact DAtom.pure _ | exact DAtom.pures _ | exact DPlain.pure _ | exact DPlain.pures _ | exact DVar.pure _ | exact DVar.pures _ | exact DFlow.pure _ | exact DFlow.pures _ | exact DFlows.pure _ | exact DFlows.pures _ | exact DAsked.pure _ | exact DAsked.pures _ | exact DFault.pure _ | exact DFault.pures _ | exact DCell.pure _ | exact DCell.pures _ | exact DReply.pure _ | exact DReply.pures _ | exact DAsk.pure _ | exact DAsk.pures _ | exact DOp.pure _ | exact DOp.pures _ | exact pure_list (fun x => DDecl.pures x) _ | exact .fn _ _ _ pure_nil pure_nil | refine .agg _ ?_ | refine .tup _ ?_ | assumption) (n := 10) rfl (rs := [.tmp 2]) rfl ?_
  repeat' first
    | (exfalso; omega)
    | simp only [go_sem, Nat.reduceAdd, Nat.reduceSub, Nat.reduceMul, Nat.reduceLT, Nat.reduceLeDiff, Nat.reduceEqDiff, Nat.reduceBEq, Nat.reduceBNe, Nat.reducePow, Int.reduceEq, Int.reduceNe, Int.reduceLT, Int.reduceLE, Int.reduceGT, Int.reduceGE, Int.reduceAdd, Int.reduceSub, Int.reduceNeg, Int.reduceMul, not_true_eq_false, not_false_eq_true, true_and, and_true, Int.reduceToNat]
    | (intro _)
    | refine gK_dec (fun _ => ?_) (fun _ => ?_)
    | (refine containsEn (p := fun e => decide (e.Ctors.length > 6)) (fun x hx K hK => ?_) ?_
       · refine acall_of_vc tabOK Tryd.func81 n81 rfl (n := 7) rfl (rs := [.tmp 2]) rfl ?_
         simp only [go_sem, Nat.reduceAdd, Nat.reduceSub, Nat.reduceMul, Nat.reduceLT, Nat.reduceLeDiff, Nat.reduceEqDiff, Nat.reduceBEq, Nat.reduceBNe, Nat.reducePow, Int.reduceEq, Int.reduceNe, Int.reduceLT, Int.reduceLE, Int.reduceGT, Int.reduceGE, Int.reduceAdd, Int.reduceSub, Int.reduceNeg, Int.reduceMul, not_true_eq_false, not_false_eq_true, true_and, and_true, Int.reduceToNat]
         (try intro _)
         refine finHb _ rfl hK ?_
         exact decide_eq_decide.2 (by omega))
    | (refine finBq rfl ?_; unfold greatE; (try rw [decide_eq_true (p := l.length > 4) (by omega)]); (try rw [decide_eq_false (p := l.length > 4) (by omega)]); simp; done)
theorem n84 : (Tryd.f84.name == "runtime.NumGoroutine") = false := by kernel_rfl
theorem rightTyP (l : List DEnum) (t : DTy) : PCall Tryd.prog 84 [.lst 2 (l.map DEnum.enc) none, t.enc] (.b (rightTyF l.length t)) := by
  refine pcall_of_vc tabOK Tryd.func84 n84 rfl (by repeat' first | exact pure_nil | refine pure_cons ?_ ?_ | exact .raw _ | exact pure_enc _ | exact pure_lst _ | exact pure_strs _ | exact pure_ints _ | exact DTy.pure _ | exact DTy.pures _ | exact DEnum.pure _ | exact DEnum.pures _ | exact DDecl.pure _ | exact DDecl.pures _ | exact DEq.pure _ | exact DEq.pures _ | exact DNode.pure _ | exact DNode.pures _ | exact DProg.pure _ | exact DProg.pures _ | exact DCond.pure _ | exact DCond.pures _ | exact DAtom.pure _ | exact DAtom.pures _ | exact DPlain.pure _ | exact DPlain.pures _ | exact DVar.pure _ | exact DVar.pures _ | exact DFlow.pure _ | exact DFlow.pures _ | exact DFlows.pure _ | exact DFlows.pures _ | exact DAsked.pure _ | exact DAsked.pures _ | exact DFault.pure _ | exact DFault.pures _ | exact DCell.pure _ | exact DCell.pures _ | exact DReply.pure _ | exact DReply.pures _ | exact DAsk.pure _ | exact DAsk.pures _ | exact DOp.pure _ | exact DOp.pures _ | exact pure_list (fun x => DDecl.pures x) _ | exact .fn _ _ _ pure_nil pure_nil | refine .agg _ ?_ | refine .tup _ ?_ | assumption) (by repeat' first | exact pure_nil | refine pure_cons ?_ ?_ | exact .raw _ | exact pure_enc _ | exact pure_lst _ | exact pure_strs _ | exact pure_ints _ | exact DTy.pure _ | exact DTy.pures _ | exact DEnum.pure _ | exact DEnum.pures _ | exact DDecl.pure _ | exact DDecl.pures _ | exact DEq.pure _ | exact DEq.pures _ | exact DNode.pure _ | exact DNode.pures _ | exact DProg.pure _ | exact DProg.pures _ | exact DCond.pure _ | exact DCond.pures _ | exact DAtom.pure _ | exact DAtom.pures _ | exact DPlain.pure _ | exact DPlain.pures _ | exact DVar.pure _ | exact DVar.pures _ | exact DFlow.pure _ | exact DFlow.pures _ | exact DFlows.pure _ | exact DFlows.pures _ | exact DAsked.pure _ | exact DAsked.pures _ | exact DFault.pure _ | exact DFault.pures _ | exact DCell.pure _ | exact DCell.pures _ | exact DReply.pure _ | exact DReply.pures _ | exact DAsk.pure _ | exact DAsk.pures _ | exact DOp.pure _ | exact DOp.pures _ | exact pure_list (fun x => DDecl.pures x) _ | exact .fn _ _ _ pure_nil pure_nil | refine .agg _ ?_ | refine .tup _ ?_ | assumption) (n := 33) rfl (rs := [.tmp 4]) rfl ?_
  repeat' first
    | exact finB rfl
    | exact finI rfl
    | exact finP rfl
    | exact absurd rfl (by assumption)
    | simp only [go_sem, Nat.reduceAdd, Nat.reduceSub, Nat.reduceMul, Nat.reduceLT, Nat.reduceLeDiff, Nat.reduceEqDiff, Nat.reduceBEq, Nat.reduceBNe, Nat.reducePow, Int.reduceEq, Int.reduceNe, Int.reduceLT, Int.reduceLE, Int.reduceGT, Int.reduceGE, Int.reduceAdd, Int.reduceSub, Int.reduceNeg, Int.reduceMul, not_true_eq_false, not_false_eq_true, true_and, and_true, Int.reduceToNat]
    | (intro _)
    | refine brK_dec (fun _ => ?_) (fun _ => ?_)
    | refine brK_any ?_ ?_
    | refine gK_dec (fun _ => ?_) (fun _ => ?_)
    | refine gK_any ?_ ?_
    | refine gqK_dec (fun _ => ?_) (fun _ => ?_)
    | refine ⟨by omega, ?_⟩
    | refine elemHave (by omega) (by assumption) ?_
    | refine elemMap (by omega) (by omega) (fun x hx => ?_)
    | refine drawK mo (by kernel_rfl) ?_
    | (exfalso; omega)
    | (refine finBq rfl ?_; unfold rightTyF; exact (decide_eq_true (by omega)).symm)
    | (refine finBq rfl ?_; unfold rightTyF; exact (decide_eq_false (by omega)).symm)
    | (refine finBq rfl ?_; unfold rightTyF; exact decide_eq_decide.2 (by omega))
theorem n85 : (Tryd.f85.name == "runtime.NumGoroutine") = false := by kernel_rfl
theorem armP (s : ByteArray) : PCall Tryd.prog 85 [.s s] (.b (armE s)) := by
  refine pcall_of_vc tabOK Tryd.func85 n85 rfl (by repeat' first | exact pure_nil | refine pure_cons ?_ ?_ | exact .raw _ | exact pure_enc _ | exact pure_lst _ | exact pure_strs _ | exact pure_ints _ | exact DTy.pure _ | exact DTy.pures _ | exact DEnum.pure _ | exact DEnum.pures _ | exact DDecl.pure _ | exact DDecl.pures _ | exact DEq.pure _ | exact DEq.pures _ | exact DNode.pure _ | exact DNode.pures _ | exact DProg.pure _ | exact DProg.pures _ | exact DCond.pure _ | exact DCond.pures _ | exact DAtom.pure _ | exact DAtom.pures _ | exact DPlain.pure _ | exact DPlain.pures _ | exact DVar.pure _ | exact DVar.pures _ | exact DFlow.pure _ | exact DFlow.pures _ | exact DFlows.pure _ | exact DFlows.pures _ | exact DAsked.pure _ | exact DAsked.pures _ | exact DFault.pure _ | exact DFault.pures _ | exact DCell.pure _ | exact DCell.pures _ | exact DReply.pure _ | exact DReply.pures _ | exact DAsk.pure _ | exact DAsk.pures _ | exact DOp.pure _ | exact DOp.pures _ | exact pure_list (fun x => DDecl.pures x) _ | exact .fn _ _ _ pure_nil pure_nil | refine .agg _ ?_ | refine .tup _ ?_ | assumption) (by repeat' first | exact pure_nil | refine pure_cons ?_ ?_ | exact .raw _ | exact pure_enc _ | exact pure_lst _ | exact pure_strs _ | exact pure_ints _ | exact DTy.pure _ | exact DTy.pures _ | exact DEnum.pure _ | exact DEnum.pures _ | exact DDecl.pure _ | exact DDecl.pures _ | exact DEq.pure _ | exact DEq.pures _ | exact DNode.pure _ | exact DNode.pures _ | exact DProg.pure _ | exact DProg.pures _ | exact DCond.pure _ | exact DCond.pures _ | exact DAtom.pure _ | exact DAtom.pures _ | exact DPlain.pure _ | exact DPlain.pures _ | exact DVar.pure _ | exact DVar.pures _ | exact DFlow.pure _ | exact DFlow.pures _ | exact DFlows.pure _ | exact DFlows.pures _ | exact DAsked.pure _ | exact DAsked.pures _ | exact DFault.pure _ | exact DFault.pures _ | exact DCell.pure _ | exact DCell.pures _ | exact DReply.pure _ | exact DReply.pures _ | exact DAsk.pure _ | exact DAsk.pures _ | exact DOp.pure _ | exact DOp.pures _ | exact pure_list (fun x => DDecl.pures x) _ | exact .fn _ _ _ pure_nil pure_nil | refine .agg _ ?_ | refine .tup _ ?_ | assumption) (n := 13) rfl (rs := [.tmp 2]) rfl ?_
  unfold armE
  repeat' first
    | exact finB rfl
    | exact finI rfl
    | exact finP rfl
    | exact absurd rfl (by assumption)
    | simp only [go_sem, Nat.reduceAdd, Nat.reduceSub, Nat.reduceMul, Nat.reduceLT, Nat.reduceLeDiff, Nat.reduceEqDiff, Nat.reduceBEq, Nat.reduceBNe, Nat.reducePow, Int.reduceEq, Int.reduceNe, Int.reduceLT, Int.reduceLE, Int.reduceGT, Int.reduceGE, Int.reduceAdd, Int.reduceSub, Int.reduceNeg, Int.reduceMul, not_true_eq_false, not_false_eq_true, true_and, and_true, Int.reduceToNat]
    | (intro _)
    | refine brK_dec (fun _ => ?_) (fun _ => ?_)
    | refine brK_split (fun hb_ => ?_) (fun hb_ => ?_)
    | refine gK_dec (fun _ => ?_) (fun _ => ?_)
    | refine gK_split (fun hb_ => ?_) (fun hb_ => ?_)
    | refine gqK_dec (fun _ => ?_) (fun _ => ?_)
    | refine ⟨by omega, ?_⟩
    | refine elemHave (by omega) (by assumption) ?_
    | refine elemMap (by omega) (by omega) (fun x hx => ?_)
    | refine drawK mo (by kernel_rfl) ?_
    | (refine PCall.call (high8 s) ?_; generalize highF s = q; cases q)
    | (exact finBq rfl (by simp [*]))
theorem n67 : (Tryd.f67.name == "runtime.NumGoroutine") = false := by kernel_rfl
theorem n83 : (Tryd.f83.name == "runtime.NumGoroutine") = false := by kernel_rfl
theorem declared131 (L : List DEnum) (d : DDecl) {k : Nat} {h : List Blk} {K : AV → List Blk → Prop} (hk : h[k]? = some (.cells 34 [.lst 2 (L.map DEnum.enc) none])) (hK : K (.b (declaredF L.length d)) h) : ACall Tryd.prog 83 [d.enc, .ptr k 0] h K := by
  have hkl := (List.getElem?_eq_some_iff.1 hk).1
  have hk1 : ∀ r, (h ++ r)[k]? = some (.cells 34 [.lst 2 (L.map DEnum.enc) none]) := fun r => by rw [List.getElem?_append_left hkl]; exact hk
  refine acall_of_vc tabOK Tryd.func83 n83 rfl (n := 35) rfl (rs := [.tmp 3]) rfl ?_
  repeat' first
    | simp only [go_sem, Nat.reduceAdd, Nat.reduceSub, Nat.reduceMul, Nat.reduceLT, Nat.reduceLeDiff, Nat.reduceEqDiff, Nat.reduceBEq, Nat.reduceBNe, Nat.reducePow, Int.reduceEq, Int.reduceNe, Int.reduceLT, Int.reduceLE, Int.reduceGT, Int.reduceGE, Int.reduceAdd, Int.reduceSub, Int.reduceNeg, Int.reduceMul, not_true_eq_false, not_false_eq_true, true_and, and_true, Int.reduceToNat, hk1]
    | refine brK_dec (fun _ => ?_) (fun _ => ?_)
    | refine gK_dec (fun _ => ?_) (fun _ => ?_)
    | refine brK_split (fun hb_ => ?_) (fun hb_ => ?_)
    | refine gK_split (fun hb_ => ?_) (fun hb_ => ?_)
    | ((fail_if_success (clear h1)); refine PCall.call (low6 d.Name) ?_; generalize h1 : lowF d.Name = q; cases q)
    | (refine PCall.call (low6 d.On) ?_; generalize h2 : lowF d.On = q; cases q)
    | (refine PCall.call (rightTyP L d.Ty) ?_; generalize h3 : rightTyF L.length d.Ty = q; cases q)
    | (refine PCall.call (armP d.Ctor) ?_; generalize h4 : armE d.Ctor = q; cases q)
    | (refine finHb _ rfl hK ?_; first | (simp only [declaredF, bareF, h1, h2, h3, h4]; simp [*]; done) | (simp only [declaredF, bareF, h1, h2, h3]; simp [*]; done) | (simp only [declaredF, bareF, h1, h3]; simp [*]; done) | (simp only [declaredF, bareF, h1]; simp [*]; done))
theorem n87 : (Tryd.f87.name == "runtime.NumGoroutine") = false := by kernel_rfl
theorem n71 : (Tryd.f71.name == "runtime.NumGoroutine") = false := by kernel_rfl
theorem equationP (q : DEq) (hq : okEq q) : PCall Tryd.prog 71 [q.enc] (.b (eqF q)) := by
  refine pcall_of_vc tabOK Tryd.func71 n71 rfl (by repeat' first | exact pure_nil | refine pure_cons ?_ ?_ | exact .raw _ | exact pure_enc _ | exact pure_lst _ | exact pure_strs _ | exact pure_ints _ | exact DTy.pure _ | exact DTy.pures _ | exact DEnum.pure _ | exact DEnum.pures _ | exact DDecl.pure _ | exact DDecl.pures _ | exact DEq.pure _ | exact DEq.pures _ | exact DNode.pure _ | exact DNode.pures _ | exact DProg.pure _ | exact DProg.pures _ | exact DCond.pure _ | exact DCond.pures _ | exact DAtom.pure _ | exact DAtom.pures _ | exact DPlain.pure _ | exact DPlain.pures _ | exact DVar.pure _ | exact DVar.pures _ | exact DFlow.pure _ | exact DFlow.pures _ | exact DFlows.pure _ | exact DFlows.pures _ | exact DAsked.pure _ | exact DAsked.pures _ | exact DFault.pure _ | exact DFault.pures _ | exact DCell.pure _ | exact DCell.pures _ | exact DReply.pure _ | exact DReply.pures _ | exact DAsk.pure _ | exact DAsk.pures _ | exact DOp.pure _ | exact DOp.pures _ | exact pure_list (fun x => DDecl.pures x) _ | exact .fn _ _ _ pure_nil pure_nil | refine .agg _ ?_ | refine .tup _ ?_ | assumption) (by repeat' first | exact pure_nil | refine pure_cons ?_ ?_ | exact .raw _ | exact pure_enc _ | exact pure_lst _ | exact pure_strs _ | exact pure_ints _ | exact DTy.pure _ | exact DTy.pures _ | exact DEnum.pure _ | exact DEnum.pures _ | exact DDecl.pure _ | exact DDecl.pures _ | exact DEq.pure _ | exact DEq.pures _ | exact DNode.pure _ | exact DNode.pures _ | exact DProg.pure _ | exact DProg.pures _ | exact DCond.pure _ | exact DCond.pures _ | exact DAtom.pure _ | exact DAtom.pures _ | exact DPlain.pure _ | exact DPlain.pures _ | exact DVar.pure _ | exact DVar.pures _ | exact DFlow.pure _ | exact DFlow.pures _ | exact DFlows.pure _ | exact DFlows.pures _ | exact DAsked.pure _ | exact DAsked.pures _ | exact DFault.pure _ | exact DFault.pures _ | exact DCell.pure _ | exact DCell.pures _ | exact DReply.pure _ | exact DReply.pures _ | exact DAsk.pure _ | exact DAsk.pures _ | exact DOp.pure _ | exact DOp.pures _ | exact pure_list (fun x => DDecl.pures x) _ | exact .fn _ _ _ pure_nil pure_nil | refine .agg _ ?_ | refine .tup _ ?_ | assumption) (n := 29) rfl (rs := [.tmp 2]) rfl ?_
  unfold eqF
  have hall : q.Names.all lowF = !(q.Names.any fun s => !lowF s) := List.all_eq_not_any_not
  rw [hall]
  repeat' first
    | (exfalso; omega)
    | simp only [go_sem, Nat.reduceAdd, Nat.reduceSub, Nat.reduceMul, Nat.reduceLT, Nat.reduceLeDiff, Nat.reduceEqDiff, Nat.reduceBEq, Nat.reduceBNe, Nat.reducePow, Int.reduceEq, Int.reduceNe, Int.reduceLT, Int.reduceLE, Int.reduceGT, Int.reduceGE, Int.reduceAdd, Int.reduceSub, Int.reduceNeg, Int.reduceMul, not_true_eq_false, not_false_eq_true, true_and, and_true, Int.reduceToNat]
    | (intro _)
    | refine brK_dec (fun _ => ?_) (fun _ => ?_)
    | refine gK_dec (fun _ => ?_) (fun _ => ?_)
    | refine brK_split (fun hb_ => ?_) (fun hb_ => ?_)
    | refine gK_split (fun hb_ => ?_) (fun hb_ => ?_)
    | (refine PCall.call (right16 q.E hq.2.1) ?_; generalize rightE q.E = b; cases b)
    | (refine containsStrR (p := fun s => !lowF s) (fun s hs K hK => ?_) ?_
       · refine acall_of_vc tabOK Tryd.func87 n87 rfl (n := 6) rfl (rs := [.tmp 2]) rfl ?_
         simp only [go_sem, Nat.reduceAdd, Nat.reduceSub, Nat.reduceMul, Nat.reduceLT, Nat.reduceLeDiff, Nat.reduceEqDiff, Nat.reduceBEq, Nat.reduceBNe, Nat.reducePow, Int.reduceEq, Int.reduceNe, Int.reduceLT, Int.reduceLE, Int.reduceGT, Int.reduceGE, Int.reduceAdd, Int.reduceSub, Int.reduceNeg, Int.reduceMul, not_true_eq_false, not_false_eq_true, true_and, and_true, Int.reduceToNat]
         refine PCall.call (low6 s) ?_
         simp only [go_sem, Nat.reduceAdd, Nat.reduceSub, Nat.reduceMul, Nat.reduceLT, Nat.reduceLeDiff, Nat.reduceEqDiff, Nat.reduceBEq, Nat.reduceBNe, Nat.reducePow, Int.reduceEq, Int.reduceNe, Int.reduceLT, Int.reduceLE, Int.reduceGT, Int.reduceGE, Int.reduceAdd, Int.reduceSub, Int.reduceNeg, Int.reduceMul, not_true_eq_false, not_false_eq_true, true_and, and_true, Int.reduceToNat]
         exact finH0 _ rfl (.raw _) hK
       generalize (q.Names.any fun s => !lowF s) = b
       cases b)
    | (refine finBq rfl ?_; (try rw [decide_eq_true (p := 0 < q.Names.length) (by omega)]); (try rw [decide_eq_false (p := 0 < q.Names.length) (by omega)]); (try rw [decide_eq_true (p := q.Names.length ≤ 1) (by omega)]); (try rw [decide_eq_false (p := q.Names.length ≤ 1) (by omega)]); (try rw [decide_eq_true (p := q.E.kind = 13) (by omega)]); (try rw [decide_eq_false (p := q.E.kind = 13) (by omega)]); simp [*]; done)
theorem n69 : (Tryd.f69.name == "runtime.NumGoroutine") = false := by kernel_rfl
theorem bareP {l : List DDecl} {h : List Blk} {K : AV → List Blk → Prop} (hK : K (.b (l.any fun d => !(decide (d.On = ⟨#[]⟩)))) h) : ACall Tryd.prog 70 [.lst 6 (l.map DDecl.enc) none, .fn (.func 69) [] []] h K := by
  refine containsDe (p := fun d => !(decide (d.On = ⟨#[]⟩))) (fun x hx K hK => ?_) hK
  refine acall_of_vc tabOK Tryd.func69 n69 rfl (n := 6) rfl (rs := [.tmp 2]) rfl ?_
  simp only [go_sem, Nat.reduceAdd, Nat.reduceSub, Nat.reduceMul, Nat.reduceLT, Nat.reduceLeDiff, Nat.reduceEqDiff, Nat.reduceBEq, Nat.reduceBNe, Nat.reducePow, Int.reduceEq, Int.reduceNe, Int.reduceLT, Int.reduceLE, Int.reduceGT, Int.reduceGE, Int.reduceAdd, Int.reduceSub, Int.reduceNeg, Int.reduceMul, not_true_eq_false, not_false_eq_true, true_and, and_true, Int.reduceToNat]
  refine finHb _ rfl hK ?_
  simp
end Go.Proofs.YtipcmpkihhfhcaaDoor

namespace Go.Proofs.YtipcmpkihhfhcaaDoor
open Go.Abs
set_option maxRecDepth 20000
set_option linter.unusedSimpArgs false
set_option linter.unusedVariables false
set_option maxHeartbeats 1000000
attribute [local irreducible] vc vcOps vcStep vcGuard prK hrK gK gsK brK callK ElemK SeqK BlockK ScopeK OpsK CallK LoopK LoopGo finPost ACall PCall PCallE BCall vqOps vqStep vqGuard qrK heK pcK gqK gqsK QOpsK qcallK DrawK
abbrev plc (p : DProg) (at_ : Int) (m : Nat) : Blk := .cells 91 [.lst 2 (p.Enums.map DEnum.enc) none, .lst 5 (p.Nodes.map DNode.enc) none, .i at_, .map m]
abbrev HS (A : List Blk) (p : DProg) (at_ : Int) (c : Nat) (f : Value → Option AV) (r : List Blk) : List Blk := A ++ .mp .str c f :: .cells 91 [.lst 2 (p.Enums.map DEnum.enc) none, .lst 5 (p.Nodes.map DNode.enc) none, .i at_, .map A.length] :: r
theorem finKb {T : TypeId → TI} {s : List AV} {h : List Blk} {rs : List ResultVar} {K : AV → List Blk → Prop} {b c : Bool} (hl : resAV T s h rs = some [.b b]) (e : c = b) (hK : K (.b c) h) : FinK T rs K s h := by
  subst e
  exact finK hl hK
theorem HS_app {A r r' : List Blk} {p : DProg} {at_ : Int} {c : Nat} {f : Value → Option AV} : HS A p at_ c f (r ++ r') = HS A p at_ c f r ++ r' := by simp
section
variable {A r : List Blk} {p : DProg} {at_ : Int} {c : Nat} {f : Value → Option AV} {n : DNode} {D : List ByteArray} {K : AV → List Blk → Prop}
theorem n73 : (Tryd.f73.name == "runtime.NumGoroutine") = false := by kernel_rfl
theorem is138 (hM : MapN f (knF n D)) (s : ByteArray) (hK : ∀ r', K (.b (isF n s)) (HS A p at_ c f (r ++ r'))) : ACall Tryd.prog 73 [.ptr (A.length + 1) 0, .s s] (HS A p at_ c f r) K := by
  have hMx := hM s
  have his := kn_is n D s
  have hk := hK []
  rw [List.append_nil] at hk
  rw [← his] at hk
  refine acallK_of_vc tabOK Tryd.func73 n73 rfl (n := 12) rfl (rs := [.tmp 4]) rfl ?_
  simp only [go_sem, Nat.reduceAdd, Nat.reduceSub, Nat.reduceMul, Nat.reduceLT, Nat.reduceLeDiff, Nat.reduceEqDiff, Nat.reduceBEq, Nat.reduceBNe, Nat.reducePow, Int.reduceEq, Int.reduceNe, Int.reduceLT, Int.reduceLE, Int.reduceGT, Int.reduceGE, Int.reduceAdd, Int.reduceSub, Int.reduceNeg, Int.reduceMul, not_true_eq_false, not_false_eq_true, true_and, and_true, Int.reduceToNat, hMx]
  refine finK (r := .b (decide (0 < knF n D s))) ?_ hk
  have e : decide (((knF n D s : Nat) : Int) > 0) = decide (0 < knF n D s) := decide_eq_decide.2 (by omega)
  rw [e]
  rfl
theorem n74 : (Tryd.f74.name == "runtime.NumGoroutine") = false := by kernel_rfl
theorem arm139 (s : ByteArray) (hK : ∀ r', K (.b (armOk p.Enums s)) (HS A p at_ c f (r ++ r'))) : ACall Tryd.prog 74 [.ptr (A.length + 1) 0, .s s] (HS A p at_ c f r) K := by
  refine acallK_of_vc tabOK Tryd.func74 n74 rfl (n := 20) rfl (rs := [.tmp 4]) rfl ?_
  simp only [go_sem, Nat.reduceAdd, Nat.reduceSub, Nat.reduceMul, Nat.reduceLT, Nat.reduceLeDiff, Nat.reduceEqDiff, Nat.reduceBEq, Nat.reduceBNe, Nat.reducePow, Int.reduceEq, Int.reduceNe, Int.reduceLT, Int.reduceLE, Int.reduceGT, Int.reduceGE, Int.reduceAdd, Int.reduceSub, Int.reduceNeg, Int.reduceMul, not_true_eq_false, not_false_eq_true, true_and, and_true, Int.reduceToNat]
  refine PCall.call (arm146 p.Enums s) ?_
  unfold armOk at hK
  generalize armF p.Enums s = q at hK
  obtain ⟨t, v, ok⟩ := q
  simp only [go_sem, Nat.reduceAdd, Nat.reduceSub, Nat.reduceMul, Nat.reduceLT, Nat.reduceLeDiff, Nat.reduceEqDiff, Nat.reduceBEq, Nat.reduceBNe, Nat.reducePow, Int.reduceEq, Int.reduceNe, Int.reduceLT, Int.reduceLE, Int.reduceGT, Int.reduceGE, Int.reduceAdd, Int.reduceSub, Int.reduceNeg, Int.reduceMul, not_true_eq_false, not_false_eq_true, true_and, and_true, Int.reduceToNat]
  refine finK (r := .b ok) rfl ?_
  have hk := hK [.cells 37 [.i t.Kind, .i t.Enum, .i t.Len]]
  simpa using hk
theorem n75 : (Tryd.f75.name == "runtime.NumGoroutine") = false := by kernel_rfl
theorem define140 (hM : MapN f (knF n D)) (s : ByteArray) (h5 : isF n s = false → ∀ r', K (.i 5) (HS A p at_ c f (r ++ r'))) (h6 : isF n s = true → (inF n s = true ∨ s ∈ D) → ∀ r', K (.i 6) (HS A p at_ c f (r ++ r')))
    (h0 : isF n s = true → inF n s = false → s ∉ D → ∀ c' f' r', MapN f' (knF n (D ++ [s])) → K (.i 0) (HS A p at_ c' f' (r ++ r'))) : ACall Tryd.prog 75 [.ptr (A.length + 1) 0, .s s] (HS A p at_ c f r) K := by
  have hMx := hM s
  refine acallK_of_vc tabOK Tryd.func75 n75 rfl (n := 21) rfl (rs := [.tmp 4]) rfl ?_
  simp only [go_sem, Nat.reduceAdd, Nat.reduceSub, Nat.reduceMul, Nat.reduceLT, Nat.reduceLeDiff, Nat.reduceEqDiff, Nat.reduceBEq, Nat.reduceBNe, Nat.reducePow, Int.reduceEq, Int.reduceNe, Int.reduceLT, Int.reduceLE, Int.reduceGT, Int.reduceGE, Int.reduceAdd, Int.reduceSub, Int.reduceNeg, Int.reduceMul, not_true_eq_false, not_false_eq_true, true_and, and_true, Int.reduceToNat]
  refine is138 hM s (fun r1 => ?_)
  cases hi : isF n s with
  | false =>
    simp only [go_sem, Nat.reduceAdd, Nat.reduceSub, Nat.reduceMul, Nat.reduceLT, Nat.reduceLeDiff, Nat.reduceEqDiff, Nat.reduceBEq, Nat.reduceBNe, Nat.reducePow, Int.reduceEq, Int.reduceNe, Int.reduceLT, Int.reduceLE, Int.reduceGT, Int.reduceGE, Int.reduceAdd, Int.reduceSub, Int.reduceNeg, Int.reduceMul, not_true_eq_false, not_false_eq_true, true_and, and_true, Int.reduceToNat]
    exact finK (r := .i 5) rfl (h5 hi r1)
  | true =>
    simp only [go_sem, Nat.reduceAdd, Nat.reduceSub, Nat.reduceMul, Nat.reduceLT, Nat.reduceLeDiff, Nat.reduceEqDiff, Nat.reduceBEq, Nat.reduceBNe, Nat.reducePow, Int.reduceEq, Int.reduceNe, Int.reduceLT, Int.reduceLE, Int.reduceGT, Int.reduceGE, Int.reduceAdd, Int.reduceSub, Int.reduceNeg, Int.reduceMul, not_true_eq_false, not_false_eq_true, true_and, and_true, Int.reduceToNat, hMx]
    have hfr := kn_free (D := D) hi
    refine brK_dec (fun hq => ?_) (fun hq => ?_)
    · simp only [go_sem, Nat.reduceAdd, Nat.reduceSub, Nat.reduceMul, Nat.reduceLT, Nat.reduceLeDiff, Nat.reduceEqDiff, Nat.reduceBEq, Nat.reduceBNe, Nat.reducePow, Int.reduceEq, Int.reduceNe, Int.reduceLT, Int.reduceLE, Int.reduceGT, Int.reduceGE, Int.reduceAdd, Int.reduceSub, Int.reduceNeg, Int.reduceMul, not_true_eq_false, not_false_eq_true, true_and, and_true, Int.reduceToNat]
      refine finK (r := .i 6) rfl (h6 hi ?_ r1)
      by_cases hz : inF n s = true ∨ s ∈ D
      · exact hz
      · exact absurd (by have := hfr.2 hz; omega) hq
    · have hz : knF n D s = 2 := by omega
      have hnz := hfr.1 hz
      obtain ⟨k1, k2⟩ := kn_put hz
      simp only [go_sem, Nat.reduceAdd, Nat.reduceSub, Nat.reduceMul, Nat.reduceLT, Nat.reduceLeDiff, Nat.reduceEqDiff, Nat.reduceBEq, Nat.reduceBNe, Nat.reducePow, Int.reduceEq, Int.reduceNe, Int.reduceLT, Int.reduceLE, Int.reduceGT, Int.reduceGE, Int.reduceAdd, Int.reduceSub, Int.reduceNeg, Int.reduceMul, not_true_eq_false, not_false_eq_true, true_and, and_true, Int.reduceToNat]
      refine finK (r := .i 0) rfl (h0 hi (by cases hh : inF n s; rfl; exact absurd (.inl hh) hnz) (fun hm => hnz (.inr hm)) _ _ r1 ?_)
      exact hM.put s 3 (knF n (D ++ [s])) k1 k2
theorem n56 : (Tryd.f56.name == "runtime.NumGoroutine") = false := by kernel_rfl
theorem clocked88 (hM : MapN f (knF n D)) (d : DDecl) (hK : ∀ r', K (.b (clockedF p.Enums n d)) (HS A p at_ c f (r ++ r'))) : ACall Tryd.prog 56 [.ptr (A.length + 1) 0, d.enc] (HS A p at_ c f r) K := by
  unfold clockedF at hK
  refine acallK_of_vc tabOK Tryd.func56 n56 rfl (n := 20) rfl (rs := [.tmp 4]) rfl ?_
  repeat' first
    | simp only [go_sem, Nat.reduceAdd, Nat.reduceSub, Nat.reduceMul, Nat.reduceLT, Nat.reduceLeDiff, Nat.reduceEqDiff, Nat.reduceBEq, Nat.reduceBNe, Nat.reducePow, Int.reduceEq, Int.reduceNe, Int.reduceLT, Int.reduceLE, Int.reduceGT, Int.reduceGE, Int.reduceAdd, Int.reduceSub, Int.reduceNeg, Int.reduceMul, not_true_eq_false, not_false_eq_true, true_and, and_true, Int.reduceToNat]
    | refine gK_dec (fun _ => ?_) (fun _ => ?_)
    | refine gK_split (fun _ => ?_) (fun _ => ?_)
    | ((fail_if_success (clear hi)); refine is138 hM d.On (fun r1 => ?_); generalize hi : isF n d.On = i at hK ⊢; cases i)
    | (refine arm139 d.Ctor (fun r2 => ?_); generalize armOk p.Enums d.Ctor = i at hK ⊢; cases i)
    | exact finKb rfl (by simp [*]) (hK _)
theorem n55 : (Tryd.f55.name == "runtime.NumGoroutine") = false := by kernel_rfl
theorem node87 {j : Nat} (hj : p.Nodes[j]? = some n) (hK : ∀ r', K n.enc (HS A p (j : Int) c f (r ++ r'))) : ACall Tryd.prog 55 [.ptr (A.length + 1) 0] (HS A p (j : Int) c f r) K := by
  refine acallK_of_vc tabOK Tryd.func55 n55 rfl (n := 14) rfl (rs := [.cell 2 55]) rfl ?_
  simp only [go_sem, Nat.reduceAdd, Nat.reduceSub, Nat.reduceMul, Nat.reduceLT, Nat.reduceLeDiff, Nat.reduceEqDiff, Nat.reduceBEq, Nat.reduceBNe, Nat.reducePow, Int.reduceEq, Int.reduceNe, Int.reduceLT, Int.reduceLE, Int.reduceGT, Int.reduceGE, Int.reduceAdd, Int.reduceSub, Int.reduceNeg, Int.reduceMul, not_true_eq_false, not_false_eq_true, true_and, and_true, Int.reduceToNat]
  refine drawZ mo (by kernel_rfl) rfl ?_
  simp only [List.dropLast_cons_cons, List.dropLast_singleton, List.getLast_cons_cons, List.getLast_singleton]
  repeat' first
    | simp only [go_sem, Nat.reduceAdd, Nat.reduceSub, Nat.reduceMul, Nat.reduceLT, Nat.reduceLeDiff, Nat.reduceEqDiff, Nat.reduceBEq, Nat.reduceBNe, Nat.reducePow, Int.reduceEq, Int.reduceNe, Int.reduceLT, Int.reduceLE, Int.reduceGT, Int.reduceGE, Int.reduceAdd, Int.reduceSub, Int.reduceNeg, Int.reduceMul, not_true_eq_false, not_false_eq_true, true_and, and_true, Int.reduceToNat]
    | refine elemHave (by omega) hj ?_
  refine ⟨[n.enc], ?_, n.enc, .refl _, hK _⟩
  rw [DNode.enc_eq]
  simp only [go_sem, Nat.reduceAdd, Nat.reduceSub, Nat.reduceMul, Nat.reduceLT, Nat.reduceLeDiff, Nat.reduceEqDiff, Nat.reduceBEq, Nat.reduceBNe, Nat.reducePow, Int.reduceEq, Int.reduceNe, Int.reduceLT, Int.reduceLE, Int.reduceGT, Int.reduceGE, Int.reduceAdd, Int.reduceSub, Int.reduceNeg, Int.reduceMul, not_true_eq_false, not_false_eq_true, true_and, and_true, Int.reduceToNat]
theorem n88 : (Tryd.f88.name == "runtime.NumGoroutine") = false := by kernel_rfl
theorem leads178 (s : ByteArray) {h : List Blk} {k : Nat} (hk : h[k]? = some (.cells 74 [.ptr (A.length + 1) 0])) (hh : ∃ r, h = HS A p at_ c f r) (hK : K (.b (!(armOk p.Enums s))) h) : ACall Tryd.prog 88 [.s s, .ptr k 0] h K := by
  obtain ⟨r, rfl⟩ := hh
  refine acall_of_vc tabOK Tryd.func88 n88 rfl (n := 8) rfl (rs := [.tmp 3]) rfl ?_
  simp only [go_sem, Nat.reduceAdd, Nat.reduceSub, Nat.reduceMul, Nat.reduceLT, Nat.reduceLeDiff, Nat.reduceEqDiff, Nat.reduceBEq, Nat.reduceBNe, Nat.reducePow, Int.reduceEq, Int.reduceNe, Int.reduceLT, Int.reduceLE, Int.reduceGT, Int.reduceGE, Int.reduceAdd, Int.reduceSub, Int.reduceNeg, Int.reduceMul, not_true_eq_false, not_false_eq_true, true_and, and_true, Int.reduceToNat, hk]
  refine arm139 s (fun r' => ?_)
  simp only [go_sem, Nat.reduceAdd, Nat.reduceSub, Nat.reduceMul, Nat.reduceLT, Nat.reduceLeDiff, Nat.reduceEqDiff, Nat.reduceBEq, Nat.reduceBNe, Nat.reducePow, Int.reduceEq, Int.reduceNe, Int.reduceLT, Int.reduceLE, Int.reduceGT, Int.reduceGE, Int.reduceAdd, Int.reduceSub, Int.reduceNeg, Int.reduceMul, not_true_eq_false, not_false_eq_true, true_and, and_true, Int.reduceToNat]
  rw [HS_app]
  exact finH0 r' rfl (.raw _) hK
theorem n76 : (Tryd.f76.name == "runtime.NumGoroutine") = false := by kernel_rfl
theorem leads141 (hM : MapN f (knF n D)) (e : Ex) (hK : ∀ r', K (.b (leadsF p at_ n e)) (HS A p at_ c f (r ++ r'))) : ACall Tryd.prog 76 [.ptr (A.length + 1) 0, e.enc] (HS A p at_ c f r) K := by
  have hall : e.arms.all (armOk p.Enums) = !(e.arms.any fun s => !(armOk p.Enums s)) := List.all_eq_not_any_not
  unfold leadsF at hK
  rw [hall] at hK
  refine acallK_of_vc tabOK Tryd.func76 n76 rfl (n := 47) rfl (rs := [.tmp 4]) rfl ?_
  simp only [go_sem, Nat.reduceAdd, Nat.reduceSub, Nat.reduceMul, Nat.reduceLT, Nat.reduceLeDiff, Nat.reduceEqDiff, Nat.reduceBEq, Nat.reduceBNe, Nat.reducePow, Int.reduceEq, Int.reduceNe, Int.reduceLT, Int.reduceLE, Int.reduceGT, Int.reduceGE, Int.reduceAdd, Int.reduceSub, Int.reduceNeg, Int.reduceMul, not_true_eq_false, not_false_eq_true, true_and, and_true, Int.reduceToNat]
  refine containsStrR (p := fun s => !(armOk p.Enums s)) (fun s hs K hK => leads178 s (by simp only [go_sem, Nat.reduceAdd, Nat.reduceSub, Nat.reduceMul, Nat.reduceLT, Nat.reduceLeDiff, Nat.reduceEqDiff, Nat.reduceBEq, Nat.reduceBNe, Nat.reducePow, Int.reduceEq, Int.reduceNe, Int.reduceLT, Int.reduceLE, Int.reduceGT, Int.reduceGE, Int.reduceAdd, Int.reduceSub, Int.reduceNeg, Int.reduceMul, not_true_eq_false, not_false_eq_true, true_and, and_true, Int.reduceToNat]) ⟨_, rfl⟩ hK) ?_
  generalize (e.arms.any fun s => !(armOk p.Enums s)) = b at hK ⊢
  cases b
  all_goals
    repeat' first
      | (exfalso; omega)
      | simp only [go_sem, Nat.reduceAdd, Nat.reduceSub, Nat.reduceMul, Nat.reduceLT, Nat.reduceLeDiff, Nat.reduceEqDiff, Nat.reduceBEq, Nat.reduceBNe, Nat.reducePow, Int.reduceEq, Int.reduceNe, Int.reduceLT, Int.reduceLE, Int.reduceGT, Int.reduceGE, Int.reduceAdd, Int.reduceSub, Int.reduceNeg, Int.reduceMul, not_true_eq_false, not_false_eq_true, true_and, and_true, Int.reduceToNat]
      | refine brK_dec (fun _ => ?_) (fun _ => ?_)
      | refine gK_dec (fun _ => ?_) (fun _ => ?_)
      | (refine is138 hM e.name (fun r1 => ?_))
      | (refine arm139 e.name (fun r1 => ?_))
      | (refine drawZ mo (by kernel_rfl) rfl ?_; simp only [List.dropLast_cons_cons, List.dropLast_singleton, List.getLast_cons_cons, List.getLast_singleton])
      | (refine pcK_of (find23 p e.name) ?_)
      | exact finKb rfl (by simp [*]) (hK _)
end
end Go.Proofs.YtipcmpkihhfhcaaDoor

namespace Go.Proofs.YtipcmpkihhfhcaaDoor
open Go.Abs
set_option maxRecDepth 20000
set_option linter.unusedSimpArgs false
set_option linter.unusedVariables false
set_option maxHeartbeats 1000000
attribute [local irreducible] vc vcOps vcStep vcGuard prK hrK gK gsK brK callK ElemK SeqK BlockK ScopeK OpsK CallK LoopK LoopGo finPost ACall PCall PCallE BCall vqOps vqStep vqGuard qrK heK pcK gqK gqsK QOpsK qcallK DrawK
theorem eqErr_names {p : DProg} {a : Int} {n : DNode} {D : List ByteArray} {q : DEq} {E : Int} (h : namesErr n D q.Names = E) (hE : ¬ E = 0) : eqErr p a n D q = E := by
  subst h
  unfold eqErr
  rw [if_neg hE]
theorem eqErr_parts {p : DProg} {a : Int} {n : DNode} {D : List ByteArray} {q : DEq} (h : namesErr n D q.Names = 0) : eqErr p a n D q = if (parts q.E).all (leadsF p a n) = true then 0 else 5 := by
  unfold eqErr
  rw [if_pos h]
theorem snoc6 {α : Type} (A r r' : List α) (a b c d e w z : α) : A ++ a :: b :: (r ++ c :: d :: e :: (r' ++ [w, z])) = (A ++ a :: b :: (r ++ c :: d :: e :: (r' ++ [w]))) ++ [z] := by simp
section
variable {A r : List Blk} {p : DProg} {at_ : Int} {c : Nat} {f : Value → Option AV} {n : DNode} {D : List ByteArray} {K : AV → List Blk → Prop}
theorem n57 : (Tryd.f57.name == "runtime.NumGoroutine") = false := by kernel_rfl
theorem eq89 (hM : MapN f (knF n D)) (q : DEq) (hq : okEq q) (hK : ∀ c' f' r', (eqErr p at_ n D q = 0 → MapN f' (knF n (D ++ q.Names))) → K (.i (eqErr p at_ n D q)) (HS A p at_ c' f' (r ++ r'))) :
    ACall Tryd.prog 57 [.ptr (A.length + 1) 0, q.enc] (HS A p at_ c f r) K := by
  refine acallK_of_vc tabOK Tryd.func57 n57 rfl (n := 31) rfl (rs := [.cell 4 56]) rfl ?_
  simp only [go_sem, Nat.reduceAdd, Nat.reduceSub, Nat.reduceMul, Nat.reduceLT, Nat.reduceLeDiff, Nat.reduceEqDiff, Nat.reduceBEq, Nat.reduceBNe, Nat.reducePow, Int.reduceEq, Int.reduceNe, Int.reduceLT, Int.reduceLE, Int.reduceGT, Int.reduceGE, Int.reduceAdd, Int.reduceSub, Int.reduceNeg, Int.reduceMul, not_true_eq_false, not_false_eq_true, true_and, and_true, Int.reduceToNat]
  intro _
  generalize hE : namesErr n D q.Names = E
  refine loop_fr [6, 7, 12, 13, 14, 15, 16, 17, 18, 19, 20, 21, 22] (fun m C hh => ∃ (i c' : Nat) (f' : Value → Option AV) (r' : List Blk), i ≤ q.Names.length ∧ m = q.Names.length - i ∧ MapN f' (knF n (D ++ q.Names.take i)) ∧ namesErr n (D ++ q.Names.take i) (q.Names.drop i) = E ∧ C = [(12, .raw (.int .i64 (i : Nat)))] ∧
    hh = HS A p at_ c' f' (r ++ .cells 74 [.ptr (A.length + 1) 0] :: .cells 52 [.lst 1 (q.Names.map AV.s) none, .i q.E.kind, .i q.E.n, .s q.E.name, .i q.E.op, .lst 1 (q.E.arms.map AV.s) none, .lst 6 (q.E.subs.map Ex.enc) none] :: .cells 56 [.i 0] :: r')) q.Names.length _ ⟨0, c, f, [], by omega, by omega, by simpa using hM, by simpa using hE, rfl, rfl⟩ (.cons rfl .nil) ?_
  rintro m C j hh ⟨i, c', f', r', hi, rfl, hM', hE', rfl, rfl⟩
  simp only [go_sem, Nat.reduceAdd, Nat.reduceSub, Nat.reduceMul, Nat.reduceLT, Nat.reduceLeDiff, Nat.reduceEqDiff, Nat.reduceBEq, Nat.reduceBNe, Nat.reducePow, Int.reduceEq, Int.reduceNe, Int.reduceLT, Int.reduceLE, Int.reduceGT, Int.reduceGE, Int.reduceAdd, Int.reduceSub, Int.reduceNeg, Int.reduceMul, not_true_eq_false, not_false_eq_true, true_and, and_true, Int.reduceToNat]
  refine brK_dec (fun hlt => ?_) (fun hge => ?_)
  · simp only [go_sem, Nat.reduceAdd, Nat.reduceSub, Nat.reduceMul, Nat.reduceLT, Nat.reduceLeDiff, Nat.reduceEqDiff, Nat.reduceBEq, Nat.reduceBNe, Nat.reducePow, Int.reduceEq, Int.reduceNe, Int.reduceLT, Int.reduceLE, Int.reduceGT, Int.reduceGE, Int.reduceAdd, Int.reduceSub, Int.reduceNeg, Int.reduceMul, not_true_eq_false, not_false_eq_true, true_and, and_true, Int.reduceToNat]
    refine elemMap (by omega) (by omega) (fun x hx => ?_)
    simp only [go_sem, Nat.reduceAdd, Nat.reduceSub, Nat.reduceMul, Nat.reduceLT, Nat.reduceLeDiff, Nat.reduceEqDiff, Nat.reduceBEq, Nat.reduceBNe, Nat.reducePow, Int.reduceEq, Int.reduceNe, Int.reduceLT, Int.reduceLE, Int.reduceGT, Int.reduceGE, Int.reduceAdd, Int.reduceSub, Int.reduceNeg, Int.reduceMul, not_true_eq_false, not_false_eq_true, true_and, and_true, Int.reduceToNat]
    refine define140 hM' x (fun h5 r1 => ?_) (fun h6 h7 r1 => ?_) (fun h1 h2 h3 c1 f1 r1 hM1 => ?_)
    · have e5 := names_5 hE' hx h5
      have ee : eqErr p at_ n D q = 5 := by rw [eqErr_names hE (by omega), e5]
      rw [ee] at hK
      simp only [go_sem, Nat.reduceAdd, Nat.reduceSub, Nat.reduceMul, Nat.reduceLT, Nat.reduceLeDiff, Nat.reduceEqDiff, Nat.reduceBEq, Nat.reduceBNe, Nat.reducePow, Int.reduceEq, Int.reduceNe, Int.reduceLT, Int.reduceLE, Int.reduceGT, Int.reduceGE, Int.reduceAdd, Int.reduceSub, Int.reduceNeg, Int.reduceMul, not_true_eq_false, not_false_eq_true, true_and, and_true, Int.reduceToNat]
      refine ⟨[.i 5], by simp only [go_sem, Nat.reduceAdd, Nat.reduceSub, Nat.reduceMul, Nat.reduceLT, Nat.reduceLeDiff, Nat.reduceEqDiff, Nat.reduceBEq, Nat.reduceBNe, Nat.reducePow, Int.reduceEq, Int.reduceNe, Int.reduceLT, Int.reduceLE, Int.reduceGT, Int.reduceGE, Int.reduceAdd, Int.reduceSub, Int.reduceNeg, Int.reduceMul, not_true_eq_false, not_false_eq_true, true_and, and_true, Int.reduceToNat], .i 5, .refl _, hK _ _ _ (fun h => by omega)⟩
    · have e6 := names_6 hE' hx h6 h7
      have ee : eqErr p at_ n D q = 6 := by rw [eqErr_names hE (by omega), e6]
      rw [ee] at hK
      simp only [go_sem, Nat.reduceAdd, Nat.reduceSub, Nat.reduceMul, Nat.reduceLT, Nat.reduceLeDiff, Nat.reduceEqDiff, Nat.reduceBEq, Nat.reduceBNe, Nat.reducePow, Int.reduceEq, Int.reduceNe, Int.reduceLT, Int.reduceLE, Int.reduceGT, Int.reduceGE, Int.reduceAdd, Int.reduceSub, Int.reduceNeg, Int.reduceMul, not_true_eq_false, not_false_eq_true, true_and, and_true, Int.reduceToNat]
      refine ⟨[.i 6], by simp only [go_sem, Nat.reduceAdd, Nat.reduceSub, Nat.reduceMul, Nat.reduceLT, Nat.reduceLeDiff, Nat.reduceEqDiff, Nat.reduceBEq, Nat.reduceBNe, Nat.reducePow, Int.reduceEq, Int.reduceNe, Int.reduceLT, Int.reduceLE, Int.reduceGT, Int.reduceGE, Int.reduceAdd, Int.reduceSub, Int.reduceNeg, Int.reduceMul, not_true_eq_false, not_false_eq_true, true_and, and_true, Int.reduceToNat], .i 6, .refl _, hK _ _ _ (fun h => by omega)⟩
    · have hE1 := names_next hE' hx h1 h2 h3
      have hst : D ++ q.Names.take (i + 1) = D ++ q.Names.take i ++ [x] := by
        rw [Int.toNat_natCast] at hx
        obtain ⟨hi, rfl⟩ := List.getElem?_eq_some_iff.1 hx
        rw [List.take_succ_eq_append_getElem hi, List.append_assoc]
      simp only [go_sem, Nat.reduceAdd, Nat.reduceSub, Nat.reduceMul, Nat.reduceLT, Nat.reduceLeDiff, Nat.reduceEqDiff, Nat.reduceBEq, Nat.reduceBNe, Nat.reducePow, Int.reduceEq, Int.reduceNe, Int.reduceLT, Int.reduceLE, Int.reduceGT, Int.reduceGE, Int.reduceAdd, Int.reduceSub, Int.reduceNeg, Int.reduceMul, not_true_eq_false, not_false_eq_true, true_and, and_true, Int.reduceToNat]
      exact loopFr _ (by omega) ⟨i + 1, c1, f1, _, by omega, rfl, by rw [hst]; exact hM1, hE1, rfl, rfl⟩ (.next rfl (by omega) .nil) rfl
  · simp only [go_sem, Nat.reduceAdd, Nat.reduceSub, Nat.reduceMul, Nat.reduceLT, Nat.reduceLeDiff, Nat.reduceEqDiff, Nat.reduceBEq, Nat.reduceBNe, Nat.reducePow, Int.reduceEq, Int.reduceNe, Int.reduceLT, Int.reduceLE, Int.reduceGT, Int.reduceGE, Int.reduceAdd, Int.reduceSub, Int.reduceNeg, Int.reduceMul, not_true_eq_false, not_false_eq_true, true_and, and_true, Int.reduceToNat]
    have e0 := names_0 hE' (by omega)
    rw [List.take_of_length_le (by omega)] at hM'
    rw [e0] at hE
    rw [eqErr_parts hE] at hK
    refine each28 q.E ?_
    simp only [go_sem, Nat.reduceAdd, Nat.reduceSub, Nat.reduceMul, Nat.reduceLT, Nat.reduceLeDiff, Nat.reduceEqDiff, Nat.reduceBEq, Nat.reduceBNe, Nat.reducePow, Int.reduceEq, Int.reduceNe, Int.reduceLT, Int.reduceLE, Int.reduceGT, Int.reduceGE, Int.reduceAdd, Int.reduceSub, Int.reduceNeg, Int.reduceMul, not_true_eq_false, not_false_eq_true, true_and, and_true, Int.reduceToNat]
    intro l
    rw [snoc6]
    refine each_range q.E (A.length + (r.length + (r'.length + 1 + 1 + 1 + 1) + 1 + 1)) (A.length + (r.length + (r'.length + 1 + 1 + 1) + 1 + 1)) 0 (fun k => ∀ y ∈ (parts q.E).take k, leadsF p at_ n y = true) (fun _ => A ++ .mp .str c' f' :: .cells 91 [.lst 2 (p.Enums.map DEnum.enc) none, .lst 5 (p.Nodes.map DNode.enc) none, .i at_, .map A.length] :: (r ++ .cells 74 [.ptr (A.length + 1) 0] :: .cells 52 [.lst 1 (q.Names.map AV.s) none, .i q.E.kind, .i q.E.n, .s q.E.name, .i q.E.op, .lst 1 (q.E.arms.map AV.s) none, .lst 6 (q.E.subs.map Ex.enc) none] :: .cells 56 [.i 0] :: (r' ++ [exBx q.E]))) (fun _ => [])
      (fun h => (parts q.E).all (leadsF p at_ n) = false ∧ h = A ++ .mp .str c' f' :: .cells 91 [.lst 2 (p.Enums.map DEnum.enc) none, .lst 5 (p.Nodes.map DNode.enc) none, .i at_, .map A.length] :: (r ++ .cells 74 [.ptr (A.length + 1) 0] :: .cells 52 [.lst 1 (q.Names.map AV.s) none, .i q.E.kind, .i q.E.n, .s q.E.name, .i q.E.op, .lst 1 (q.E.arms.map AV.s) none, .lst 6 (q.E.subs.map Ex.enc) none] :: .cells 56 [.i 5] :: (r' ++ [exBx q.E]))) ?_ (fun _ => rfl) ?_ ?_ rfl rfl rfl (by simp) (fun k z r1 K hz hi hK1 hK2 => ?_) (fun r1 hi => ?_) (fun k h' r1 hs => ?_)
    · intro _; simp
    · rintro h ⟨_, rfl⟩; simp
    · simp only [go_sem, Nat.reduceAdd, Nat.reduceSub, Nat.reduceMul, Nat.reduceLT, Nat.reduceLeDiff, Nat.reduceEqDiff, Nat.reduceBEq, Nat.reduceBNe, Nat.reducePow, Int.reduceEq, Int.reduceNe, Int.reduceLT, Int.reduceLE, Int.reduceGT, Int.reduceGE, Int.reduceAdd, Int.reduceSub, Int.reduceNeg, Int.reduceMul, not_true_eq_false, not_false_eq_true, true_and, and_true, Int.reduceToNat]
    · simp only [go_sem, Nat.reduceAdd, Nat.reduceSub, Nat.reduceMul, Nat.reduceLT, Nat.reduceLeDiff, Nat.reduceEqDiff, Nat.reduceBEq, Nat.reduceBNe, Nat.reducePow, Int.reduceEq, Int.reduceNe, Int.reduceLT, Int.reduceLE, Int.reduceGT, Int.reduceGE, Int.reduceAdd, Int.reduceSub, Int.reduceNeg, Int.reduceMul, not_true_eq_false, not_false_eq_true, true_and, and_true, Int.reduceToNat, setPs, roundA]
      refine leads141 hM' z (fun r2 => ?_)
      cases hl : leadsF p at_ n z with
      | true =>
        have hk := hK1 (take_all hi hz hl) (exBx z :: r2)
        simp only [go_sem, Nat.reduceAdd, Nat.reduceSub, Nat.reduceMul, Nat.reduceLT, Nat.reduceLeDiff, Nat.reduceEqDiff, Nat.reduceBEq, Nat.reduceBNe, Nat.reducePow, Int.reduceEq, Int.reduceNe, Int.reduceLT, Int.reduceLE, Int.reduceGT, Int.reduceGE, Int.reduceAdd, Int.reduceSub, Int.reduceNeg, Int.reduceMul, not_true_eq_false, not_false_eq_true, true_and, and_true, Int.reduceToNat, roundB]
        simpa using hk
      | false =>
        have hk := hK2 _ (exBx z :: r2) ⟨List.all_eq_false.2 ⟨z, List.mem_of_getElem? hz, by simp [hl]⟩, rfl⟩
        simp only [go_sem, Nat.reduceAdd, Nat.reduceSub, Nat.reduceMul, Nat.reduceLT, Nat.reduceLeDiff, Nat.reduceEqDiff, Nat.reduceBEq, Nat.reduceBNe, Nat.reducePow, Int.reduceEq, Int.reduceNe, Int.reduceLT, Int.reduceLE, Int.reduceGT, Int.reduceGE, Int.reduceAdd, Int.reduceSub, Int.reduceNeg, Int.reduceMul, not_true_eq_false, not_false_eq_true, true_and, and_true, Int.reduceToNat, roundB]
        simpa using hk
    · rw [List.take_length] at hi
      rw [List.all_eq_true.2 hi] at hK
      simp only [go_sem, Nat.reduceAdd, Nat.reduceSub, Nat.reduceMul, Nat.reduceLT, Nat.reduceLeDiff, Nat.reduceEqDiff, Nat.reduceBEq, Nat.reduceBNe, Nat.reducePow, Int.reduceEq, Int.reduceNe, Int.reduceLT, Int.reduceLE, Int.reduceGT, Int.reduceGE, Int.reduceAdd, Int.reduceSub, Int.reduceNeg, Int.reduceMul, not_true_eq_false, not_false_eq_true, true_and, and_true, Int.reduceToNat]
      refine ⟨[.i 0], by simp only [go_sem, Nat.reduceAdd, Nat.reduceSub, Nat.reduceMul, Nat.reduceLT, Nat.reduceLeDiff, Nat.reduceEqDiff, Nat.reduceBEq, Nat.reduceBNe, Nat.reducePow, Int.reduceEq, Int.reduceNe, Int.reduceLT, Int.reduceLE, Int.reduceGT, Int.reduceGE, Int.reduceAdd, Int.reduceSub, Int.reduceNeg, Int.reduceMul, not_true_eq_false, not_false_eq_true, true_and, and_true, Int.reduceToNat], .i 0, .refl _, ?_⟩
      have hk := fun z => hK c' f' z (fun _ => hM')
      simp only [if_true] at hk
      exact hk _
    · obtain ⟨hs, rfl⟩ := hs
      rw [hs] at hK
      simp only [go_sem, Nat.reduceAdd, Nat.reduceSub, Nat.reduceMul, Nat.reduceLT, Nat.reduceLeDiff, Nat.reduceEqDiff, Nat.reduceBEq, Nat.reduceBNe, Nat.reducePow, Int.reduceEq, Int.reduceNe, Int.reduceLT, Int.reduceLE, Int.reduceGT, Int.reduceGE, Int.reduceAdd, Int.reduceSub, Int.reduceNeg, Int.reduceMul, not_true_eq_false, not_false_eq_true, true_and, and_true, Int.reduceToNat]
      refine ⟨[.i 5], by simp only [go_sem, Nat.reduceAdd, Nat.reduceSub, Nat.reduceMul, Nat.reduceLT, Nat.reduceLeDiff, Nat.reduceEqDiff, Nat.reduceBEq, Nat.reduceBNe, Nat.reducePow, Int.reduceEq, Int.reduceNe, Int.reduceLT, Int.reduceLE, Int.reduceGT, Int.reduceGE, Int.reduceAdd, Int.reduceSub, Int.reduceNeg, Int.reduceMul, not_true_eq_false, not_false_eq_true, true_and, and_true, Int.reduceToNat], .i 5, .refl _, ?_⟩
      have hk := fun z => hK c' f' z (fun h => by simp at h)
      simp only [Bool.false_eq_true, if_false] at hk
      exact hk _
end
end Go.Proofs.YtipcmpkihhfhcaaDoor

namespace Go.Proofs.YtipcmpkihhfhcaaDoor
open Go.Abs
set_option maxRecDepth 20000
set_option linter.unusedSimpArgs false
set_option linter.unusedVariables false
set_option maxHeartbeats 1000000
attribute [local irreducible] vc vcOps vcStep vcGuard prK hrK gK gsK brK callK ElemK SeqK BlockK ScopeK OpsK CallK LoopK LoopGo finPost ACall PCall PCallE BCall vqOps vqStep vqGuard qrK heK pcK gqK gqsK QOpsK qcallK DrawK
theorem fault_err {p : DProg} {a : Int} {n : DNode} (h : ¬ (allV n).all (clockedF p.Enums n) = true) : nodeFault p a n = ⟨a, -1, 5⟩ := by unfold nodeFault; rw [if_neg h]
theorem fault_eq {p : DProg} {a : Int} {n : DNode} {e : Int × Int} (h : (allV n).all (clockedF p.Enums n) = true) (he : eqsErr p a n 0 [] n.Eqs = e) (h2 : ¬ e.2 = 0) : nodeFault p a n = ⟨a, e.1, e.2⟩ := by unfold nodeFault; rw [if_pos h, he, if_neg h2]
theorem fault_def {p : DProg} {a : Int} {n : DNode} {e : Int × Int} (h : (allV n).all (clockedF p.Enums n) = true) (he : eqsErr p a n 0 [] n.Eqs = e) (h2 : e.2 = 0) : nodeFault p a n = if allDef n = true then ⟨0, 0, 0⟩ else ⟨a, -1, 5⟩ := by unfold nodeFault; rw [if_pos h, he, if_pos h2]
theorem eqsErr_in {p : DProg} {a : Int} {n : DNode} : ∀ {l : List DEq} {i : Nat} {D : List ByteArray}, (eqsErr p a n i D l).2 = 0 → ∀ s ∈ l.flatMap DEq.Names, inF n s = false
  | [], _, _, _ => by simp
  | q :: r, i, D, h => by
    rw [eqsErr] at h
    split at h
    · rename_i h0
      intro s hs
      rw [List.flatMap_cons] at hs
      rcases List.mem_append.1 hs with hs | hs
      · have hn : namesErr n D q.Names = 0 := by
          unfold eqErr at h0
          split at h0
          · assumption
          · assumption
        exact namesErr_in hn s hs
      · exact eqsErr_in h s hs
    · rename_i h0
      exact absurd h h0
abbrev trK : Tr := (.two 0 (.two 1 (.two 2 (.two 3 (.one 4 (.one 5 (.one 6 (.one 7 .nil)))) 4 (.two 3 (.one 5 (.one 6 (.one 7 .nil))) 5 (.one 3 (.one 6 (.one 7 .nil))))) 4 (.two 2 (.two 3 (.one 5 (.one 6 (.one 7 .nil))) 5 (.one 3 (.one 6 (.one 7 .nil)))) 5 (.one 2 (.one 3 (.one 6 (.one 7 .nil)))))) 4 (.two 1 (.two 2 (.two 3 (.one 5 (.one 6 (.one 7 .nil))) 5 (.one 3 (.one 6 (.one 7 .nil)))) 5 (.one 2 (.one 3 (.one 6 (.one 7 .nil))))) 5 (.one 1 (.one 2 (.one 3 (.one 6 (.one 7 .nil))))))) 4 (.two 0 (.two 1 (.two 2 (.two 3 (.one 5 (.one 6 (.one 7 .nil))) 5 (.one 3 (.one 6 (.one 7 .nil)))) 5 (.one 2 (.one 3 (.one 6 (.one 7 .nil))))) 5 (.one 1 (.one 2 (.one 3 (.one 6 (.one 7 .nil)))))) 5 (.one 0 (.one 1 (.one 2 (.one 3 (.one 6 (.one 7 .nil))))))))
section
variable {A r : List Blk} {p : DProg} {c : Nat} {f : Value → Option AV} {n : DNode} {K : AV → List Blk → Prop}
theorem n37 : (Tryd.f37.name == "runtime.NumGoroutine") = false := by kernel_rfl
theorem check49 {j : Nat} (hj : p.Nodes[j]? = some n) (hn : okNode n) (hM : MapN f (knF n [])) (hK : ∀ c' f' r', K (nodeFault p (j : Int) n).enc (HS A p (j : Int) c' f' (r ++ r'))) : ACall Tryd.prog 37 [.ptr (A.length + 1) 0] (HS A p (j : Int) c f r) K := by
  have hh1 := hn.1.1
  have hh2 := hn.2.1.1
  have hh3 := hn.2.2.1.1
  have hh4 := hn.2.2.2.1
  have hal : (allV n).length ≤ 60 := by simp [allV]; omega
  have hfl : [n.Ins, n.Outs, n.Vars].flatten.length = (allV n).length := rfl
  refine acallK_of_vc tabOK Tryd.func37 n37 rfl (n := 83) rfl (rs := [.cell 2 58]) rfl ?_
  simp only [go_sem, Nat.reduceAdd, Nat.reduceSub, Nat.reduceMul, Nat.reduceLT, Nat.reduceLeDiff, Nat.reduceEqDiff, Nat.reduceBEq, Nat.reduceBNe, Nat.reducePow, Int.reduceEq, Int.reduceNe, Int.reduceLT, Int.reduceLE, Int.reduceGT, Int.reduceGE, Int.reduceAdd, Int.reduceSub, Int.reduceNeg, Int.reduceMul, not_true_eq_false, not_false_eq_true, true_and, and_true, Int.reduceToNat]
  refine node87 hj (fun r1 => ?_)
  simp only [go_sem, Nat.reduceAdd, Nat.reduceSub, Nat.reduceMul, Nat.reduceLT, Nat.reduceLeDiff, Nat.reduceEqDiff, Nat.reduceBEq, Nat.reduceBNe, Nat.reducePow, Int.reduceEq, Int.reduceNe, Int.reduceLT, Int.reduceLE, Int.reduceGT, Int.reduceGE, Int.reduceAdd, Int.reduceSub, Int.reduceNeg, Int.reduceMul, not_true_eq_false, not_false_eq_true, true_and, and_true, Int.reduceToNat]
  refine PCall.callW (concatD [n.Ins, n.Outs, n.Vars] (by show (allV n).length ≤ _; omega)) ⟨.tok _ _ _, trivial⟩ ?_
  simp only [go_sem, Nat.reduceAdd, Nat.reduceSub, Nat.reduceMul, Nat.reduceLT, Nat.reduceLeDiff, Nat.reduceEqDiff, Nat.reduceBEq, Nat.reduceBNe, Nat.reducePow, Int.reduceEq, Int.reduceNe, Int.reduceLT, Int.reduceLE, Int.reduceGT, Int.reduceGE, Int.reduceAdd, Int.reduceSub, Int.reduceNeg, Int.reduceMul, not_true_eq_false, not_false_eq_true, true_and, and_true, Int.reduceToNat]
  intro _
  refine loop_frX [6, 27, 28, 29, 30, 31, 32, 33, 34, 35, 36, 37] (fun m C => ∃ i : Nat, i ≤ (allV n).length ∧ m = (allV n).length - i ∧ (∀ d ∈ (allV n).take i, clockedF p.Enums n d = true) ∧ C = [(27, .raw (.int .i64 (i : Nat)))]) (allV n).length _ ⟨0, by omega, by omega, by simp, rfl⟩ (.cons rfl .nil) ?_
  rintro m C ja r2 ⟨i, hi, rfl, hp, rfl⟩
  simp only [go_sem, Nat.reduceAdd, Nat.reduceSub, Nat.reduceMul, Nat.reduceLT, Nat.reduceLeDiff, Nat.reduceEqDiff, Nat.reduceBEq, Nat.reduceBNe, Nat.reducePow, Int.reduceEq, Int.reduceNe, Int.reduceLT, Int.reduceLE, Int.reduceGT, Int.reduceGE, Int.reduceAdd, Int.reduceSub, Int.reduceNeg, Int.reduceMul, not_true_eq_false, not_false_eq_true, true_and, and_true, Int.reduceToNat]
  refine brK_dec (fun hlt => ?_) (fun hge => ?_)
  · simp only [go_sem, Nat.reduceAdd, Nat.reduceSub, Nat.reduceMul, Nat.reduceLT, Nat.reduceLeDiff, Nat.reduceEqDiff, Nat.reduceBEq, Nat.reduceBNe, Nat.reducePow, Int.reduceEq, Int.reduceNe, Int.reduceLT, Int.reduceLE, Int.reduceGT, Int.reduceGE, Int.reduceAdd, Int.reduceSub, Int.reduceNeg, Int.reduceMul, not_true_eq_false, not_false_eq_true, true_and, and_true, Int.reduceToNat]
    refine elemMap (by omega) (by omega) (fun d hd => ?_)
    simp only [go_sem, Nat.reduceAdd, Nat.reduceSub, Nat.reduceMul, Nat.reduceLT, Nat.reduceLeDiff, Nat.reduceEqDiff, Nat.reduceBEq, Nat.reduceBNe, Nat.reducePow, Int.reduceEq, Int.reduceNe, Int.reduceLT, Int.reduceLE, Int.reduceGT, Int.reduceGE, Int.reduceAdd, Int.reduceSub, Int.reduceNeg, Int.reduceMul, not_true_eq_false, not_false_eq_true, true_and, and_true, Int.reduceToNat]
    refine clocked88 hM d (fun r3 => ?_)
    cases hdx : clockedF p.Enums n d with
    | true =>
      simp only [go_sem, Nat.reduceAdd, Nat.reduceSub, Nat.reduceMul, Nat.reduceLT, Nat.reduceLeDiff, Nat.reduceEqDiff, Nat.reduceBEq, Nat.reduceBNe, Nat.reducePow, Int.reduceEq, Int.reduceNe, Int.reduceLT, Int.reduceLE, Int.reduceGT, Int.reduceGE, Int.reduceAdd, Int.reduceSub, Int.reduceNeg, Int.reduceMul, not_true_eq_false, not_false_eq_true, true_and, and_true, Int.reduceToNat]
      exact loopFrX _ (by omega) _ ⟨i + 1, by omega, rfl, take_all hp (by simpa using hd) hdx, rfl⟩ (.next rfl (by omega) .nil) rfl (by first | rfl | (simp only [List.append_assoc, List.cons_append, List.nil_append]; rfl))
    | false =>
      have hf := fault_err (p := p) (a := (j : Int)) (n := n) (by rw [List.all_eq_false.2 ⟨d, List.mem_of_getElem? hd, by simp [hdx]⟩]; simp)
      rw [hf, DFault.enc_eq] at hK
      simp only [go_sem, Nat.reduceAdd, Nat.reduceSub, Nat.reduceMul, Nat.reduceLT, Nat.reduceLeDiff, Nat.reduceEqDiff, Nat.reduceBEq, Nat.reduceBNe, Nat.reducePow, Int.reduceEq, Int.reduceNe, Int.reduceLT, Int.reduceLE, Int.reduceGT, Int.reduceGE, Int.reduceAdd, Int.reduceSub, Int.reduceNeg, Int.reduceMul, not_true_eq_false, not_false_eq_true, true_and, and_true, Int.reduceToNat]
      exact ⟨[.agg [.i (j : Int), .i (-1), .i 5]], by simp only [go_sem, Nat.reduceAdd, Nat.reduceSub, Nat.reduceMul, Nat.reduceLT, Nat.reduceLeDiff, Nat.reduceEqDiff, Nat.reduceBEq, Nat.reduceBNe, Nat.reducePow, Int.reduceEq, Int.reduceNe, Int.reduceLT, Int.reduceLE, Int.reduceGT, Int.reduceGE, Int.reduceAdd, Int.reduceSub, Int.reduceNeg, Int.reduceMul, not_true_eq_false, not_false_eq_true, true_and, and_true, Int.reduceToNat], _, .refl _, hK _ _ _⟩
  · have hcl : (allV n).all (clockedF p.Enums n) = true := List.all_eq_true.2 (take_full hp (by omega))
    simp only [go_sem, Nat.reduceAdd, Nat.reduceSub, Nat.reduceMul, Nat.reduceLT, Nat.reduceLeDiff, Nat.reduceEqDiff, Nat.reduceBEq, Nat.reduceBNe, Nat.reducePow, Int.reduceEq, Int.reduceNe, Int.reduceLT, Int.reduceLE, Int.reduceGT, Int.reduceGE, Int.reduceAdd, Int.reduceSub, Int.reduceNeg, Int.reduceMul, not_true_eq_false, not_false_eq_true, true_and, and_true, Int.reduceToNat]
    intro _
    generalize hE : eqsErr p (j : Int) n 0 [] n.Eqs = E
    refine loop_fr [7, 8, 41, 42, 43, 44, 45, 46, 47, 48, 49, 50, 51, 52, 53, 54, 55] (fun m C hh => ∃ (i c' : Nat) (f' : Value → Option AV) (r' : List Blk), i ≤ n.Eqs.length ∧ m = n.Eqs.length - i ∧ MapN f' (knF n ((n.Eqs.take i).flatMap DEq.Names)) ∧ eqsErr p (j : Int) n i ((n.Eqs.take i).flatMap DEq.Names) (n.Eqs.drop i) = E ∧ C = [(41, .raw (.int .i64 (i : Nat)))] ∧
      hh = HS A p (j : Int) c' f' (r ++ .cells 58 [.i 0, .i 0, .i 0] :: .cells 58 [.i (j : Int), .i (-1), .i 0] :: (r1 ++ .cells 55 [.s n.Name, .lst 6 (n.Ins.map DDecl.enc) none, .lst 6 (n.Outs.map DDecl.enc) none, .lst 6 (n.Vars.map DDecl.enc) none, .lst 7 (n.Eqs.map DEq.enc) none] :: r'))) n.Eqs.length _ ⟨0, c, f, _, by omega, by omega, by simpa using hM, by simpa using hE, rfl, by first | rfl | (simp only [List.append_assoc, List.cons_append, List.nil_append]; rfl)⟩ (.cons rfl .nil) ?_
    rintro m C jb hh ⟨i, c', f', r', hi, rfl, hM', hE', rfl, rfl⟩
    simp only [go_sem, Nat.reduceAdd, Nat.reduceSub, Nat.reduceMul, Nat.reduceLT, Nat.reduceLeDiff, Nat.reduceEqDiff, Nat.reduceBEq, Nat.reduceBNe, Nat.reducePow, Int.reduceEq, Int.reduceNe, Int.reduceLT, Int.reduceLE, Int.reduceGT, Int.reduceGE, Int.reduceAdd, Int.reduceSub, Int.reduceNeg, Int.reduceMul, not_true_eq_false, not_false_eq_true, true_and, and_true, Int.reduceToNat]
    refine brK_dec (fun hlt => ?_) (fun hge => ?_)
    · simp only [go_sem, Nat.reduceAdd, Nat.reduceSub, Nat.reduceMul, Nat.reduceLT, Nat.reduceLeDiff, Nat.reduceEqDiff, Nat.reduceBEq, Nat.reduceBNe, Nat.reducePow, Int.reduceEq, Int.reduceNe, Int.reduceLT, Int.reduceLE, Int.reduceGT, Int.reduceGE, Int.reduceAdd, Int.reduceSub, Int.reduceNeg, Int.reduceMul, not_true_eq_false, not_false_eq_true, true_and, and_true, Int.reduceToNat]
      refine elemMap (by omega) (by omega) (fun x hx => ?_)
      simp only [go_sem, Nat.reduceAdd, Nat.reduceSub, Nat.reduceMul, Nat.reduceLT, Nat.reduceLeDiff, Nat.reduceEqDiff, Nat.reduceBEq, Nat.reduceBNe, Nat.reducePow, Int.reduceEq, Int.reduceNe, Int.reduceLT, Int.reduceLE, Int.reduceGT, Int.reduceGE, Int.reduceAdd, Int.reduceSub, Int.reduceNeg, Int.reduceMul, not_true_eq_false, not_false_eq_true, true_and, and_true, Int.reduceToNat]
      refine eq89 hM' x (hn.2.2.2.2.2 _ (List.mem_of_getElem? hx)) (fun c1 f1 r3 hM1 => ?_)
      have hv := eqErr_vals p (j : Int) n ((n.Eqs.take i).flatMap DEq.Names) x
      by_cases he : eqErr p (j : Int) n ((n.Eqs.take i).flatMap DEq.Names) x = 0
      · have hM2 := hM1 he
        have hE1 := eqs_next hE' hx he
        have hst := flatMap_next DEq.Names (l := n.Eqs) (by simpa using hx)
        rw [he]
        simp only [go_sem, Nat.reduceAdd, Nat.reduceSub, Nat.reduceMul, Nat.reduceLT, Nat.reduceLeDiff, Nat.reduceEqDiff, Nat.reduceBEq, Nat.reduceBNe, Nat.reducePow, Int.reduceEq, Int.reduceNe, Int.reduceLT, Int.reduceLE, Int.reduceGT, Int.reduceGE, Int.reduceAdd, Int.reduceSub, Int.reduceNeg, Int.reduceMul, not_true_eq_false, not_false_eq_true, true_and, and_true, Int.reduceToNat]
        exact loopFr _ (by omega) ⟨i + 1, c1, f1, _, by omega, rfl, by rw [hst]; exact hM2, hE1, rfl, rfl⟩ (.next rfl (by omega) .nil) rfl
      · have hE1 := eqs_at hE' hx he
        have hf := fault_eq hcl hE (by rw [hE1]; exact he)
        rw [hf, hE1, DFault.enc_eq] at hK
        generalize eqErr p (j : Int) n ((n.Eqs.take i).flatMap DEq.Names) x = ee at hK he hv
        simp only [go_sem, Nat.reduceAdd, Nat.reduceSub, Nat.reduceMul, Nat.reduceLT, Nat.reduceLeDiff, Nat.reduceEqDiff, Nat.reduceBEq, Nat.reduceBNe, Nat.reducePow, Int.reduceEq, Int.reduceNe, Int.reduceLT, Int.reduceLE, Int.reduceGT, Int.reduceGE, Int.reduceAdd, Int.reduceSub, Int.reduceNeg, Int.reduceMul, not_true_eq_false, not_false_eq_true, true_and, and_true, Int.reduceToNat]
        refine brK_dec (fun hq => ?_) (fun hq => ?_)
        · simp only [go_sem, Nat.reduceAdd, Nat.reduceSub, Nat.reduceMul, Nat.reduceLT, Nat.reduceLeDiff, Nat.reduceEqDiff, Nat.reduceBEq, Nat.reduceBNe, Nat.reducePow, Int.reduceEq, Int.reduceNe, Int.reduceLT, Int.reduceLE, Int.reduceGT, Int.reduceGE, Int.reduceAdd, Int.reduceSub, Int.reduceNeg, Int.reduceMul, not_true_eq_false, not_false_eq_true, true_and, and_true, Int.reduceToNat]
          refine brK_dec (fun _ => ?_) (fun hq2 => absurd hq hq2)
          simp only [go_sem, Nat.reduceAdd, Nat.reduceSub, Nat.reduceMul, Nat.reduceLT, Nat.reduceLeDiff, Nat.reduceEqDiff, Nat.reduceBEq, Nat.reduceBNe, Nat.reducePow, Int.reduceEq, Int.reduceNe, Int.reduceLT, Int.reduceLE, Int.reduceGT, Int.reduceGE, Int.reduceAdd, Int.reduceSub, Int.reduceNeg, Int.reduceMul, not_true_eq_false, not_false_eq_true, true_and, and_true, Int.reduceToNat]
          exact ⟨[.agg [.i (j : Int), .i (i : Int), .i ee]], by simp only [go_sem, Nat.reduceAdd, Nat.reduceSub, Nat.reduceMul, Nat.reduceLT, Nat.reduceLeDiff, Nat.reduceEqDiff, Nat.reduceBEq, Nat.reduceBNe, Nat.reducePow, Int.reduceEq, Int.reduceNe, Int.reduceLT, Int.reduceLE, Int.reduceGT, Int.reduceGE, Int.reduceAdd, Int.reduceSub, Int.reduceNeg, Int.reduceMul, not_true_eq_false, not_false_eq_true, true_and, and_true, Int.reduceToNat], _, .refl _, hK _ _ _⟩
        · exact absurd hq (by simpa using he)
    · simp only [go_sem, Nat.reduceAdd, Nat.reduceSub, Nat.reduceMul, Nat.reduceLT, Nat.reduceLeDiff, Nat.reduceEqDiff, Nat.reduceBEq, Nat.reduceBNe, Nat.reducePow, Int.reduceEq, Int.reduceNe, Int.reduceLT, Int.reduceLE, Int.reduceGT, Int.reduceGE, Int.reduceAdd, Int.reduceSub, Int.reduceNeg, Int.reduceMul, not_true_eq_false, not_false_eq_true, true_and, and_true, Int.reduceToNat]
      have hE1 := eqs_0 hE' (by omega)
      rw [List.take_of_length_le (by omega)] at hM'
      have hD := eqsErr_in (p := p) (a := (j : Int)) (n := n) (l := n.Eqs) (i := 0) (D := []) (by rw [hE, hE1])
      have hf := fault_def hcl hE (by rw [hE1])
      unfold allDef at hf
      have hL : [n.Outs, n.Vars].flatten = n.Outs ++ n.Vars := by simp
      have hll : (n.Outs ++ n.Vars).length ≤ 60 := by simp; omega
      refine PCall.callW (concatD [n.Outs, n.Vars] (by show ([n.Outs, n.Vars].flatten).length ≤ _; rw [hL]; omega)) ⟨.tok _ _ _, trivial⟩ ?_
      rw [hL]
      generalize hW : n.Outs ++ n.Vars = W at hf hll
      simp only [go_sem, Nat.reduceAdd, Nat.reduceSub, Nat.reduceMul, Nat.reduceLT, Nat.reduceLeDiff, Nat.reduceEqDiff, Nat.reduceBEq, Nat.reduceBNe, Nat.reducePow, Int.reduceEq, Int.reduceNe, Int.reduceLT, Int.reduceLE, Int.reduceGT, Int.reduceGE, Int.reduceAdd, Int.reduceSub, Int.reduceNeg, Int.reduceMul, not_true_eq_false, not_false_eq_true, true_and, and_true, Int.reduceToNat]
      intro _
      refine loop_frX [10, 67, 68, 69, 70, 71, 72, 73, 74, 75, 76, 77, 78, 79, 80, 81] (fun m C => ∃ i : Nat, i ≤ W.length ∧ m = W.length - i ∧ (∀ d ∈ W.take i, memB d.Name (n.Eqs.flatMap DEq.Names) = true) ∧ C = [(67, .raw (.int .i64 (i : Nat)))]) W.length _ ⟨0, by omega, by omega, by simp, rfl⟩ (.cons rfl .nil) ?_
      rintro m C jc r4 ⟨i2, hi2, rfl, hp2, rfl⟩
      simp only [go_sem, Nat.reduceAdd, Nat.reduceSub, Nat.reduceMul, Nat.reduceLT, Nat.reduceLeDiff, Nat.reduceEqDiff, Nat.reduceBEq, Nat.reduceBNe, Nat.reducePow, Int.reduceEq, Int.reduceNe, Int.reduceLT, Int.reduceLE, Int.reduceGT, Int.reduceGE, Int.reduceAdd, Int.reduceSub, Int.reduceNeg, Int.reduceMul, not_true_eq_false, not_false_eq_true, true_and, and_true, Int.reduceToNat]
      refine brK_dec (fun hlt => ?_) (fun hge2 => ?_)
      · simp only [go_sem, Nat.reduceAdd, Nat.reduceSub, Nat.reduceMul, Nat.reduceLT, Nat.reduceLeDiff, Nat.reduceEqDiff, Nat.reduceBEq, Nat.reduceBNe, Nat.reducePow, Int.reduceEq, Int.reduceNe, Int.reduceLT, Int.reduceLE, Int.reduceGT, Int.reduceGE, Int.reduceAdd, Int.reduceSub, Int.reduceNeg, Int.reduceMul, not_true_eq_false, not_false_eq_true, true_and, and_true, Int.reduceToNat]
        refine elemMap (by omega) (by omega) (fun d hd => ?_)
        simp only [go_sem, Nat.reduceAdd, Nat.reduceSub, Nat.reduceMul, Nat.reduceLT, Nat.reduceLeDiff, Nat.reduceEqDiff, Nat.reduceBEq, Nat.reduceBNe, Nat.reducePow, Int.reduceEq, Int.reduceNe, Int.reduceLT, Int.reduceLE, Int.reduceGT, Int.reduceGE, Int.reduceAdd, Int.reduceSub, Int.reduceNeg, Int.reduceMul, not_true_eq_false, not_false_eq_true, true_and, and_true, Int.reduceToNat]
        have hMx := hM' d.Name
        have hdn := kn_done (n := n) (D := n.Eqs.flatMap DEq.Names) (d := d) (by rw [hW]; exact List.mem_of_getElem? hd) hD
        refine drawV trK mo (by kernel_rfl) ?_
        simp only [go_sem, Nat.reduceAdd, Nat.reduceSub, Nat.reduceMul, Nat.reduceLT, Nat.reduceLeDiff, Nat.reduceEqDiff, Nat.reduceBEq, Nat.reduceBNe, Nat.reducePow, Int.reduceEq, Int.reduceNe, Int.reduceLT, Int.reduceLE, Int.reduceGT, Int.reduceGE, Int.reduceAdd, Int.reduceSub, Int.reduceNeg, Int.reduceMul, not_true_eq_false, not_false_eq_true, true_and, and_true, Int.reduceToNat, hMx]
        repeat' first
          | refine And.intro ?_ ?_
          | simp only [go_sem, Nat.reduceAdd, Nat.reduceSub, Nat.reduceMul, Nat.reduceLT, Nat.reduceLeDiff, Nat.reduceEqDiff, Nat.reduceBEq, Nat.reduceBNe, Nat.reducePow, Int.reduceEq, Int.reduceNe, Int.reduceLT, Int.reduceLE, Int.reduceGT, Int.reduceGE, Int.reduceAdd, Int.reduceSub, Int.reduceNeg, Int.reduceMul, not_true_eq_false, not_false_eq_true, true_and, and_true, Int.reduceToNat, hMx]
        all_goals
          refine brK_dec (fun hq => ?_) (fun hq => ?_)
          · have hno : memB d.Name (n.Eqs.flatMap DEq.Names) = false := by
              cases hb : memB d.Name (n.Eqs.flatMap DEq.Names) with
              | false => rfl
              | true => exact absurd (by have := hdn.2 hb; omega) hq
            rw [List.all_eq_false.2 ⟨d, List.mem_of_getElem? hd, by simp [hno]⟩, if_neg (by simp)] at hf
            rw [hf, DFault.enc_eq] at hK
            simp only [go_sem, Nat.reduceAdd, Nat.reduceSub, Nat.reduceMul, Nat.reduceLT, Nat.reduceLeDiff, Nat.reduceEqDiff, Nat.reduceBEq, Nat.reduceBNe, Nat.reducePow, Int.reduceEq, Int.reduceNe, Int.reduceLT, Int.reduceLE, Int.reduceGT, Int.reduceGE, Int.reduceAdd, Int.reduceSub, Int.reduceNeg, Int.reduceMul, not_true_eq_false, not_false_eq_true, true_and, and_true, Int.reduceToNat]
            exact ⟨[.agg [.i (j : Int), .i (-1), .i 5]], by simp only [go_sem, Nat.reduceAdd, Nat.reduceSub, Nat.reduceMul, Nat.reduceLT, Nat.reduceLeDiff, Nat.reduceEqDiff, Nat.reduceBEq, Nat.reduceBNe, Nat.reducePow, Int.reduceEq, Int.reduceNe, Int.reduceLT, Int.reduceLE, Int.reduceGT, Int.reduceGE, Int.reduceAdd, Int.reduceSub, Int.reduceNeg, Int.reduceMul, not_true_eq_false, not_false_eq_true, true_and, and_true, Int.reduceToNat], _, .refl _, hK _ _ _⟩
          · have hyes : memB d.Name (n.Eqs.flatMap DEq.Names) = true := hdn.1 (by omega)
            simp only [go_sem, Nat.reduceAdd, Nat.reduceSub, Nat.reduceMul, Nat.reduceLT, Nat.reduceLeDiff, Nat.reduceEqDiff, Nat.reduceBEq, Nat.reduceBNe, Nat.reducePow, Int.reduceEq, Int.reduceNe, Int.reduceLT, Int.reduceLE, Int.reduceGT, Int.reduceGE, Int.reduceAdd, Int.reduceSub, Int.reduceNeg, Int.reduceMul, not_true_eq_false, not_false_eq_true, true_and, and_true, Int.reduceToNat]
            exact loopFrX _ (by omega) _ ⟨i2 + 1, by omega, rfl, take_all hp2 (by simpa using hd) hyes, rfl⟩ (.next rfl (by omega) .nil) rfl (by first | rfl | (simp only [List.append_assoc, List.cons_append, List.nil_append]; rfl))
      · rw [List.all_eq_true.2 (take_full hp2 (by omega)), if_pos rfl] at hf
        rw [hf, DFault.enc_eq] at hK
        simp only [go_sem, Nat.reduceAdd, Nat.reduceSub, Nat.reduceMul, Nat.reduceLT, Nat.reduceLeDiff, Nat.reduceEqDiff, Nat.reduceBEq, Nat.reduceBNe, Nat.reducePow, Int.reduceEq, Int.reduceNe, Int.reduceLT, Int.reduceLE, Int.reduceGT, Int.reduceGE, Int.reduceAdd, Int.reduceSub, Int.reduceNeg, Int.reduceMul, not_true_eq_false, not_false_eq_true, true_and, and_true, Int.reduceToNat]
        exact ⟨[.agg [.i 0, .i 0, .i 0]], by simp only [go_sem, Nat.reduceAdd, Nat.reduceSub, Nat.reduceMul, Nat.reduceLT, Nat.reduceLeDiff, Nat.reduceEqDiff, Nat.reduceBEq, Nat.reduceBNe, Nat.reducePow, Int.reduceEq, Int.reduceNe, Int.reduceLT, Int.reduceLE, Int.reduceGT, Int.reduceGE, Int.reduceAdd, Int.reduceSub, Int.reduceNeg, Int.reduceMul, not_true_eq_false, not_false_eq_true, true_and, and_true, Int.reduceToNat], _, .refl _, hK _ _ _⟩
end
end Go.Proofs.YtipcmpkihhfhcaaDoor

namespace Go.Proofs.YtipcmpkihhfhcaaDoor
open Go.Abs
set_option maxRecDepth 20000
set_option linter.unusedSimpArgs false
set_option linter.unusedVariables false
set_option maxHeartbeats 1000000
attribute [local irreducible] vc vcOps vcStep vcGuard prK hrK gK gsK brK callK ElemK SeqK BlockK ScopeK OpsK CallK LoopK LoopGo finPost ACall PCall PCallE BCall vqOps vqStep vqGuard qrK heK pcK gqK gqsK QOpsK qcallK DrawK
theorem n51 : (Tryd.f51.name == "runtime.NumGoroutine") = false := by kernel_rfl
theorem rightN (L : List DEnum) (n : DNode) (hn : okNode n) : PCall Tryd.prog 51 [.lst 2 (L.map DEnum.enc) none, n.enc] (.b (nodeF L.length n)) := by
  have h1 := hn.1.1
  have h2 := hn.2.1.1
  have h3 := hn.2.2.1.1
  have hal : (allV n).length ≤ 60 := by simp [allV]; omega
  have hba : bareN n = (!(n.Ins.any fun d => !(decide (d.On = ⟨#[]⟩))) && !(n.Outs.any fun d => !(decide (d.On = ⟨#[]⟩)))) := by
    unfold bareN
    rw [List.all_append, List.all_eq_not_any_not, List.all_eq_not_any_not]
  refine pcall_of_vc tabOK Tryd.func51 n51 rfl (by repeat' first | exact pure_nil | refine pure_cons ?_ ?_ | exact .raw _ | exact pure_enc _ | exact pure_lst _ | exact pure_strs _ | exact pure_ints _ | exact DTy.pure _ | exact DTy.pures _ | exact DEnum.pure _ | exact DEnum.pures _ | exact DDecl.pure _ | exact DDecl.pures _ | exact DEq.pure _ | exact DEq.pures _ | exact DNode.pure _ | exact DNode.pures _ | exact DProg.pure _ | exact DProg.pures _ | exact DCond.pure _ | exact DCond.pures _ | exact DAtom.pure _ | exact DAtom.pures _ | exact DPlain.pure _ | exact DPlain.pures _ | exact DVar.pure _ | exact DVar.pures _ | exact DFlow.pure _ | exact DFlow.pures _ | exact DFlows.pure _ | exact DFlows.pures _ | exact DAsked.pure _ | exact DAsked.pures _ | exact DFault.pure _ | exact DFault.pures _ | exact DCell.pure _ | exact DCell.pures _ | exact DReply.pure _ | exact DReply.pures _ | exact DAsk.pure _ | exact DAsk.pures _ | exact DOp.pure _ | exact DOp.pures _ | exact pure_list (fun x => DDecl.pures x) _ | exact .fn _ _ _ pure_nil pure_nil | refine .agg _ ?_ | refine .tup _ ?_ | assumption) (by repeat' first | exact pure_nil | refine pure_cons ?_ ?_ | exact .raw _ | exact pure_enc _ | exact pure_lst _ | exact pure_strs _ | exact pure_ints _ | exact DTy.pure _ | exact DTy.pures _ | exact DEnum.pure _ | exact DEnum.pures _ | exact DDecl.pure _ | exact DDecl.pures _ | exact DEq.pure _ | exact DEq.pures _ | exact DNode.pure _ | exact DNode.pures _ | exact DProg.pure _ | exact DProg.pures _ | exact DCond.pure _ | exact DCond.pures _ | exact DAtom.pure _ | exact DAtom.pures _ | exact DPlain.pure _ | exact DPlain.pures _ | exact DVar.pure _ | exact DVar.pures _ | exact DFlow.pure _ | exact DFlow.pures _ | exact DFlows.pure _ | exact DFlows.pures _ | exact DAsked.pure _ | exact DAsked.pures _ | exact DFault.pure _ | exact DFault.pures _ | exact DCell.pure _ | exact DCell.pures _ | exact DReply.pure _ | exact DReply.pures _ | exact DAsk.pure _ | exact DAsk.pures _ | exact DOp.pure _ | exact DOp.pures _ | exact pure_list (fun x => DDecl.pures x) _ | exact .fn _ _ _ pure_nil pure_nil | refine .agg _ ?_ | refine .tup _ ?_ | assumption) (n := 55) rfl (rs := [.tmp 4]) rfl ?_
  simp only [go_sem, Nat.reduceAdd, Nat.reduceSub, Nat.reduceMul, Nat.reduceLT, Nat.reduceLeDiff, Nat.reduceEqDiff, Nat.reduceBEq, Nat.reduceBNe, Nat.reducePow, Int.reduceEq, Int.reduceNe, Int.reduceLT, Int.reduceLE, Int.reduceGT, Int.reduceGE, Int.reduceAdd, Int.reduceSub, Int.reduceNeg, Int.reduceMul, not_true_eq_false, not_false_eq_true, true_and, and_true, Int.reduceToNat]
  refine acallK_of_vc tabOK Tryd.func67 n67 rfl (n := 4) rfl (rs := [.tmp 2]) rfl ?_
  simp only [go_sem, Nat.reduceAdd, Nat.reduceSub, Nat.reduceMul, Nat.reduceLT, Nat.reduceLeDiff, Nat.reduceEqDiff, Nat.reduceBEq, Nat.reduceBNe, Nat.reducePow, Int.reduceEq, Int.reduceNe, Int.reduceLT, Int.reduceLE, Int.reduceGT, Int.reduceGE, Int.reduceAdd, Int.reduceSub, Int.reduceNeg, Int.reduceMul, not_true_eq_false, not_false_eq_true, true_and, and_true, Int.reduceToNat]
  refine finK rfl ?_
  repeat' first
    | exact finB rfl
    | exact finI rfl
    | exact finP rfl
    | exact absurd rfl (by assumption)
    | simp only [go_sem, Nat.reduceAdd, Nat.reduceSub, Nat.reduceMul, Nat.reduceLT, Nat.reduceLeDiff, Nat.reduceEqDiff, Nat.reduceBEq, Nat.reduceBNe, Nat.reducePow, Int.reduceEq, Int.reduceNe, Int.reduceLT, Int.reduceLE, Int.reduceGT, Int.reduceGE, Int.reduceAdd, Int.reduceSub, Int.reduceNeg, Int.reduceMul, not_true_eq_false, not_false_eq_true, true_and, and_true, Int.reduceToNat]
    | (intro _)
    | refine brK_dec (fun _ => ?_) (fun _ => ?_)
    | refine brK_split (fun hb_ => ?_) (fun hb_ => ?_)
    | refine gK_dec (fun _ => ?_) (fun _ => ?_)
    | refine gK_split (fun hb_ => ?_) (fun hb_ => ?_)
    | refine gqK_dec (fun _ => ?_) (fun _ => ?_)
    | refine ⟨by omega, ?_⟩
    | refine elemHave (by omega) (by assumption) ?_
    | refine elemMap (by omega) (by omega) (fun x hx => ?_)
    | refine drawK mo (by kernel_rfl) ?_
    | (refine PCall.call (all63 n (by omega)) ?_)
    | (refine declared131 L x (k := 1) rfl ?_; generalize hdx : declaredF L.length x = b; cases b)
    | ((fail_if_success (clear hu)); refine bareP ?_; generalize hu : (n.Ins.any fun d => !(decide (d.On = ⟨#[]⟩))) = u at hba ⊢; cases u)
    | (refine bareP ?_; generalize hv : (n.Outs.any fun d => !(decide (d.On = ⟨#[]⟩))) = v at hba ⊢; cases v)
    | (refine PCall.call (equationP x (hn.2.2.2.2.2 _ (List.mem_of_getElem? hx))) ?_; generalize hqx : eqF x = b; cases b)
    | (refine PCall.call (low6 n.Name) ?_; generalize hlx : lowF n.Name = b; cases b)
    | (refine finBq rfl ?_; rw [node_no hx hdx]; done)
    | (refine finBq rfl ?_; rw [node_no2 hba]; done)
    | (refine finBq rfl ?_; rw [node_no3 hx hqx]; done)
    | (refine finBq rfl ?_; rw [node_yes hpi (by omega) hba hpj (by omega), hlx]; first | rfl | (simp; done) | (simp; omega))
    | exact loopFrX _ (by omega) _ ⟨i + 1, by omega, rfl, take_all hpi (by simpa using hx) hdx, rfl⟩ (.next rfl (by omega) .nil) rfl (by first | rfl | (simp only [List.append_assoc, List.cons_append, List.nil_append]; rfl))
    | (refine loop_frX [4, 7, 16, 17, 18, 19, 20, 21, 22, 23, 24] (fun mm_ CC_ => ∃ (i : Nat), i ≤ (allV n).length ∧ mm_ = (allV n).length - i ∧ (∀ d ∈ (allV n).take i, declaredF L.length d = true) ∧ CC_ = [(16, .raw (.int .i64 ((i : Nat) : Int)))]) ((allV n).length) _ ⟨0, by omega, by omega, by simp, rfl⟩ (.cons rfl .nil) ?_; rintro mm_ CC_ ji ri ⟨i, hi, rfl, hpi, rfl⟩)
    | exact loopFrX _ (by omega) _ ⟨j + 1, by omega, rfl, take_all hpj (by simpa using hx) hqx, rfl⟩ (.next rfl (by omega) .nil) rfl (by first | rfl | (simp only [List.append_assoc, List.cons_append, List.nil_append]; rfl))
    | (refine loop_frX [4, 10, 38, 39, 40, 41, 42, 43, 44, 45] (fun mm_ CC_ => ∃ (j : Nat), j ≤ n.Eqs.length ∧ mm_ = n.Eqs.length - j ∧ (∀ q ∈ n.Eqs.take j, eqF q = true) ∧ CC_ = [(38, .raw (.int .i64 ((j : Nat) : Int)))]) (n.Eqs.length) _ ⟨0, by omega, by omega, by simp, rfl⟩ (.cons rfl .nil) ?_; rintro mm_ CC_ jj rj ⟨j, hj, rfl, hpj, rfl⟩)
theorem n49 : (Tryd.f49.name == "runtime.NumGoroutine") = false := by kernel_rfl
theorem greatP (n : DNode) : PCall Tryd.prog 49 [n.enc] (.b (greatF n)) := by
  refine pcall_of_vc tabOK Tryd.func49 n49 rfl (by repeat' first | exact pure_nil | refine pure_cons ?_ ?_ | exact .raw _ | exact pure_enc _ | exact pure_lst _ | exact pure_strs _ | exact pure_ints _ | exact DTy.pure _ | exact DTy.pures _ | exact DEnum.pure _ | exact DEnum.pures _ | exact DDecl.pure _ | exact DDecl.pures _ | exact DEq.pure _ | exact DEq.pures _ | exact DNode.pure _ | exact DNode.pures _ | exact DProg.pure _ | exact DProg.pures _ | exact DCond.pure _ | exact DCond.pures _ | exact DAtom.pure _ | exact DAtom.pures _ | exact DPlain.pure _ | exact DPlain.pures _ | exact DVar.pure _ | exact DVar.pures _ | exact DFlow.pure _ | exact DFlow.pures _ | exact DFlows.pure _ | exact DFlows.pures _ | exact DAsked.pure _ | exact DAsked.pures _ | exact DFault.pure _ | exact DFault.pures _ | exact DCell.pure _ | exact DCell.pures _ | exact DReply.pure _ | exact DReply.pures _ | exact DAsk.pure _ | exact DAsk.pures _ | exact DOp.pure _ | exact DOp.pures _ | exact pure_list (fun x => DDecl.pures x) _ | exact .fn _ _ _ pure_nil pure_nil | refine .agg _ ?_ | refine .tup _ ?_ | assumption) (by repeat' first | exact pure_nil | refine pure_cons ?_ ?_ | exact .raw _ | exact pure_enc _ | exact pure_lst _ | exact pure_strs _ | exact pure_ints _ | exact DTy.pure _ | exact DTy.pures _ | exact DEnum.pure _ | exact DEnum.pures _ | exact DDecl.pure _ | exact DDecl.pures _ | exact DEq.pure _ | exact DEq.pures _ | exact DNode.pure _ | exact DNode.pures _ | exact DProg.pure _ | exact DProg.pures _ | exact DCond.pure _ | exact DCond.pures _ | exact DAtom.pure _ | exact DAtom.pures _ | exact DPlain.pure _ | exact DPlain.pures _ | exact DVar.pure _ | exact DVar.pures _ | exact DFlow.pure _ | exact DFlow.pures _ | exact DFlows.pure _ | exact DFlows.pures _ | exact DAsked.pure _ | exact DAsked.pures _ | exact DFault.pure _ | exact DFault.pures _ | exact DCell.pure _ | exact DCell.pures _ | exact DReply.pure _ | exact DReply.pures _ | exact DAsk.pure _ | exact DAsk.pures _ | exact DOp.pure _ | exact DOp.pures _ | exact pure_list (fun x => DDecl.pures x) _ | exact .fn _ _ _ pure_nil pure_nil | refine .agg _ ?_ | refine .tup _ ?_ | assumption) (n := 25) rfl (rs := [.tmp 2]) rfl ?_
  repeat' first
    | exact finB rfl
    | exact finI rfl
    | exact finP rfl
    | exact absurd rfl (by assumption)
    | simp only [go_sem, Nat.reduceAdd, Nat.reduceSub, Nat.reduceMul, Nat.reduceLT, Nat.reduceLeDiff, Nat.reduceEqDiff, Nat.reduceBEq, Nat.reduceBNe, Nat.reducePow, Int.reduceEq, Int.reduceNe, Int.reduceLT, Int.reduceLE, Int.reduceGT, Int.reduceGE, Int.reduceAdd, Int.reduceSub, Int.reduceNeg, Int.reduceMul, not_true_eq_false, not_false_eq_true, true_and, and_true, Int.reduceToNat]
    | (intro _)
    | refine brK_dec (fun _ => ?_) (fun _ => ?_)
    | refine brK_any ?_ ?_
    | refine gK_dec (fun _ => ?_) (fun _ => ?_)
    | refine gK_any ?_ ?_
    | refine gqK_dec (fun _ => ?_) (fun _ => ?_)
    | refine ⟨by omega, ?_⟩
    | refine elemHave (by omega) (by assumption) ?_
    | refine elemMap (by omega) (by omega) (fun x hx => ?_)
    | refine drawK mo (by kernel_rfl) ?_
    | (exfalso; omega)
    | (refine finBq rfl ?_; unfold greatF; (try rw [decide_eq_true (p := n.Ins.length > 6) (by omega)]); (try rw [decide_eq_false (p := n.Ins.length > 6) (by omega)]); (try rw [decide_eq_true (p := n.Outs.length > 6) (by omega)]); (try rw [decide_eq_false (p := n.Outs.length > 6) (by omega)]); (try rw [decide_eq_true (p := n.Vars.length > 12) (by omega)]); (try rw [decide_eq_false (p := n.Vars.length > 12) (by omega)]); simp; done)
    | (refine finBq rfl ?_; unfold greatF; (try rw [decide_eq_true (p := n.Ins.length > 6) (by omega)]); (try rw [decide_eq_false (p := n.Ins.length > 6) (by omega)]); (try rw [decide_eq_true (p := n.Outs.length > 6) (by omega)]); (try rw [decide_eq_false (p := n.Outs.length > 6) (by omega)]); (try rw [decide_eq_true (p := n.Vars.length > 12) (by omega)]); (try rw [decide_eq_false (p := n.Vars.length > 12) (by omega)]); simp; omega)
theorem n53 : (Tryd.f53.name == "runtime.NumGoroutine") = false := by kernel_rfl
theorem onceP (n : DNode) (hl : (allV n).length ≤ 60) : PCall Tryd.prog 53 [n.enc] (.b (onceN n)) := by
  refine pcall_of_vc tabOK Tryd.func53 n53 rfl (by repeat' first | exact pure_nil | refine pure_cons ?_ ?_ | exact .raw _ | exact pure_enc _ | exact pure_lst _ | exact pure_strs _ | exact pure_ints _ | exact DTy.pure _ | exact DTy.pures _ | exact DEnum.pure _ | exact DEnum.pures _ | exact DDecl.pure _ | exact DDecl.pures _ | exact DEq.pure _ | exact DEq.pures _ | exact DNode.pure _ | exact DNode.pures _ | exact DProg.pure _ | exact DProg.pures _ | exact DCond.pure _ | exact DCond.pures _ | exact DAtom.pure _ | exact DAtom.pures _ | exact DPlain.pure _ | exact DPlain.pures _ | exact DVar.pure _ | exact DVar.pures _ | exact DFlow.pure _ | exact DFlow.pures _ | exact DFlows.pure _ | exact DFlows.pures _ | exact DAsked.pure _ | exact DAsked.pures _ | exact DFault.pure _ | exact DFault.pures _ | exact DCell.pure _ | exact DCell.pures _ | exact DReply.pure _ | exact DReply.pures _ | exact DAsk.pure _ | exact DAsk.pures _ | exact DOp.pure _ | exact DOp.pures _ | exact pure_list (fun x => DDecl.pures x) _ | exact .fn _ _ _ pure_nil pure_nil | refine .agg _ ?_ | refine .tup _ ?_ | assumption) (by repeat' first | exact pure_nil | refine pure_cons ?_ ?_ | exact .raw _ | exact pure_enc _ | exact pure_lst _ | exact pure_strs _ | exact pure_ints _ | exact DTy.pure _ | exact DTy.pures _ | exact DEnum.pure _ | exact DEnum.pures _ | exact DDecl.pure _ | exact DDecl.pures _ | exact DEq.pure _ | exact DEq.pures _ | exact DNode.pure _ | exact DNode.pures _ | exact DProg.pure _ | exact DProg.pures _ | exact DCond.pure _ | exact DCond.pures _ | exact DAtom.pure _ | exact DAtom.pures _ | exact DPlain.pure _ | exact DPlain.pures _ | exact DVar.pure _ | exact DVar.pures _ | exact DFlow.pure _ | exact DFlow.pures _ | exact DFlows.pure _ | exact DFlows.pures _ | exact DAsked.pure _ | exact DAsked.pures _ | exact DFault.pure _ | exact DFault.pures _ | exact DCell.pure _ | exact DCell.pures _ | exact DReply.pure _ | exact DReply.pures _ | exact DAsk.pure _ | exact DAsk.pures _ | exact DOp.pure _ | exact DOp.pures _ | exact pure_list (fun x => DDecl.pures x) _ | exact .fn _ _ _ pure_nil pure_nil | refine .agg _ ?_ | refine .tup _ ?_ | assumption) (n := 21) rfl (rs := [.tmp 2]) rfl ?_
  unfold onceN
  simp only [go_sem, Nat.reduceAdd, Nat.reduceSub, Nat.reduceMul, Nat.reduceLT, Nat.reduceLeDiff, Nat.reduceEqDiff, Nat.reduceBEq, Nat.reduceBNe, Nat.reducePow, Int.reduceEq, Int.reduceNe, Int.reduceLT, Int.reduceLE, Int.reduceGT, Int.reduceGE, Int.reduceAdd, Int.reduceSub, Int.reduceNeg, Int.reduceMul, not_true_eq_false, not_false_eq_true, true_and, and_true, Int.reduceToNat]
  refine PCall.call (all63 n (by omega)) ?_
  generalize allV n = L at hl
  simp only [go_sem, Nat.reduceAdd, Nat.reduceSub, Nat.reduceMul, Nat.reduceLT, Nat.reduceLeDiff, Nat.reduceEqDiff, Nat.reduceBEq, Nat.reduceBNe, Nat.reducePow, Int.reduceEq, Int.reduceNe, Int.reduceLT, Int.reduceLE, Int.reduceGT, Int.reduceGE, Int.reduceAdd, Int.reduceSub, Int.reduceNeg, Int.reduceMul, not_true_eq_false, not_false_eq_true, true_and, and_true, Int.reduceToNat]
  intro _
  refine loop_ghost (ghost_tok 3 9 1 rfl) ?_
  refine loop_fr [3, 5, 9, 10, 11, 12, 13, 14, 15, 16, 17, 18] (fun m C hh => ∃ (i : Nat) (r : List Blk), i ≤ L.length ∧ m = L.length - i ∧ C = [(9, .raw (.int .i64 (i : Nat))), (3, .lst 1 (((L.take i).map DDecl.Name).map AV.s) (some 1))] ∧ hh = .cells 55 [.s n.Name, .lst 6 (n.Ins.map DDecl.enc) none, .lst 6 (n.Outs.map DDecl.enc) none, .lst 6 (n.Vars.map DDecl.enc) none, .lst 7 (n.Eqs.map DEq.enc) none] :: .tok 9 1 (L.take i).length :: r) L.length _ ⟨0, [], by omega, by omega, rfl, rfl⟩ (.cons rfl (.cons rfl .nil)) ?_
  rintro m C j hh ⟨i, r, hi, rfl, rfl, rfl⟩
  simp only [go_sem, Nat.reduceAdd, Nat.reduceSub, Nat.reduceMul, Nat.reduceLT, Nat.reduceLeDiff, Nat.reduceEqDiff, Nat.reduceBEq, Nat.reduceBNe, Nat.reducePow, Int.reduceEq, Int.reduceNe, Int.reduceLT, Int.reduceLE, Int.reduceGT, Int.reduceGE, Int.reduceAdd, Int.reduceSub, Int.reduceNeg, Int.reduceMul, not_true_eq_false, not_false_eq_true, true_and, and_true, Int.reduceToNat]
  refine brK_dec (fun hlt => ?_) (fun hge => ?_)
  · simp only [go_sem, Nat.reduceAdd, Nat.reduceSub, Nat.reduceMul, Nat.reduceLT, Nat.reduceLeDiff, Nat.reduceEqDiff, Nat.reduceBEq, Nat.reduceBNe, Nat.reducePow, Int.reduceEq, Int.reduceNe, Int.reduceLT, Int.reduceLE, Int.reduceGT, Int.reduceGE, Int.reduceAdd, Int.reduceSub, Int.reduceNeg, Int.reduceMul, not_true_eq_false, not_false_eq_true, true_and, and_true, Int.reduceToNat]
    refine elemMap (by omega) (by omega) (fun d hd => ?_)
    have hli : (L.take i).length = i := by rw [List.length_take]; omega
    have hli2 : (L.take (i + 1)).length = i + 1 := by rw [List.length_take]; omega
    have hst := take_mapS (f := DDecl.Name) hd
    try simp only [go_sem, Nat.reduceAdd, Nat.reduceSub, Nat.reduceMul, Nat.reduceLT, Nat.reduceLeDiff, Nat.reduceEqDiff, Nat.reduceBEq, Nat.reduceBNe, Nat.reducePow, Int.reduceEq, Int.reduceNe, Int.reduceLT, Int.reduceLE, Int.reduceGT, Int.reduceGE, Int.reduceAdd, Int.reduceSub, Int.reduceNeg, Int.reduceMul, not_true_eq_false, not_false_eq_true, true_and, and_true, Int.reduceToNat]
    refine ⟨by simp; omega, ?_⟩
    try simp only [go_sem, Nat.reduceAdd, Nat.reduceSub, Nat.reduceMul, Nat.reduceLT, Nat.reduceLeDiff, Nat.reduceEqDiff, Nat.reduceBEq, Nat.reduceBNe, Nat.reducePow, Int.reduceEq, Int.reduceNe, Int.reduceLT, Int.reduceLE, Int.reduceGT, Int.reduceGE, Int.reduceAdd, Int.reduceSub, Int.reduceNeg, Int.reduceMul, not_true_eq_false, not_false_eq_true, true_and, and_true, Int.reduceToNat]
    exact loopFr _ (by omega) ⟨i + 1, _, by omega, rfl, rfl, by rw [hli2, hli]⟩ (.next rfl (by omega) (.cons (by rw [hst]; simp [slot]) .nil)) rfl
  · simp only [go_sem, Nat.reduceAdd, Nat.reduceSub, Nat.reduceMul, Nat.reduceLT, Nat.reduceLeDiff, Nat.reduceEqDiff, Nat.reduceBEq, Nat.reduceBNe, Nat.reducePow, Int.reduceEq, Int.reduceNe, Int.reduceLT, Int.reduceLE, Int.reduceGT, Int.reduceGE, Int.reduceAdd, Int.reduceSub, Int.reduceNeg, Int.reduceMul, not_true_eq_false, not_false_eq_true, true_and, and_true, Int.reduceToNat]
    rw [List.take_of_length_le (by omega)]
    refine PCall.callW (once12 (L.map DDecl.Name)) ⟨.tok _ _ _, trivial⟩ ?_
    simp only [go_sem, Nat.reduceAdd, Nat.reduceSub, Nat.reduceMul, Nat.reduceLT, Nat.reduceLeDiff, Nat.reduceEqDiff, Nat.reduceBEq, Nat.reduceBNe, Nat.reducePow, Int.reduceEq, Int.reduceNe, Int.reduceLT, Int.reduceLE, Int.reduceGT, Int.reduceGE, Int.reduceAdd, Int.reduceSub, Int.reduceNeg, Int.reduceMul, not_true_eq_false, not_false_eq_true, true_and, and_true, Int.reduceToNat]
    exact finBq rfl rfl
end Go.Proofs.YtipcmpkihhfhcaaDoor

namespace Go.Proofs.YtipcmpkihhfhcaaDoor
open Go.Abs
set_option maxRecDepth 20000
set_option linter.unusedSimpArgs false
set_option linter.unusedVariables false
set_option maxHeartbeats 1000000
attribute [local irreducible] vc vcOps vcStep vcGuard prK hrK gK gsK brK callK ElemK SeqK BlockK ScopeK OpsK CallK LoopK LoopGo finPost ACall PCall PCallE BCall vqOps vqStep vqGuard qrK heK pcK gqK gqsK QOpsK qcallK DrawK
theorem flat_at {L : List DEnum} {i k : Nat} {e : DEnum} {c : ByteArray} (he : L[i]? = some e) (hc : e.Ctors[k]? = some c) : (L.flatMap DEnum.Ctors)[((L.take i).flatMap DEnum.Ctors).length + k]? = some c := by
  obtain ⟨hi, rfl⟩ := List.getElem?_eq_some_iff.1 he
  have h1 : L.flatMap DEnum.Ctors = (L.take i).flatMap DEnum.Ctors ++ (L[i].Ctors ++ (L.drop (i + 1)).flatMap DEnum.Ctors) := by
    have h2 : L = L.take i ++ L[i] :: L.drop (i + 1) := by rw [← List.drop_eq_getElem_cons hi, List.take_append_drop]
    conv => lhs; rw [h2]
    rw [List.flatMap_append, List.flatMap_cons]
  rw [h1, List.getElem?_append_right (by omega), Nat.add_sub_cancel_left, List.getElem?_append_left (List.getElem?_eq_some_iff.1 hc).1]
  exact hc
theorem ctors_all {L : List DEnum} {ps : Array Tmp} {x y : Code} {s : List AV} {l : Nat} {Q : Post} (m k0 g : Nat) (H G : Nat → List Blk) (hH : ∀ n, (H n).length = m) (hG : ∀ n, (G n).length = g)
    (hk : ∀ n, (H n)[k0]? = some (.cells 34 [.lst 2 (L.map DEnum.enc) none])) (hps : ps.size = 2) (hx : noR x = true) (hy : noR y = true)
    (hbody : ∀ (n : Nat) (c : ByteArray) (i k : Nat) (r : List Blk) (K : AV → List Blk → Prop), (L.flatMap DEnum.Ctors)[n]? = some c → (∀ r', K (.b true) (H (n + 1) ++ (.lp l .ready none ps x y s :: (G (n + 1) ++ (r ++ r'))))) →
      vc Tryd.prog ti x (roundA Tryd.prog ti l m ps x y s K) (setPs s ps.toList [.agg [.i (i : Int), .i (k : Int)], .s c]) (H n ++ (.lp l .ready none ps x y s :: (G n ++ r))))
    (hn : ∀ r, Q .normal s (H (L.flatMap DEnum.Ctors).length ++ (.dead :: (G (L.flatMap DEnum.Ctors).length ++ r)))) :
    ACall Tryd.prog 58 [.fn (.yield l) [] [], .ptr k0 0] (H 0 ++ (.lp l .ready none ps x y s :: G 0)) (fun _ h' => loopEnd Q s m h') := by
  refine ctors155 L l k0 (fun i k h => ∃ (r : List Blk) (n : Nat), n = ((L.take i).flatMap DEnum.Ctors).length + k ∧ h = H n ++ (.lp l .ready none ps x y s :: (G n ++ r))) (fun _ => False) ?_ ?_ ?_ ?_ ⟨[], 0, by simp, by simp⟩ ?_ ?_
  · rintro i k h ⟨r, n, _, rfl⟩
    rw [List.getElem?_append_left (List.getElem?_eq_some_iff.1 (hk n)).1]
    exact hk n
  · rintro i k h r' ⟨r, n, hn, rfl⟩
    exact ⟨r ++ r', n, hn, by simp⟩
  · rintro i e h he ⟨r, n, hn, rfl⟩
    exact ⟨r, n, by rw [hn, flatMap_next _ he]; simp, rfl⟩
  · rintro i k e c h he hc ⟨r, n, hn, rfl⟩ K hK1 _
    refine ycall_of_vc tabOK (k := m) (ps := ps) (x := x) (y := y) (s := s) ?_ (by simp [hps]) hx hy (hbody n c i k r K (by rw [hn]; exact flat_at he hc) (fun r' => hK1 _ ⟨r ++ r', n + 1, by omega, by simp⟩))
    rw [List.getElem?_append_right (by rw [hH]; exact Nat.le_refl _), hH, Nat.sub_self]; rfl
  · rintro h' ⟨r, n, hn', rfl⟩
    rw [List.take_length, Nat.add_zero] at hn'
    subst hn'
    have e1 : (H (L.flatMap DEnum.Ctors).length ++ (Blk.lp l .ready none ps x y s :: (G (L.flatMap DEnum.Ctors).length ++ r)))[m]? = some (.lp l .ready none ps x y s) := by
      rw [List.getElem?_append_right (by rw [hH]; exact Nat.le_refl _), hH, Nat.sub_self]; rfl
    have e2 : (H (L.flatMap DEnum.Ctors).length ++ (Blk.lp l .ready none ps x y s :: (G (L.flatMap DEnum.Ctors).length ++ r))).set m .dead = H (L.flatMap DEnum.Ctors).length ++ (.dead :: (G (L.flatMap DEnum.Ctors).length ++ r)) := by
      rw [List.set_append_right _ _ (by rw [hH]; exact Nat.le_refl _), hH, Nat.sub_self]; rfl
    unfold loopEnd
    rw [e1, e2]
    exact hn r
  · rintro h' h
    exact h.elim
theorem ctors_all3 {L : List DEnum} {ps : Array Tmp} {x y : Code} {s : List AV} {l : Nat} {Q : Post} (B1 B2 : Nat → Blk) (B3 : Blk) (r0 : List Blk) (tk : Nat → Blk) {k0 m : Nat} (hk0 : k0 = r0.length + 3) (hm : m = r0.length + 4) (hps : ps.size = 2) (hx : noR x = true) (hy : noR y = true)
    (hbody : ∀ (n : Nat) (c : ByteArray) (i k : Nat) (r : List Blk) (K : AV → List Blk → Prop), (L.flatMap DEnum.Ctors)[n]? = some c →
      (∀ r', K (.b true) (B1 (n + 1) :: B2 (n + 1) :: B3 :: (r0 ++ .cells 34 [.lst 2 (L.map DEnum.enc) none] :: .lp l .ready none ps x y s :: tk (n + 1) :: (r ++ r')))) →
      vc Tryd.prog ti x (roundA Tryd.prog ti l m ps x y s K) (setPs s ps.toList [.agg [.i (i : Int), .i (k : Int)], .s c]) (B1 n :: B2 n :: B3 :: (r0 ++ .cells 34 [.lst 2 (L.map DEnum.enc) none] :: .lp l .ready none ps x y s :: tk n :: r)))
    (hn : ∀ r, Q .normal s (B1 (L.flatMap DEnum.Ctors).length :: B2 (L.flatMap DEnum.Ctors).length :: B3 :: (r0 ++ .cells 34 [.lst 2 (L.map DEnum.enc) none] :: .dead :: tk (L.flatMap DEnum.Ctors).length :: r))) :
    ACall Tryd.prog 58 [.fn (.yield l) [] [], .ptr k0 0] (B1 0 :: B2 0 :: B3 :: (r0 ++ [.cells 34 [.lst 2 (L.map DEnum.enc) none], .lp l .ready none ps x y s, tk 0])) (fun _ h' => loopEnd Q s m h') := by
  subst hk0 hm
  have h := ctors_all (L := L) (ps := ps) (x := x) (y := y) (s := s) (l := l) (Q := Q) (r0.length + 4) (r0.length + 3) 1 (fun n => B1 n :: B2 n :: B3 :: (r0 ++ [.cells 34 [.lst 2 (L.map DEnum.enc) none]])) (fun n => [tk n]) (fun n => by simp) (fun n => rfl) (fun n => by simp) hps hx hy
    (fun n c i k r K hc hK => by have := hbody n c i k r K hc (fun r' => by have := hK r'; simpa using this); simpa using this) (fun r => by have := hn r; simpa using this)
  simpa using h
theorem flat_len {L : List DEnum} (h : ∀ e ∈ L, okEnum e) : (L.flatMap DEnum.Ctors).length ≤ 12 * L.length := by
  induction L with
  | nil => simp
  | cons e L ih =>
    have h1 := (h e List.mem_cons_self).1
    have h2 := ih fun x hx => h x (List.mem_cons_of_mem _ hx)
    rw [List.flatMap_cons, List.length_append, List.length_cons]
    omega
theorem en_fin {L : List DEnum} {u v : Bool} (hg : greatE L = false) (hu : (L.all fun e => lowF e.Name && decide (0 < e.Ctors.length)) = u) (hv : (L.flatMap DEnum.Ctors).all highF = v) : enumsF L = if (v && u) = true then (if (onceB (L.map DEnum.Name) && onceB (L.flatMap DEnum.Ctors)) = true then 0 else 6) else 1 := by
  unfold enumsF rightEn
  rw [hg, hu, hv, Bool.and_comm]
  simp
theorem n47 : (Tryd.f47.name == "runtime.NumGoroutine") = false := by kernel_rfl
theorem enumsP (L : List DEnum) (hl : okEnums L) : PCall Tryd.prog 47 [.lst 2 (L.map DEnum.enc) none] (.i (enumsF L)) := by
  have hl8 := hl.1
  refine pcall_of_vc tabOK Tryd.func47 n47 rfl (by repeat' first | exact pure_nil | refine pure_cons ?_ ?_ | exact .raw _ | exact pure_enc _ | exact pure_lst _ | exact pure_strs _ | exact pure_ints _ | exact DTy.pure _ | exact DTy.pures _ | exact DEnum.pure _ | exact DEnum.pures _ | exact DDecl.pure _ | exact DDecl.pures _ | exact DEq.pure _ | exact DEq.pures _ | exact DNode.pure _ | exact DNode.pures _ | exact DProg.pure _ | exact DProg.pures _ | exact DCond.pure _ | exact DCond.pures _ | exact DAtom.pure _ | exact DAtom.pures _ | exact DPlain.pure _ | exact DPlain.pures _ | exact DVar.pure _ | exact DVar.pures _ | exact DFlow.pure _ | exact DFlow.pures _ | exact DFlows.pure _ | exact DFlows.pures _ | exact DAsked.pure _ | exact DAsked.pures _ | exact DFault.pure _ | exact DFault.pures _ | exact DCell.pure _ | exact DCell.pures _ | exact DReply.pure _ | exact DReply.pures _ | exact DAsk.pure _ | exact DAsk.pures _ | exact DOp.pure _ | exact DOp.pures _ | exact pure_list (fun x => DDecl.pures x) _ | exact .fn _ _ _ pure_nil pure_nil | refine .agg _ ?_ | refine .tup _ ?_ | assumption) (by repeat' first | exact pure_nil | refine pure_cons ?_ ?_ | exact .raw _ | exact pure_enc _ | exact pure_lst _ | exact pure_strs _ | exact pure_ints _ | exact DTy.pure _ | exact DTy.pures _ | exact DEnum.pure _ | exact DEnum.pures _ | exact DDecl.pure _ | exact DDecl.pures _ | exact DEq.pure _ | exact DEq.pures _ | exact DNode.pure _ | exact DNode.pures _ | exact DProg.pure _ | exact DProg.pures _ | exact DCond.pure _ | exact DCond.pures _ | exact DAtom.pure _ | exact DAtom.pures _ | exact DPlain.pure _ | exact DPlain.pures _ | exact DVar.pure _ | exact DVar.pures _ | exact DFlow.pure _ | exact DFlow.pures _ | exact DFlows.pure _ | exact DFlows.pures _ | exact DAsked.pure _ | exact DAsked.pures _ | exact DFault.pure _ | exact DFault.pures _ | exact DCell.pure _ | exact DCell.pures _ | exact DReply.pure _ | exact DReply.pures _ | exact DAsk.pure _ | exact DAsk.pures _ | exact DOp.pure _ | exact DOp.pures _ | exact pure_list (fun x => DDecl.pures x) _ | exact .fn _ _ _ pure_nil pure_nil | refine .agg _ ?_ | refine .tup _ ?_ | assumption) (n := 61) rfl (rs := [.tmp 2]) rfl ?_
  simp only [go_sem, Nat.reduceAdd, Nat.reduceSub, Nat.reduceMul, Nat.reduceLT, Nat.reduceLeDiff, Nat.reduceEqDiff, Nat.reduceBEq, Nat.reduceBNe, Nat.reducePow, Int.reduceEq, Int.reduceNe, Int.reduceLT, Int.reduceLE, Int.reduceGT, Int.reduceGE, Int.reduceAdd, Int.reduceSub, Int.reduceNeg, Int.reduceMul, not_true_eq_false, not_false_eq_true, true_and, and_true, Int.reduceToNat]
  refine PCall.call (great74 L) ?_
  cases hg : greatE L with
  | true =>
    simp only [go_sem, Nat.reduceAdd, Nat.reduceSub, Nat.reduceMul, Nat.reduceLT, Nat.reduceLeDiff, Nat.reduceEqDiff, Nat.reduceBEq, Nat.reduceBNe, Nat.reducePow, Int.reduceEq, Int.reduceNe, Int.reduceLT, Int.reduceLE, Int.reduceGT, Int.reduceGE, Int.reduceAdd, Int.reduceSub, Int.reduceNeg, Int.reduceMul, not_true_eq_false, not_false_eq_true, true_and, and_true, Int.reduceToNat]
    exact finIq rfl (en_many hg).symm
  | false =>
  simp only [go_sem, Nat.reduceAdd, Nat.reduceSub, Nat.reduceMul, Nat.reduceLT, Nat.reduceLeDiff, Nat.reduceEqDiff, Nat.reduceBEq, Nat.reduceBNe, Nat.reducePow, Int.reduceEq, Int.reduceNe, Int.reduceLT, Int.reduceLE, Int.reduceGT, Int.reduceGE, Int.reduceAdd, Int.reduceSub, Int.reduceNeg, Int.reduceMul, not_true_eq_false, not_false_eq_true, true_and, and_true, Int.reduceToNat]
  intro _
  refine loop_ghost (ghost_tok 3 9 1 rfl) ?_
  refine loop_fr [3, 7, 14, 15, 16, 17, 18, 19, 20, 21, 22, 23, 24, 25, 26, 27, 28, 29, 30, 31, 32, 33, 34, 35] (fun m C hh => ∃ (i : Nat) (r : List Blk), i ≤ L.length ∧ m = L.length - i ∧ C = [(14, .raw (.int .i64 (i : Nat))), (3, .lst 1 (((L.take i).map DEnum.Name).map AV.s) (some 2))] ∧ hh = .cells 22 [.raw (.slice none 0 0)] :: .cells 4 [.b ((L.take i).all fun e => lowF e.Name && decide (0 < e.Ctors.length))] :: .tok 9 1 (L.take i).length :: r) L.length _ ⟨0, [], by omega, by omega, rfl, rfl⟩ (.cons rfl (.cons rfl .nil)) ?_
  rintro m C j hh ⟨i, r, hi, rfl, rfl, rfl⟩
  simp only [go_sem, Nat.reduceAdd, Nat.reduceSub, Nat.reduceMul, Nat.reduceLT, Nat.reduceLeDiff, Nat.reduceEqDiff, Nat.reduceBEq, Nat.reduceBNe, Nat.reducePow, Int.reduceEq, Int.reduceNe, Int.reduceLT, Int.reduceLE, Int.reduceGT, Int.reduceGE, Int.reduceAdd, Int.reduceSub, Int.reduceNeg, Int.reduceMul, not_true_eq_false, not_false_eq_true, true_and, and_true, Int.reduceToNat]
  refine brK_dec (fun hlt => ?_) (fun hge => ?_)
  · simp only [go_sem, Nat.reduceAdd, Nat.reduceSub, Nat.reduceMul, Nat.reduceLT, Nat.reduceLeDiff, Nat.reduceEqDiff, Nat.reduceBEq, Nat.reduceBNe, Nat.reducePow, Int.reduceEq, Int.reduceNe, Int.reduceLT, Int.reduceLE, Int.reduceGT, Int.reduceGE, Int.reduceAdd, Int.reduceSub, Int.reduceNeg, Int.reduceMul, not_true_eq_false, not_false_eq_true, true_and, and_true, Int.reduceToNat]
    refine elemMap (by omega) (by omega) (fun d hd => ?_)
    have hli : (L.take i).length = i := by rw [List.length_take]; omega
    have hli2 : (L.take (i + 1)).length = i + 1 := by rw [List.length_take]; omega
    have hst := take_mapS (f := DEnum.Name) hd
    have hal := all_nextZ (fun e : DEnum => lowF e.Name && decide (0 < e.Ctors.length)) hd
    have hgt : decide ((d.Ctors.length : Int) > 0) = decide (0 < d.Ctors.length) := decide_eq_decide.2 (by omega)
    try simp only [go_sem, Nat.reduceAdd, Nat.reduceSub, Nat.reduceMul, Nat.reduceLT, Nat.reduceLeDiff, Nat.reduceEqDiff, Nat.reduceBEq, Nat.reduceBNe, Nat.reducePow, Int.reduceEq, Int.reduceNe, Int.reduceLT, Int.reduceLE, Int.reduceGT, Int.reduceGE, Int.reduceAdd, Int.reduceSub, Int.reduceNeg, Int.reduceMul, not_true_eq_false, not_false_eq_true, true_and, and_true, Int.reduceToNat]
    refine ⟨by simp; omega, ?_⟩
    generalize hu : ((L.take i).all fun e => lowF e.Name && decide (0 < e.Ctors.length)) = u at hal ⊢
    cases u
    all_goals
      repeat' first
        | (exfalso; omega)
        | simp only [go_sem, Nat.reduceAdd, Nat.reduceSub, Nat.reduceMul, Nat.reduceLT, Nat.reduceLeDiff, Nat.reduceEqDiff, Nat.reduceBEq, Nat.reduceBNe, Nat.reducePow, Int.reduceEq, Int.reduceNe, Int.reduceLT, Int.reduceLE, Int.reduceGT, Int.reduceGE, Int.reduceAdd, Int.reduceSub, Int.reduceNeg, Int.reduceMul, not_true_eq_false, not_false_eq_true, true_and, and_true, Int.reduceToNat]
        | (intro _)
        | refine gK_dec (fun _ => ?_) (fun _ => ?_)
        | refine brK_dec (fun _ => ?_) (fun _ => ?_)
        | (refine PCall.call (low6 d.Name) ?_; generalize hlo : lowF d.Name = q at hal ⊢; cases q)
        | exact loopFr _ (by omega) ⟨i + 1, _, by omega, rfl, rfl, by rw [hli2, hal]; simp only [hli, hgt, Bool.false_and, Bool.true_and]; rfl⟩ (.next rfl (by omega) (.cons (by rw [hst]; simp [slot]) .nil)) rfl
  · simp only [go_sem, Nat.reduceAdd, Nat.reduceSub, Nat.reduceMul, Nat.reduceLT, Nat.reduceLeDiff, Nat.reduceEqDiff, Nat.reduceBEq, Nat.reduceBNe, Nat.reducePow, Int.reduceEq, Int.reduceNe, Int.reduceLT, Int.reduceLE, Int.reduceGT, Int.reduceGE, Int.reduceAdd, Int.reduceSub, Int.reduceNeg, Int.reduceMul, not_true_eq_false, not_false_eq_true, true_and, and_true, Int.reduceToNat]
    rw [List.take_of_length_le (by omega)]
    generalize hu : (L.all fun e => lowF e.Name && decide (0 < e.Ctors.length)) = u
    refine ctors154 L ?_
    simp only [go_sem, Nat.reduceAdd, Nat.reduceSub, Nat.reduceMul, Nat.reduceLT, Nat.reduceLeDiff, Nat.reduceEqDiff, Nat.reduceBEq, Nat.reduceBNe, Nat.reducePow, Int.reduceEq, Int.reduceNe, Int.reduceLT, Int.reduceLE, Int.reduceGT, Int.reduceGE, Int.reduceAdd, Int.reduceSub, Int.reduceNeg, Int.reduceMul, not_true_eq_false, not_false_eq_true, true_and, and_true, Int.reduceToNat]
    intro l
    refine acall_ghost (ghost_cell 0 0 9 1 rfl rfl) ?_
    simp only [go_sem, Nat.reduceAdd, Nat.reduceSub, Nat.reduceMul, Nat.reduceLT, Nat.reduceLeDiff, Nat.reduceEqDiff, Nat.reduceBEq, Nat.reduceBNe, Nat.reducePow, Int.reduceEq, Int.reduceNe, Int.reduceLT, Int.reduceLE, Int.reduceGT, Int.reduceGE, Int.reduceAdd, Int.reduceSub, Int.reduceNeg, Int.reduceMul, not_true_eq_false, not_false_eq_true, true_and, and_true, Int.reduceToNat]
    refine ctors_all3 (fun n => .cells 22 [.lst 1 (((L.flatMap DEnum.Ctors).take n).map AV.s) (some (r.length + 2 + 1 + 1 + 1))]) (fun n => .cells 4 [.b (((L.flatMap DEnum.Ctors).take n).all highF && u)]) (.tok 9 1 L.length) r (fun n => .tok 9 1 ((L.flatMap DEnum.Ctors).take n).length) (by omega) (by omega) rfl rfl rfl (fun n c i' k' r' K hc hK => ?_) (fun r' => ?_)
    · have hfl := flat_len hl.2
      have hle : ((L.flatMap DEnum.Ctors).take n).length ≤ 96 := by rw [List.length_take]; omega
      have hst : (((L.flatMap DEnum.Ctors).take (n + 1)).map AV.s) = (((L.flatMap DEnum.Ctors).take n).map AV.s) ++ [AV.s c] := by
        obtain ⟨hn, rfl⟩ := List.getElem?_eq_some_iff.1 hc
        rw [List.take_succ_eq_append_getElem hn, List.map_append]; rfl
      have hln : ((L.flatMap DEnum.Ctors).take (n + 1)).length = ((L.flatMap DEnum.Ctors).take n).length + 1 := by
        have := congrArg List.length hst
        simpa using this
      have hal : (((L.flatMap DEnum.Ctors).take (n + 1)).all highF && u) = (((L.flatMap DEnum.Ctors).take n).all highF && u && highF c) := by
        rw [all_next highF hc]
        cases ((L.flatMap DEnum.Ctors).take n).all highF <;> cases u <;> cases highF c <;> rfl
      simp only [hst, hln, hal] at hK
      simp only [go_sem, Nat.reduceAdd, Nat.reduceSub, Nat.reduceMul, Nat.reduceLT, Nat.reduceLeDiff, Nat.reduceEqDiff, Nat.reduceBEq, Nat.reduceBNe, Nat.reducePow, Int.reduceEq, Int.reduceNe, Int.reduceLT, Int.reduceLE, Int.reduceGT, Int.reduceGE, Int.reduceAdd, Int.reduceSub, Int.reduceNeg, Int.reduceMul, not_true_eq_false, not_false_eq_true, true_and, and_true, Int.reduceToNat, setPs, roundA]
      refine ⟨by omega, ?_⟩
      generalize (((L.flatMap DEnum.Ctors).take n).all highF && u) = w at hK ⊢
      cases w
      all_goals
        repeat' first
          | simp only [go_sem, Nat.reduceAdd, Nat.reduceSub, Nat.reduceMul, Nat.reduceLT, Nat.reduceLeDiff, Nat.reduceEqDiff, Nat.reduceBEq, Nat.reduceBNe, Nat.reducePow, Int.reduceEq, Int.reduceNe, Int.reduceLT, Int.reduceLE, Int.reduceGT, Int.reduceGE, Int.reduceAdd, Int.reduceSub, Int.reduceNeg, Int.reduceMul, not_true_eq_false, not_false_eq_true, true_and, and_true, Int.reduceToNat, roundB]
          | refine ⟨rfl, ?_⟩
          | (refine PCall.call (high8 c) ?_; generalize highF c = q at hK ⊢; cases q)
          | (have hk := hK [.tok 9 1 1]; (simpa using hk); done)
    · simp only [go_sem, Nat.reduceAdd, Nat.reduceSub, Nat.reduceMul, Nat.reduceLT, Nat.reduceLeDiff, Nat.reduceEqDiff, Nat.reduceBEq, Nat.reduceBNe, Nat.reducePow, Int.reduceEq, Int.reduceNe, Int.reduceLT, Int.reduceLE, Int.reduceGT, Int.reduceGE, Int.reduceAdd, Int.reduceSub, Int.reduceNeg, Int.reduceMul, not_true_eq_false, not_false_eq_true, true_and, and_true, Int.reduceToNat]
      rw [List.take_length]
      generalize hv : (L.flatMap DEnum.Ctors).all highF = v
      have hfin := en_fin hg hu hv
      cases u <;> cases v
      all_goals
        repeat' first
          | simp only [go_sem, Nat.reduceAdd, Nat.reduceSub, Nat.reduceMul, Nat.reduceLT, Nat.reduceLeDiff, Nat.reduceEqDiff, Nat.reduceBEq, Nat.reduceBNe, Nat.reducePow, Int.reduceEq, Int.reduceNe, Int.reduceLT, Int.reduceLE, Int.reduceGT, Int.reduceGE, Int.reduceAdd, Int.reduceSub, Int.reduceNeg, Int.reduceMul, not_true_eq_false, not_false_eq_true, true_and, and_true, Int.reduceToNat]
          | (refine PCall.callW (once12 (L.map DEnum.Name)) ⟨.tok _ _ _, trivial⟩ ?_; generalize onceB (L.map DEnum.Name) = q at hfin ⊢; cases q)
          | (refine PCall.callW (once12 (L.flatMap DEnum.Ctors)) ⟨.tok _ _ _, trivial⟩ ?_; generalize onceB (L.flatMap DEnum.Ctors) = q at hfin ⊢; cases q)
          | (refine finIq rfl ?_; rw [hfin]; simp; done)
end Go.Proofs.YtipcmpkihhfhcaaDoor

namespace Go.Proofs.YtipcmpkihhfhcaaDoor
open Go.Abs
set_option maxRecDepth 20000
set_option linter.unusedSimpArgs false
set_option linter.unusedVariables false
set_option maxHeartbeats 1000000
attribute [local irreducible] vc vcOps vcStep vcGuard prK hrK gK gsK brK callK ElemK SeqK BlockK ScopeK OpsK CallK LoopK LoopGo finPost ACall PCall PCallE BCall vqOps vqStep vqGuard qrK heK pcK gqK gqsK QOpsK qcallK DrawK
abbrev progBd (p : DProg) : Blk := .cells 62 [.lst 2 (p.Enums.map DEnum.enc) none, .lst 5 (p.Nodes.map DNode.enc) none]
theorem n48 : (Tryd.f48.name == "runtime.NumGoroutine") = false := by kernel_rfl
theorem some37 {p : DProg} {q : DNode → Bool} {g : Nat} {first capt : List AV} {h : List Blk} {K : AV → List Blk → Prop} (hp : ∀ x ∈ p.Nodes, ∀ (r : List Blk) (K : AV → List Blk → Prop), K (.b (q x)) (h ++ r) → ACall Tryd.prog g (first ++ DNode.enc x :: capt) (h ++ r) K)
    (hK : K (.b (p.Nodes.any q)) h) : ACall Tryd.prog 48 [p.enc, .fn (.func g) first capt] h K := by
  refine acall_of_vc tabOK Tryd.func48 n48 rfl (n := 9) rfl (rs := [.tmp 4]) rfl ?_
  simp only [go_sem, Nat.reduceAdd, Nat.reduceSub, Nat.reduceMul, Nat.reduceLT, Nat.reduceLeDiff, Nat.reduceEqDiff, Nat.reduceBEq, Nat.reduceBNe, Nat.reducePow, Int.reduceEq, Int.reduceNe, Int.reduceLT, Int.reduceLE, Int.reduceGT, Int.reduceGE, Int.reduceAdd, Int.reduceSub, Int.reduceNeg, Int.reduceMul, not_true_eq_false, not_false_eq_true, true_and, and_true, Int.reduceToNat]
  refine containsNo (p := q) (fun x hx K hK => hp x hx _ K hK) ?_
  simp only [go_sem, Nat.reduceAdd, Nat.reduceSub, Nat.reduceMul, Nat.reduceLT, Nat.reduceLeDiff, Nat.reduceEqDiff, Nat.reduceBEq, Nat.reduceBNe, Nat.reducePow, Int.reduceEq, Int.reduceNe, Int.reduceLT, Int.reduceLE, Int.reduceGT, Int.reduceGE, Int.reduceAdd, Int.reduceSub, Int.reduceNeg, Int.reduceMul, not_true_eq_false, not_false_eq_true, true_and, and_true, Int.reduceToNat]
  exact finH0 _ rfl (.raw _) hK
theorem n50 : (Tryd.f50.name == "runtime.NumGoroutine") = false := by kernel_rfl
theorem check39 (p : DProg) (n : DNode) (hn : okNode n) {k : Nat} {h : List Blk} {K : AV → List Blk → Prop} (hk : h[k]? = some (progBd p)) (hK : K (.b (!(nodeF p.Enums.length n))) h) : ACall Tryd.prog 50 [n.enc, .ptr k 0] h K := by
  have hkl := (List.getElem?_eq_some_iff.1 hk).1
  have hk1 : ∀ r, (h ++ r)[k]? = some (.cells 62 [.lst 2 (p.Enums.map DEnum.enc) none, .lst 5 (p.Nodes.map DNode.enc) none]) := fun r => by rw [List.getElem?_append_left hkl]; exact hk
  refine acall_of_vc tabOK Tryd.func50 n50 rfl (n := 9) rfl (rs := [.tmp 3]) rfl ?_
  simp only [go_sem, Nat.reduceAdd, Nat.reduceSub, Nat.reduceMul, Nat.reduceLT, Nat.reduceLeDiff, Nat.reduceEqDiff, Nat.reduceBEq, Nat.reduceBNe, Nat.reducePow, Int.reduceEq, Int.reduceNe, Int.reduceLT, Int.reduceLE, Int.reduceGT, Int.reduceGE, Int.reduceAdd, Int.reduceSub, Int.reduceNeg, Int.reduceMul, not_true_eq_false, not_false_eq_true, true_and, and_true, Int.reduceToNat, hk1]
  refine PCall.call (rightN p.Enums n hn) ?_
  simp only [go_sem, Nat.reduceAdd, Nat.reduceSub, Nat.reduceMul, Nat.reduceLT, Nat.reduceLeDiff, Nat.reduceEqDiff, Nat.reduceBEq, Nat.reduceBNe, Nat.reducePow, Int.reduceEq, Int.reduceNe, Int.reduceLT, Int.reduceLE, Int.reduceGT, Int.reduceGE, Int.reduceAdd, Int.reduceSub, Int.reduceNeg, Int.reduceMul, not_true_eq_false, not_false_eq_true, true_and, and_true, Int.reduceToNat]
  exact finH0 _ rfl (.raw _) hK
theorem n52 : (Tryd.f52.name == "runtime.NumGoroutine") = false := by kernel_rfl
theorem check41 (n : DNode) (hl : (allV n).length ≤ 60) {h : List Blk} {K : AV → List Blk → Prop} (hK : K (.b (!(onceN n))) h) : ACall Tryd.prog 52 [n.enc] h K := by
  refine acall_of_vc tabOK Tryd.func52 n52 rfl (n := 6) rfl (rs := [.tmp 2]) rfl ?_
  simp only [go_sem, Nat.reduceAdd, Nat.reduceSub, Nat.reduceMul, Nat.reduceLT, Nat.reduceLeDiff, Nat.reduceEqDiff, Nat.reduceBEq, Nat.reduceBNe, Nat.reducePow, Int.reduceEq, Int.reduceNe, Int.reduceLT, Int.reduceLE, Int.reduceGT, Int.reduceGE, Int.reduceAdd, Int.reduceSub, Int.reduceNeg, Int.reduceMul, not_true_eq_false, not_false_eq_true, true_and, and_true, Int.reduceToNat]
  refine PCall.call (onceP n hl) ?_
  simp only [go_sem, Nat.reduceAdd, Nat.reduceSub, Nat.reduceMul, Nat.reduceLT, Nat.reduceLeDiff, Nat.reduceEqDiff, Nat.reduceBEq, Nat.reduceBNe, Nat.reducePow, Int.reduceEq, Int.reduceNe, Int.reduceLT, Int.reduceLE, Int.reduceGT, Int.reduceGE, Int.reduceAdd, Int.reduceSub, Int.reduceNeg, Int.reduceMul, not_true_eq_false, not_false_eq_true, true_and, and_true, Int.reduceToNat]
  exact finH0 _ rfl (.raw _) hK
theorem great_f (n : DNode) {h : List Blk} {K : AV → List Blk → Prop} (hK : K (.b (greatF n)) h) : ACall Tryd.prog 49 [n.enc] h K := by
  refine PCall.call (greatP n) ?_
  exact hK
theorem okN_len {n : DNode} (h : okNode n) : (allV n).length ≤ 60 := by
  have h1 := h.1.1
  have h2 := h.2.1.1
  have h3 := h.2.2.1.1
  simp [allV]
  omega
theorem n35 : (Tryd.f35.name == "runtime.NumGoroutine") = false := by kernel_rfl
theorem checkP (p : DProg) (hp : okProg p) : PCall Tryd.prog 35 [p.enc] (.i (checkF p)) := by
  have hp6 := hp.2.1
  refine pcall_of_vc tabOK Tryd.func35 n35 rfl (by repeat' first | exact pure_nil | refine pure_cons ?_ ?_ | exact .raw _ | exact pure_enc _ | exact pure_lst _ | exact pure_strs _ | exact pure_ints _ | exact DTy.pure _ | exact DTy.pures _ | exact DEnum.pure _ | exact DEnum.pures _ | exact DDecl.pure _ | exact DDecl.pures _ | exact DEq.pure _ | exact DEq.pures _ | exact DNode.pure _ | exact DNode.pures _ | exact DProg.pure _ | exact DProg.pures _ | exact DCond.pure _ | exact DCond.pures _ | exact DAtom.pure _ | exact DAtom.pures _ | exact DPlain.pure _ | exact DPlain.pures _ | exact DVar.pure _ | exact DVar.pures _ | exact DFlow.pure _ | exact DFlow.pures _ | exact DFlows.pure _ | exact DFlows.pures _ | exact DAsked.pure _ | exact DAsked.pures _ | exact DFault.pure _ | exact DFault.pures _ | exact DCell.pure _ | exact DCell.pures _ | exact DReply.pure _ | exact DReply.pures _ | exact DAsk.pure _ | exact DAsk.pures _ | exact DOp.pure _ | exact DOp.pures _ | exact pure_list (fun x => DDecl.pures x) _ | exact .fn _ _ _ pure_nil pure_nil | refine .agg _ ?_ | refine .tup _ ?_ | assumption) (by repeat' first | exact pure_nil | refine pure_cons ?_ ?_ | exact .raw _ | exact pure_enc _ | exact pure_lst _ | exact pure_strs _ | exact pure_ints _ | exact DTy.pure _ | exact DTy.pures _ | exact DEnum.pure _ | exact DEnum.pures _ | exact DDecl.pure _ | exact DDecl.pures _ | exact DEq.pure _ | exact DEq.pures _ | exact DNode.pure _ | exact DNode.pures _ | exact DProg.pure _ | exact DProg.pures _ | exact DCond.pure _ | exact DCond.pures _ | exact DAtom.pure _ | exact DAtom.pures _ | exact DPlain.pure _ | exact DPlain.pures _ | exact DVar.pure _ | exact DVar.pures _ | exact DFlow.pure _ | exact DFlow.pures _ | exact DFlows.pure _ | exact DFlows.pures _ | exact DAsked.pure _ | exact DAsked.pures _ | exact DFault.pure _ | exact DFault.pures _ | exact DCell.pure _ | exact DCell.pures _ | exact DReply.pure _ | exact DReply.pures _ | exact DAsk.pure _ | exact DAsk.pures _ | exact DOp.pure _ | exact DOp.pures _ | exact pure_list (fun x => DDecl.pures x) _ | exact .fn _ _ _ pure_nil pure_nil | refine .agg _ ?_ | refine .tup _ ?_ | assumption) (n := 52) rfl (rs := [.tmp 2]) rfl ?_
  unfold checkF
  simp only [go_sem, Nat.reduceAdd, Nat.reduceSub, Nat.reduceMul, Nat.reduceLT, Nat.reduceLeDiff, Nat.reduceEqDiff, Nat.reduceBEq, Nat.reduceBNe, Nat.reducePow, Int.reduceEq, Int.reduceNe, Int.reduceLT, Int.reduceLE, Int.reduceGT, Int.reduceGE, Int.reduceAdd, Int.reduceSub, Int.reduceNeg, Int.reduceMul, not_true_eq_false, not_false_eq_true, true_and, and_true, Int.reduceToNat]
  refine PCall.call (enumsP p.Enums hp.1) ?_
  generalize enumsF p.Enums = e
  simp only [go_sem, Nat.reduceAdd, Nat.reduceSub, Nat.reduceMul, Nat.reduceLT, Nat.reduceLeDiff, Nat.reduceEqDiff, Nat.reduceBEq, Nat.reduceBNe, Nat.reducePow, Int.reduceEq, Int.reduceNe, Int.reduceLT, Int.reduceLE, Int.reduceGT, Int.reduceGE, Int.reduceAdd, Int.reduceSub, Int.reduceNeg, Int.reduceMul, not_true_eq_false, not_false_eq_true, true_and, and_true, Int.reduceToNat]
  refine brK_dec (fun h0 => ?_) (fun h0 => ?_)
  · simp only [go_sem, Nat.reduceAdd, Nat.reduceSub, Nat.reduceMul, Nat.reduceLT, Nat.reduceLeDiff, Nat.reduceEqDiff, Nat.reduceBEq, Nat.reduceBNe, Nat.reducePow, Int.reduceEq, Int.reduceNe, Int.reduceLT, Int.reduceLE, Int.reduceGT, Int.reduceGE, Int.reduceAdd, Int.reduceSub, Int.reduceNeg, Int.reduceMul, not_true_eq_false, not_false_eq_true, true_and, and_true, Int.reduceToNat]
    exact finIq rfl (by rw [if_pos (by simpa using h0)])
  rw [if_neg (by simpa using h0)]
  simp only [go_sem, Nat.reduceAdd, Nat.reduceSub, Nat.reduceMul, Nat.reduceLT, Nat.reduceLeDiff, Nat.reduceEqDiff, Nat.reduceBEq, Nat.reduceBNe, Nat.reducePow, Int.reduceEq, Int.reduceNe, Int.reduceLT, Int.reduceLE, Int.reduceGT, Int.reduceGE, Int.reduceAdd, Int.reduceSub, Int.reduceNeg, Int.reduceMul, not_true_eq_false, not_false_eq_true, true_and, and_true, Int.reduceToNat]
  intro _
  refine loop_ghost (ghost_tok 4 9 1 rfl) ?_
  refine loop_fr [4, 6, 16, 17, 18, 19, 20, 21, 22, 23, 24, 25] (fun m C hh => ∃ (i : Nat) (r : List Blk), i ≤ p.Nodes.length ∧ m = p.Nodes.length - i ∧ C = [(16, .raw (.int .i64 (i : Nat))), (4, .lst 1 (((p.Nodes.take i).map DNode.Name).map AV.s) (some 1))] ∧ hh = progBd p :: .tok 9 1 (p.Nodes.take i).length :: r) p.Nodes.length _ ⟨0, [], by omega, by omega, rfl, rfl⟩ (.cons rfl (.cons rfl .nil)) ?_
  rintro m C j hh ⟨i, r, hi, rfl, rfl, rfl⟩
  simp only [go_sem, Nat.reduceAdd, Nat.reduceSub, Nat.reduceMul, Nat.reduceLT, Nat.reduceLeDiff, Nat.reduceEqDiff, Nat.reduceBEq, Nat.reduceBNe, Nat.reducePow, Int.reduceEq, Int.reduceNe, Int.reduceLT, Int.reduceLE, Int.reduceGT, Int.reduceGE, Int.reduceAdd, Int.reduceSub, Int.reduceNeg, Int.reduceMul, not_true_eq_false, not_false_eq_true, true_and, and_true, Int.reduceToNat]
  refine brK_dec (fun hlt => ?_) (fun hge => ?_)
  · simp only [go_sem, Nat.reduceAdd, Nat.reduceSub, Nat.reduceMul, Nat.reduceLT, Nat.reduceLeDiff, Nat.reduceEqDiff, Nat.reduceBEq, Nat.reduceBNe, Nat.reducePow, Int.reduceEq, Int.reduceNe, Int.reduceLT, Int.reduceLE, Int.reduceGT, Int.reduceGE, Int.reduceAdd, Int.reduceSub, Int.reduceNeg, Int.reduceMul, not_true_eq_false, not_false_eq_true, true_and, and_true, Int.reduceToNat]
    refine elemMap (by omega) (by omega) (fun d hd => ?_)
    have hli : (p.Nodes.take i).length = i := by rw [List.length_take]; omega
    have hli2 : (p.Nodes.take (i + 1)).length = i + 1 := by rw [List.length_take]; omega
    have hst := take_mapS (f := DNode.Name) hd
    try simp only [go_sem, Nat.reduceAdd, Nat.reduceSub, Nat.reduceMul, Nat.reduceLT, Nat.reduceLeDiff, Nat.reduceEqDiff, Nat.reduceBEq, Nat.reduceBNe, Nat.reducePow, Int.reduceEq, Int.reduceNe, Int.reduceLT, Int.reduceLE, Int.reduceGT, Int.reduceGE, Int.reduceAdd, Int.reduceSub, Int.reduceNeg, Int.reduceMul, not_true_eq_false, not_false_eq_true, true_and, and_true, Int.reduceToNat]
    refine ⟨by simp; omega, ?_⟩
    try simp only [go_sem, Nat.reduceAdd, Nat.reduceSub, Nat.reduceMul, Nat.reduceLT, Nat.reduceLeDiff, Nat.reduceEqDiff, Nat.reduceBEq, Nat.reduceBNe, Nat.reducePow, Int.reduceEq, Int.reduceNe, Int.reduceLT, Int.reduceLE, Int.reduceGT, Int.reduceGE, Int.reduceAdd, Int.reduceSub, Int.reduceNeg, Int.reduceMul, not_true_eq_false, not_false_eq_true, true_and, and_true, Int.reduceToNat]
    exact loopFr _ (by omega) ⟨i + 1, _, by omega, rfl, rfl, by rw [hli2, hli]⟩ (.next rfl (by omega) (.cons (by rw [hst]; simp [slot]) .nil)) rfl
  · rw [List.take_of_length_le (by omega)]
    have hany1 : p.Nodes.all (nodeF p.Enums.length) = !(p.Nodes.any fun n => !(nodeF p.Enums.length n)) := List.all_eq_not_any_not
    have hany2 : p.Nodes.all onceN = !(p.Nodes.any fun n => !(onceN n)) := List.all_eq_not_any_not
    rw [hany1, hany2]
    repeat' first
      | (exfalso; omega)
      | simp only [go_sem, Nat.reduceAdd, Nat.reduceSub, Nat.reduceMul, Nat.reduceLT, Nat.reduceLeDiff, Nat.reduceEqDiff, Nat.reduceBEq, Nat.reduceBNe, Nat.reducePow, Int.reduceEq, Int.reduceNe, Int.reduceLT, Int.reduceLE, Int.reduceGT, Int.reduceGE, Int.reduceAdd, Int.reduceSub, Int.reduceNeg, Int.reduceMul, not_true_eq_false, not_false_eq_true, true_and, and_true, Int.reduceToNat]
      | (intro _)
      | refine brK_dec (fun _ => ?_) (fun _ => ?_)
      | refine gK_dec (fun _ => ?_) (fun _ => ?_)
      | (refine some37 (q := greatF) (fun x hx r K hK => great_f x hK) ?_; generalize p.Nodes.any greatF = b; cases b)
      | (refine some37 (q := fun n => !(nodeF p.Enums.length n)) (fun x hx r K hK => check39 p x (hp.2.2 x hx) (k := 0) rfl hK) ?_; generalize (p.Nodes.any fun n => !(nodeF p.Enums.length n)) = b; cases b)
      | (refine some37 (q := fun n => !(onceN n)) (fun x hx r K hK => check41 x (okN_len (hp.2.2 x hx)) hK) ?_; generalize (p.Nodes.any fun n => !(onceN n)) = b; cases b)
      | (refine PCall.callW (once12 (p.Nodes.map DNode.Name)) ⟨.tok _ _ _, trivial⟩ ?_; generalize onceB (p.Nodes.map DNode.Name) = b; cases b)
      | (refine finIq rfl ?_; rw [if_pos (c := p.Nodes.length = 0) (by omega)]; done)
      | (refine finIq rfl ?_; (try rw [if_pos (c := p.Nodes.length = 0) (by omega)]); (try rw [if_neg (c := p.Nodes.length = 0) (by omega)]); (try rw [decide_eq_true (p := p.Nodes.length > 6) (by omega)]); (try rw [decide_eq_false (p := p.Nodes.length > 6) (by omega)]); simp; done)
end Go.Proofs.YtipcmpkihhfhcaaDoor

namespace Go.Proofs.YtipcmpkihhfhcaaDoor
open Go.Abs
set_option maxRecDepth 20000
set_option linter.unusedSimpArgs false
set_option linter.unusedVariables false
set_option maxHeartbeats 1000000
attribute [local irreducible] vc vcOps vcStep vcGuard prK hrK gK gsK brK callK ElemK SeqK BlockK ScopeK OpsK CallK LoopK LoopGo finPost ACall PCall PCallE BCall vqOps vqStep vqGuard qrK heK pcK gqK gqsK QOpsK qcallK DrawK
theorem any_next {α : Type} {l : List α} {i : Nat} {x : α} (f : α → Bool) (hx : l[i]? = some x) : (l.take (i + 1)).any f = ((l.take i).any f || f x) := by
  obtain ⟨hi, rfl⟩ := List.getElem?_eq_some_iff.1 hx
  rw [List.take_succ_eq_append_getElem hi, List.any_append]
  simp
def nmD (l : List DDecl) (s : ByteArray) : Bool := l.any fun d => decide (d.Name = s)
theorem nmD_next {l : List DDecl} {i : Nat} {x : DDecl} (hx : l[i]? = some x) (s : ByteArray) : nmD (l.take (i + 1)) s = (nmD (l.take i) s || decide (x.Name = s)) := any_next _ hx
def gOpen (l m : List DDecl) (s : ByteArray) : Nat := if nmD l s = true then 1 else if nmD m s = true then 2 else 0
theorem gOpen_end (n : DNode) (s : ByteArray) : gOpen n.Ins (n.Outs ++ n.Vars) s = knF n [] s := by
  unfold gOpen knF inF nmD memB
  simp
theorem open_free {f : Value → Option AV} {W : List DDecl} {i : Nat} {d : DDecl} (hM : MapN f (gOpen [] (W.take i))) (hd : W[i]? = some d) : MapN (mput f (.string d.Name) (.raw (.int .i64 2))) (gOpen [] (W.take (i + 1))) := by
  refine hM.put d.Name 2 _ ?_ (fun s hs => ?_)
  · unfold gOpen; rw [nmD_next hd]; simp [nmD]
  · have : ¬ d.Name = s := fun e => hs e.symm
    unfold gOpen; rw [nmD_next hd]; simp [this]
theorem open_in {f : Value → Option AV} {L W : List DDecl} {i : Nat} {d : DDecl} (hM : MapN f (gOpen (L.take i) W)) (hd : L[i]? = some d) : MapN (mput f (.string d.Name) (.raw (.int .i64 1))) (gOpen (L.take (i + 1)) W) := by
  refine hM.put d.Name 1 _ ?_ (fun s hs => ?_)
  · unfold gOpen; rw [nmD_next hd]; simp
  · have : ¬ d.Name = s := fun e => hs e.symm
    unfold gOpen; rw [nmD_next hd]; simp [this]
theorem snoc3 {α : Type} (h : List α) (a b c : α) : h ++ [a, b, c] = (h ++ [a]) ++ [b, c] := by simp
theorem n36 : (Tryd.f36.name == "runtime.NumGoroutine") = false := by kernel_rfl
theorem open48 {p : DProg} {j : Nat} {n : DNode} (hj : p.Nodes[j]? = some n) (hn : okNode n) {h : List Blk} {K : AV → List Blk → Prop} (hK : ∀ A c f r, A = h ++ [progBd p] → MapN f (knF n []) → K (.ptr (A.length + 1) 0) (HS A p (j : Int) c f r)) : ACall Tryd.prog 36 [p.enc, .i (j : Int)] h K := by
  have hh1 := hn.1.1
  have hh2 := hn.2.1.1
  have hh3 := hn.2.2.1.1
  have hL : [n.Outs, n.Vars].flatten = n.Outs ++ n.Vars := by simp
  have hll : (n.Outs ++ n.Vars).length ≤ 60 := by simp; omega
  refine acallK_of_vc tabOK Tryd.func36 n36 rfl (n := 51) rfl (rs := [.tmp 4]) rfl ?_
  simp only [go_sem, Nat.reduceAdd, Nat.reduceSub, Nat.reduceMul, Nat.reduceLT, Nat.reduceLeDiff, Nat.reduceEqDiff, Nat.reduceBEq, Nat.reduceBNe, Nat.reducePow, Int.reduceEq, Int.reduceNe, Int.reduceLT, Int.reduceLE, Int.reduceGT, Int.reduceGE, Int.reduceAdd, Int.reduceSub, Int.reduceNeg, Int.reduceMul, not_true_eq_false, not_false_eq_true, true_and, and_true, Int.reduceToNat]
  rw [snoc3]
  obtain ⟨A, hA⟩ : ∃ A, A = h ++ [progBd p] := ⟨_, rfl⟩
  rw [← hA]
  have hl1 : h.length + 1 = A.length := by rw [hA]; simp
  have hl2 : h.length + 2 = A.length + 1 := by omega
  rw [hl1, hl2]
  refine node87 hj (fun r1 => ?_)
  simp only [go_sem, Nat.reduceAdd, Nat.reduceSub, Nat.reduceMul, Nat.reduceLT, Nat.reduceLeDiff, Nat.reduceEqDiff, Nat.reduceBEq, Nat.reduceBNe, Nat.reducePow, Int.reduceEq, Int.reduceNe, Int.reduceLT, Int.reduceLE, Int.reduceGT, Int.reduceGE, Int.reduceAdd, Int.reduceSub, Int.reduceNeg, Int.reduceMul, not_true_eq_false, not_false_eq_true, true_and, and_true, Int.reduceToNat]
  simp only [DNode.enc_eq]
  simp only [go_sem, Nat.reduceAdd, Nat.reduceSub, Nat.reduceMul, Nat.reduceLT, Nat.reduceLeDiff, Nat.reduceEqDiff, Nat.reduceBEq, Nat.reduceBNe, Nat.reducePow, Int.reduceEq, Int.reduceNe, Int.reduceLT, Int.reduceLE, Int.reduceGT, Int.reduceGE, Int.reduceAdd, Int.reduceSub, Int.reduceNeg, Int.reduceMul, not_true_eq_false, not_false_eq_true, true_and, and_true, Int.reduceToNat]
  refine node87 hj (fun r2 => ?_)
  simp only [go_sem, Nat.reduceAdd, Nat.reduceSub, Nat.reduceMul, Nat.reduceLT, Nat.reduceLeDiff, Nat.reduceEqDiff, Nat.reduceBEq, Nat.reduceBNe, Nat.reducePow, Int.reduceEq, Int.reduceNe, Int.reduceLT, Int.reduceLE, Int.reduceGT, Int.reduceGE, Int.reduceAdd, Int.reduceSub, Int.reduceNeg, Int.reduceMul, not_true_eq_false, not_false_eq_true, true_and, and_true, Int.reduceToNat]
  simp only [DNode.enc_eq]
  simp only [go_sem, Nat.reduceAdd, Nat.reduceSub, Nat.reduceMul, Nat.reduceLT, Nat.reduceLeDiff, Nat.reduceEqDiff, Nat.reduceBEq, Nat.reduceBNe, Nat.reducePow, Int.reduceEq, Int.reduceNe, Int.reduceLT, Int.reduceLE, Int.reduceGT, Int.reduceGE, Int.reduceAdd, Int.reduceSub, Int.reduceNeg, Int.reduceMul, not_true_eq_false, not_false_eq_true, true_and, and_true, Int.reduceToNat]
  refine PCall.callW (concatD [n.Outs, n.Vars] (by show ([n.Outs, n.Vars].flatten).length ≤ _; rw [hL]; omega)) ⟨.tok _ _ _, trivial⟩ ?_
  rw [hL]
  generalize hW : n.Outs ++ n.Vars = W at hll
  simp only [go_sem, Nat.reduceAdd, Nat.reduceSub, Nat.reduceMul, Nat.reduceLT, Nat.reduceLeDiff, Nat.reduceEqDiff, Nat.reduceBEq, Nat.reduceBNe, Nat.reducePow, Int.reduceEq, Int.reduceNe, Int.reduceLT, Int.reduceLE, Int.reduceGT, Int.reduceGE, Int.reduceAdd, Int.reduceSub, Int.reduceNeg, Int.reduceMul, not_true_eq_false, not_false_eq_true, true_and, and_true, Int.reduceToNat]
  intro _
  refine loop_fr [7, 24, 25, 26, 27, 28, 29, 30, 31, 32, 33, 34] (fun m C hh => ∃ (i c' : Nat) (f' : Value → Option AV) (r' : List Blk), i ≤ W.length ∧ m = W.length - i ∧ MapN f' (gOpen [] (W.take i)) ∧ C = [(24, .raw (.int .i64 (i : Nat)))] ∧ hh = HS A p (j : Int) c' f' r') W.length _ ⟨0, 0, _, _, by omega, by omega, MapN.nil.cast (fun s => by simp [gOpen, nmD]), rfl, rfl⟩ (.cons rfl .nil) ?_
  rintro m C jb hh ⟨i, c', f', r', hi, rfl, hM, rfl, rfl⟩
  simp only [go_sem, Nat.reduceAdd, Nat.reduceSub, Nat.reduceMul, Nat.reduceLT, Nat.reduceLeDiff, Nat.reduceEqDiff, Nat.reduceBEq, Nat.reduceBNe, Nat.reducePow, Int.reduceEq, Int.reduceNe, Int.reduceLT, Int.reduceLE, Int.reduceGT, Int.reduceGE, Int.reduceAdd, Int.reduceSub, Int.reduceNeg, Int.reduceMul, not_true_eq_false, not_false_eq_true, true_and, and_true, Int.reduceToNat]
  refine brK_dec (fun hlt => ?_) (fun hge => ?_)
  · simp only [go_sem, Nat.reduceAdd, Nat.reduceSub, Nat.reduceMul, Nat.reduceLT, Nat.reduceLeDiff, Nat.reduceEqDiff, Nat.reduceBEq, Nat.reduceBNe, Nat.reducePow, Int.reduceEq, Int.reduceNe, Int.reduceLT, Int.reduceLE, Int.reduceGT, Int.reduceGE, Int.reduceAdd, Int.reduceSub, Int.reduceNeg, Int.reduceMul, not_true_eq_false, not_false_eq_true, true_and, and_true, Int.reduceToNat]
    refine elemMap (by omega) (by omega) (fun d hd => ?_)
    have hM2 := open_free hM (by simpa using hd)
    simp only [go_sem, Nat.reduceAdd, Nat.reduceSub, Nat.reduceMul, Nat.reduceLT, Nat.reduceLeDiff, Nat.reduceEqDiff, Nat.reduceBEq, Nat.reduceBNe, Nat.reducePow, Int.reduceEq, Int.reduceNe, Int.reduceLT, Int.reduceLE, Int.reduceGT, Int.reduceGE, Int.reduceAdd, Int.reduceSub, Int.reduceNeg, Int.reduceMul, not_true_eq_false, not_false_eq_true, true_and, and_true, Int.reduceToNat]
    refine drawZ mo (by kernel_rfl) rfl ?_
    simp only [List.dropLast_cons_cons, List.dropLast_singleton, List.getLast_cons_cons, List.getLast_singleton]
    simp only [go_sem, Nat.reduceAdd, Nat.reduceSub, Nat.reduceMul, Nat.reduceLT, Nat.reduceLeDiff, Nat.reduceEqDiff, Nat.reduceBEq, Nat.reduceBNe, Nat.reducePow, Int.reduceEq, Int.reduceNe, Int.reduceLT, Int.reduceLE, Int.reduceGT, Int.reduceGE, Int.reduceAdd, Int.reduceSub, Int.reduceNeg, Int.reduceMul, not_true_eq_false, not_false_eq_true, true_and, and_true, Int.reduceToNat]
    exact loopFr _ (by omega) ⟨i + 1, _, _, _, by omega, rfl, hM2, rfl, rfl⟩ (.next rfl (by omega) .nil) rfl
  · rw [List.take_of_length_le (by omega)] at hM
    simp only [go_sem, Nat.reduceAdd, Nat.reduceSub, Nat.reduceMul, Nat.reduceLT, Nat.reduceLeDiff, Nat.reduceEqDiff, Nat.reduceBEq, Nat.reduceBNe, Nat.reducePow, Int.reduceEq, Int.reduceNe, Int.reduceLT, Int.reduceLE, Int.reduceGT, Int.reduceGE, Int.reduceAdd, Int.reduceSub, Int.reduceNeg, Int.reduceMul, not_true_eq_false, not_false_eq_true, true_and, and_true, Int.reduceToNat]
    refine node87 hj (fun r3 => ?_)
    simp only [go_sem, Nat.reduceAdd, Nat.reduceSub, Nat.reduceMul, Nat.reduceLT, Nat.reduceLeDiff, Nat.reduceEqDiff, Nat.reduceBEq, Nat.reduceBNe, Nat.reducePow, Int.reduceEq, Int.reduceNe, Int.reduceLT, Int.reduceLE, Int.reduceGT, Int.reduceGE, Int.reduceAdd, Int.reduceSub, Int.reduceNeg, Int.reduceMul, not_true_eq_false, not_false_eq_true, true_and, and_true, Int.reduceToNat]
    simp only [DNode.enc_eq]
    simp only [go_sem, Nat.reduceAdd, Nat.reduceSub, Nat.reduceMul, Nat.reduceLT, Nat.reduceLeDiff, Nat.reduceEqDiff, Nat.reduceBEq, Nat.reduceBNe, Nat.reducePow, Int.reduceEq, Int.reduceNe, Int.reduceLT, Int.reduceLE, Int.reduceGT, Int.reduceGE, Int.reduceAdd, Int.reduceSub, Int.reduceNeg, Int.reduceMul, not_true_eq_false, not_false_eq_true, true_and, and_true, Int.reduceToNat]
    intro _
    refine loop_fr [9, 39, 40, 41, 42, 43, 44, 45, 46, 47, 48, 49] (fun m C hh => ∃ (i c' : Nat) (f' : Value → Option AV) (r' : List Blk), i ≤ n.Ins.length ∧ m = n.Ins.length - i ∧ MapN f' (gOpen (n.Ins.take i) W) ∧ C = [(39, .raw (.int .i64 (i : Nat)))] ∧ hh = HS A p (j : Int) c' f' r') n.Ins.length _ ⟨0, _, _, _, by omega, by omega, hM, rfl, rfl⟩ (.cons rfl .nil) ?_
    rintro m C jd hh ⟨i2, c2, f2, r4, hi2, rfl, hM2, rfl, rfl⟩
    simp only [go_sem, Nat.reduceAdd, Nat.reduceSub, Nat.reduceMul, Nat.reduceLT, Nat.reduceLeDiff, Nat.reduceEqDiff, Nat.reduceBEq, Nat.reduceBNe, Nat.reducePow, Int.reduceEq, Int.reduceNe, Int.reduceLT, Int.reduceLE, Int.reduceGT, Int.reduceGE, Int.reduceAdd, Int.reduceSub, Int.reduceNeg, Int.reduceMul, not_true_eq_false, not_false_eq_true, true_and, and_true, Int.reduceToNat]
    refine brK_dec (fun hlt2 => ?_) (fun hge2 => ?_)
    · simp only [go_sem, Nat.reduceAdd, Nat.reduceSub, Nat.reduceMul, Nat.reduceLT, Nat.reduceLeDiff, Nat.reduceEqDiff, Nat.reduceBEq, Nat.reduceBNe, Nat.reducePow, Int.reduceEq, Int.reduceNe, Int.reduceLT, Int.reduceLE, Int.reduceGT, Int.reduceGE, Int.reduceAdd, Int.reduceSub, Int.reduceNeg, Int.reduceMul, not_true_eq_false, not_false_eq_true, true_and, and_true, Int.reduceToNat]
      refine elemMap (by omega) (by omega) (fun d hd => ?_)
      have hM3 := open_in hM2 (by simpa using hd)
      simp only [go_sem, Nat.reduceAdd, Nat.reduceSub, Nat.reduceMul, Nat.reduceLT, Nat.reduceLeDiff, Nat.reduceEqDiff, Nat.reduceBEq, Nat.reduceBNe, Nat.reducePow, Int.reduceEq, Int.reduceNe, Int.reduceLT, Int.reduceLE, Int.reduceGT, Int.reduceGE, Int.reduceAdd, Int.reduceSub, Int.reduceNeg, Int.reduceMul, not_true_eq_false, not_false_eq_true, true_and, and_true, Int.reduceToNat]
      refine drawZ mo (by kernel_rfl) rfl ?_
      simp only [List.dropLast_cons_cons, List.dropLast_singleton, List.getLast_cons_cons, List.getLast_singleton]
      simp only [go_sem, Nat.reduceAdd, Nat.reduceSub, Nat.reduceMul, Nat.reduceLT, Nat.reduceLeDiff, Nat.reduceEqDiff, Nat.reduceBEq, Nat.reduceBNe, Nat.reducePow, Int.reduceEq, Int.reduceNe, Int.reduceLT, Int.reduceLE, Int.reduceGT, Int.reduceGE, Int.reduceAdd, Int.reduceSub, Int.reduceNeg, Int.reduceMul, not_true_eq_false, not_false_eq_true, true_and, and_true, Int.reduceToNat]
      exact loopFr _ (by omega) ⟨i2 + 1, _, _, _, by omega, rfl, hM3, rfl, rfl⟩ (.next rfl (by omega) .nil) rfl
    · rw [List.take_of_length_le (by omega)] at hM2
      simp only [go_sem, Nat.reduceAdd, Nat.reduceSub, Nat.reduceMul, Nat.reduceLT, Nat.reduceLeDiff, Nat.reduceEqDiff, Nat.reduceBEq, Nat.reduceBNe, Nat.reducePow, Int.reduceEq, Int.reduceNe, Int.reduceLT, Int.reduceLE, Int.reduceGT, Int.reduceGE, Int.reduceAdd, Int.reduceSub, Int.reduceNeg, Int.reduceMul, not_true_eq_false, not_false_eq_true, true_and, and_true, Int.reduceToNat]
      exact finK (r := .ptr (A.length + 1) 0) rfl (hK A c2 f2 r4 hA (hM2.cast (fun s => by rw [← hW]; exact gOpen_end n s)))
theorem n25 : (Tryd.f25.name == "runtime.NumGoroutine") = false := by kernel_rfl
theorem scopeCheck (p : DProg) (hp : okProg p) : PCall Tryd.prog 25 [p.enc] (scopeF p).enc := by
  refine pcall_of_vc tabOK Tryd.func25 n25 rfl (by repeat' first | exact pure_nil | refine pure_cons ?_ ?_ | exact .raw _ | exact pure_enc _ | exact pure_lst _ | exact pure_strs _ | exact pure_ints _ | exact DTy.pure _ | exact DTy.pures _ | exact DEnum.pure _ | exact DEnum.pures _ | exact DDecl.pure _ | exact DDecl.pures _ | exact DEq.pure _ | exact DEq.pures _ | exact DNode.pure _ | exact DNode.pures _ | exact DProg.pure _ | exact DProg.pures _ | exact DCond.pure _ | exact DCond.pures _ | exact DAtom.pure _ | exact DAtom.pures _ | exact DPlain.pure _ | exact DPlain.pures _ | exact DVar.pure _ | exact DVar.pures _ | exact DFlow.pure _ | exact DFlow.pures _ | exact DFlows.pure _ | exact DFlows.pures _ | exact DAsked.pure _ | exact DAsked.pures _ | exact DFault.pure _ | exact DFault.pures _ | exact DCell.pure _ | exact DCell.pures _ | exact DReply.pure _ | exact DReply.pures _ | exact DAsk.pure _ | exact DAsk.pures _ | exact DOp.pure _ | exact DOp.pures _ | exact pure_list (fun x => DDecl.pures x) _ | exact .fn _ _ _ pure_nil pure_nil | refine .agg _ ?_ | refine .tup _ ?_ | assumption) (by repeat' first | exact pure_nil | refine pure_cons ?_ ?_ | exact .raw _ | exact pure_enc _ | exact pure_lst _ | exact pure_strs _ | exact pure_ints _ | exact DTy.pure _ | exact DTy.pures _ | exact DEnum.pure _ | exact DEnum.pures _ | exact DDecl.pure _ | exact DDecl.pures _ | exact DEq.pure _ | exact DEq.pures _ | exact DNode.pure _ | exact DNode.pures _ | exact DProg.pure _ | exact DProg.pures _ | exact DCond.pure _ | exact DCond.pures _ | exact DAtom.pure _ | exact DAtom.pures _ | exact DPlain.pure _ | exact DPlain.pures _ | exact DVar.pure _ | exact DVar.pures _ | exact DFlow.pure _ | exact DFlow.pures _ | exact DFlows.pure _ | exact DFlows.pures _ | exact DAsked.pure _ | exact DAsked.pures _ | exact DFault.pure _ | exact DFault.pures _ | exact DCell.pure _ | exact DCell.pures _ | exact DReply.pure _ | exact DReply.pures _ | exact DAsk.pure _ | exact DAsk.pures _ | exact DOp.pure _ | exact DOp.pures _ | exact pure_list (fun x => DDecl.pures x) _ | exact .fn _ _ _ pure_nil pure_nil | refine .agg _ ?_ | refine .tup _ ?_ | assumption) (n := 28) rfl (rs := [.cell 2 58]) rfl ?_
  have hp6 := hp.2.1
  unfold scopeF
  simp only [go_sem, Nat.reduceAdd, Nat.reduceSub, Nat.reduceMul, Nat.reduceLT, Nat.reduceLeDiff, Nat.reduceEqDiff, Nat.reduceBEq, Nat.reduceBNe, Nat.reducePow, Int.reduceEq, Int.reduceNe, Int.reduceLT, Int.reduceLE, Int.reduceGT, Int.reduceGE, Int.reduceAdd, Int.reduceSub, Int.reduceNeg, Int.reduceMul, not_true_eq_false, not_false_eq_true, true_and, and_true, Int.reduceToNat]
  refine PCall.call (checkP p hp) ?_
  generalize checkF p = e
  simp only [go_sem, Nat.reduceAdd, Nat.reduceSub, Nat.reduceMul, Nat.reduceLT, Nat.reduceLeDiff, Nat.reduceEqDiff, Nat.reduceBEq, Nat.reduceBNe, Nat.reducePow, Int.reduceEq, Int.reduceNe, Int.reduceLT, Int.reduceLE, Int.reduceGT, Int.reduceGE, Int.reduceAdd, Int.reduceSub, Int.reduceNeg, Int.reduceMul, not_true_eq_false, not_false_eq_true, true_and, and_true, Int.reduceToNat]
  refine brK_dec (fun h0 => ?_) (fun h0 => ?_)
  · rw [if_neg h0, DFault.enc_eq]
    simp only [go_sem, Nat.reduceAdd, Nat.reduceSub, Nat.reduceMul, Nat.reduceLT, Nat.reduceLeDiff, Nat.reduceEqDiff, Nat.reduceBEq, Nat.reduceBNe, Nat.reducePow, Int.reduceEq, Int.reduceNe, Int.reduceLT, Int.reduceLE, Int.reduceGT, Int.reduceGE, Int.reduceAdd, Int.reduceSub, Int.reduceNeg, Int.reduceMul, not_true_eq_false, not_false_eq_true, true_and, and_true, Int.reduceToNat]
    exact ⟨_, rfl, false, .refl _⟩
  rw [if_pos (by simpa using h0)]
  simp only [go_sem, Nat.reduceAdd, Nat.reduceSub, Nat.reduceMul, Nat.reduceLT, Nat.reduceLeDiff, Nat.reduceEqDiff, Nat.reduceBEq, Nat.reduceBNe, Nat.reducePow, Int.reduceEq, Int.reduceNe, Int.reduceLT, Int.reduceLE, Int.reduceGT, Int.reduceGE, Int.reduceAdd, Int.reduceSub, Int.reduceNeg, Int.reduceMul, not_true_eq_false, not_false_eq_true, true_and, and_true, Int.reduceToNat]
  intro _
  generalize hE : nodesFault p 0 p.Nodes = E
  refine loop_frX [4, 5, 15, 16, 17, 18, 19, 20, 21, 22, 23, 24, 25, 26] (fun m C => ∃ i : Nat, i ≤ p.Nodes.length ∧ m = p.Nodes.length - i ∧ nodesFault p i (p.Nodes.drop i) = E ∧ C = [(15, .raw (.int .i64 (i : Nat)))]) p.Nodes.length _ ⟨0, by omega, by omega, hE, rfl⟩ (.cons rfl .nil) ?_
  rintro m C ja r ⟨i, hi, rfl, hE', rfl⟩
  simp only [go_sem, Nat.reduceAdd, Nat.reduceSub, Nat.reduceMul, Nat.reduceLT, Nat.reduceLeDiff, Nat.reduceEqDiff, Nat.reduceBEq, Nat.reduceBNe, Nat.reducePow, Int.reduceEq, Int.reduceNe, Int.reduceLT, Int.reduceLE, Int.reduceGT, Int.reduceGE, Int.reduceAdd, Int.reduceSub, Int.reduceNeg, Int.reduceMul, not_true_eq_false, not_false_eq_true, true_and, and_true, Int.reduceToNat]
  refine brK_dec (fun hlt => ?_) (fun hge => ?_)
  · obtain ⟨n, hj⟩ : ∃ n, p.Nodes[i]? = some n := ⟨_, List.getElem?_eq_getElem (by omega)⟩
    have hn := hp.2.2 n (List.mem_of_getElem? hj)
    simp only [go_sem, Nat.reduceAdd, Nat.reduceSub, Nat.reduceMul, Nat.reduceLT, Nat.reduceLeDiff, Nat.reduceEqDiff, Nat.reduceBEq, Nat.reduceBNe, Nat.reducePow, Int.reduceEq, Int.reduceNe, Int.reduceLT, Int.reduceLE, Int.reduceGT, Int.reduceGE, Int.reduceAdd, Int.reduceSub, Int.reduceNeg, Int.reduceMul, not_true_eq_false, not_false_eq_true, true_and, and_true, Int.reduceToNat]
    refine open48 hj hn (fun A c f r1 hA hM => ?_)
    simp only [go_sem, Nat.reduceAdd, Nat.reduceSub, Nat.reduceMul, Nat.reduceLT, Nat.reduceLeDiff, Nat.reduceEqDiff, Nat.reduceBEq, Nat.reduceBNe, Nat.reducePow, Int.reduceEq, Int.reduceNe, Int.reduceLT, Int.reduceLE, Int.reduceGT, Int.reduceGE, Int.reduceAdd, Int.reduceSub, Int.reduceNeg, Int.reduceMul, not_true_eq_false, not_false_eq_true, true_and, and_true, Int.reduceToNat]
    refine check49 hj hn hM (fun c' f' r2 => ?_)
    subst hA
    by_cases hF : (nodeFault p (i : Int) n).Err = 0
    · have hE1 := nodes_next hE' (by simpa using hj) hF
      have hz := nodeFault_zero hF
      rw [hz, DFault.enc_eq]
      simp only [go_sem, Nat.reduceAdd, Nat.reduceSub, Nat.reduceMul, Nat.reduceLT, Nat.reduceLeDiff, Nat.reduceEqDiff, Nat.reduceBEq, Nat.reduceBNe, Nat.reducePow, Int.reduceEq, Int.reduceNe, Int.reduceLT, Int.reduceLE, Int.reduceGT, Int.reduceGE, Int.reduceAdd, Int.reduceSub, Int.reduceNeg, Int.reduceMul, not_true_eq_false, not_false_eq_true, true_and, and_true, Int.reduceToNat]
      exact loopFrX _ (by omega) _ ⟨i + 1, by omega, rfl, hE1, rfl⟩ (.next rfl (by omega) .nil) rfl (by first | rfl | (simp only [List.append_assoc, List.cons_append, List.nil_append]; rfl))
    · have hE1 := nodes_at hE' (by simpa using hj) hF
      rw [hE1]
      generalize nodeFault p (i : Int) n = F at hF
      rw [DFault.enc_eq]
      simp only [go_sem, Nat.reduceAdd, Nat.reduceSub, Nat.reduceMul, Nat.reduceLT, Nat.reduceLeDiff, Nat.reduceEqDiff, Nat.reduceBEq, Nat.reduceBNe, Nat.reducePow, Int.reduceEq, Int.reduceNe, Int.reduceLT, Int.reduceLE, Int.reduceGT, Int.reduceGE, Int.reduceAdd, Int.reduceSub, Int.reduceNeg, Int.reduceMul, not_true_eq_false, not_false_eq_true, true_and, and_true, Int.reduceToNat]
      refine brK_dec (fun _ => ?_) (fun hq => absurd hF hq)
      simp only [go_sem, Nat.reduceAdd, Nat.reduceSub, Nat.reduceMul, Nat.reduceLT, Nat.reduceLeDiff, Nat.reduceEqDiff, Nat.reduceBEq, Nat.reduceBNe, Nat.reducePow, Int.reduceEq, Int.reduceNe, Int.reduceLT, Int.reduceLE, Int.reduceGT, Int.reduceGE, Int.reduceAdd, Int.reduceSub, Int.reduceNeg, Int.reduceMul, not_true_eq_false, not_false_eq_true, true_and, and_true, Int.reduceToNat]
      exact ⟨_, rfl, false, by rw [DFault.enc_eq]; exact .refl _⟩
  · have h0 := nodes_0 hE' (by omega)
    subst h0
    rw [DFault.enc_eq]
    simp only [go_sem, Nat.reduceAdd, Nat.reduceSub, Nat.reduceMul, Nat.reduceLT, Nat.reduceLeDiff, Nat.reduceEqDiff, Nat.reduceBEq, Nat.reduceBNe, Nat.reducePow, Int.reduceEq, Int.reduceNe, Int.reduceLT, Int.reduceLE, Int.reduceGT, Int.reduceGE, Int.reduceAdd, Int.reduceSub, Int.reduceNeg, Int.reduceMul, not_true_eq_false, not_false_eq_true, true_and, and_true, Int.reduceToNat]
    exact ⟨_, rfl, false, .refl _⟩
end Go.Proofs.YtipcmpkihhfhcaaDoor

namespace Go.Proofs.YtipcmpkihhfhcaaDoor
open Go.Abs
set_option maxRecDepth 20000
set_option linter.unusedSimpArgs false
set_option linter.unusedVariables false
set_option maxHeartbeats 1000000
attribute [local irreducible] vc vcOps vcStep vcGuard prK hrK gK gsK brK callK ElemK SeqK BlockK ScopeK OpsK CallK LoopK LoopGo finPost ACall PCall PCallE BCall vqOps vqStep vqGuard qrK heK pcK gqK gqsK QOpsK qcallK DrawK
theorem pure_ii (a b : Int) : Go.Abs.Pure (.tup [.i a, .i b]) := .tup _ (pure_cons (.raw _) (pure_cons (.raw _) pure_nil))
theorem finII {T : TypeId → TI} {rs : List ResultVar} {s : List AV} {h : List Blk} {p : Int × Int} {a b : Int} (hr : resAV T s h rs = some [.i a, .i b]) (hp : p = (a, b)) : Go.Abs.Fin T rs (.tup [.i p.1, .i p.2]) s h := by
  subst hp
  exact ⟨_, hr, false, .refl _⟩
end Go.Proofs.YtipcmpkihhfhcaaDoor

namespace Go.Proofs.YtipcmpkihhfhcaaDoor
open Go.Abs
set_option maxRecDepth 20000
set_option linter.unusedSimpArgs false
set_option linter.unusedVariables false
set_option maxHeartbeats 1000000
attribute [local irreducible] vc vcOps vcStep vcGuard prK hrK gK gsK brK callK ElemK SeqK BlockK ScopeK OpsK CallK LoopK LoopGo finPost ACall PCall PCallE BCall vqOps vqStep vqGuard qrK heK pcK gqK gqsK QOpsK qcallK DrawK
theorem allVn {n : DNode} (h : okNode n) : (allV n).length ≤ 60 := by
  have h1 := h.1.1
  have h2 := h.2.1.1
  have h3 := h.2.2.1.1
  simp [allV]
  omega
theorem allVm {n : DNode} (h : okNode n) {d : DDecl} (hd : d ∈ allV n) : d.Name.size ≤ 100 ∧ d.On.size ≤ 100 ∧ d.Ctor.size ≤ 100 := by
  simp [allV] at hd
  rcases hd with hd | hd | hd
  · exact h.1.2 d hd
  · exact h.2.1.2 d hd
  · exact h.2.2.1.2 d hd
theorem map_app (l m : List ByteArray) : l.map AV.s ++ m.map AV.s = (l ++ m).map AV.s := by simp
def okAB (i : Nat) (a b : List ByteArray) : Prop := a.length ≤ i ∧ b.length ≤ 12 * i ∧ ∀ s ∈ b, s.size ≤ 100
theorem okAB.zero : okAB 0 [] [] := ⟨by simp, by simp, by simp⟩
theorem okAB.next {l : List DEnum} {i : Nat} {a b : List ByteArray} {x : DEnum} (h : okAB i a b) (hl : okEnums l) (hx : l[((i : Nat) : Int).toNat]? = some x) : okAB (i + 1) (a ++ [x.Name]) (b ++ x.Ctors) := by
  have hm := hl.2 x (List.mem_of_getElem? hx)
  have h1 := hm.1
  refine ⟨by have := h.1; simp; omega, by have := h.2.1; simp; omega, fun s hs => ?_⟩
  rcases List.mem_append.1 hs with q | q
  · exact h.2.2 s q
  · exact hm.2.2 s q

theorem nm_next {l : List DDecl} {i : Nat} {a : List ByteArray} {x : DDecl} (h : a = (l.take i).map DDecl.Name ∧ a.length ≤ i) (hx : l[((i : Nat) : Int).toNat]? = some x) : a ++ [x.Name] = (l.take (i + 1)).map DDecl.Name ∧ (a ++ [x.Name]).length ≤ i + 1 :=
  ⟨by rw [take_mapS hx, h.1], by have := h.2; simp; omega⟩
abbrev progBc (p : DProg) : Blk := .cells 62 [.lst 2 (p.Enums.map DEnum.enc) none, .lst 5 (p.Nodes.map DNode.enc) none]
def okAX (l : List DEnum) (i : Nat) (a b : List ByteArray) : Prop := okAB i a b ∧ a = (l.take i).map DEnum.Name ∧ b = (l.take i).flatMap DEnum.Ctors ∧ ∀ e ∈ l.take i, e.Ctors.length ≤ 6
theorem okAX.zero {l : List DEnum} : okAX l 0 [] [] := ⟨.zero, by simp, by simp, by simp⟩
theorem okAX.next {l : List DEnum} {i : Nat} {a b : List ByteArray} {x : DEnum} (h : okAX l i a b) (hl : okEnums l) (hx : l[((i : Nat) : Int).toNat]? = some x) (h6 : x.Ctors.length ≤ 6) : okAX l (i + 1) (a ++ [x.Name]) (b ++ x.Ctors) :=
  ⟨h.1.next hl hx, by rw [take_mapS hx, h.2.1], by rw [flatMap_next _ (by simpa using hx), h.2.2.1], take_all h.2.2.2 (by simpa using hx) h6⟩
theorem en_ok {e : DEnum} (h : lowF e.Name = true) (h2 : 0 < e.Ctors.length) : (lowF e.Name && decide (0 < e.Ctors.length)) = true := by simp [h, h2]
theorem en_bad {e : DEnum} {b : Bool} (h : lowF e.Name = b) (h2 : ¬ 0 < e.Ctors.length) : (lowF e.Name && decide (0 < e.Ctors.length)) = false := by rw [decide_eq_false h2, Bool.and_false]
theorem en_bad0 {e : DEnum} (h : lowF e.Name = false) : (lowF e.Name && decide (0 < e.Ctors.length)) = false := by rw [h, Bool.false_and]
end Go.Proofs.YtipcmpkihhfhcaaDoor

namespace Go.Proofs.YtipcmpkihhfhcaaDoor
open Go.Abs
set_option maxRecDepth 20000
set_option linter.unusedSimpArgs false
set_option linter.unusedVariables false
set_option maxHeartbeats 1000000
attribute [local irreducible] vc vcOps vcStep vcGuard prK hrK gK gsK brK callK ElemK SeqK BlockK ScopeK OpsK CallK LoopK LoopGo finPost ACall PCall PCallE BCall vqOps vqStep vqGuard qrK heK pcK gqK gqsK QOpsK qcallK DrawK
theorem okN_lenX {n : DNode} (h : okNode n) : (allV n).length ≤ 60 := by
  have h1 := h.1.1
  have h2 := h.2.1.1
  have h3 := h.2.2.1.1
  simp [allV]
  omega
def chkX (p : DProg) (i : Nat) (a : List ByteArray) (u v : Bool) : Prop := a = (p.Nodes.take i).map DNode.Name ∧ u = (p.Nodes.take i).all (nodeF p.Enums.length) ∧ v = (p.Nodes.take i).all onceN ∧ ∀ n ∈ p.Nodes.take i, greatF n = false
theorem chkX.zero {p : DProg} : chkX p 0 [] true true := ⟨by simp, by simp, by simp, by simp⟩
theorem chkX.next {p : DProg} {i : Nat} {a : List ByteArray} {u v u' v' : Bool} {n : DNode} (h : chkX p i a u v) (hx : p.Nodes[((i : Nat) : Int).toNat]? = some n) (hg : greatF n = false) (hu : u' = (u && nodeF p.Enums.length n)) (hv : v' = (v && onceN n)) : chkX p (i + 1) (a ++ [n.Name]) u' v' :=
  ⟨by rw [take_mapS hx, h.1], by rw [hu, all_nextZ _ hx, h.2.1], by rw [hv, all_nextZ _ hx, h.2.2.1], take_all h.2.2.2 (by simpa using hx) hg⟩
theorem chk_some {p : DProg} {i : Nat} {n : DNode} (hx : p.Nodes[((i : Nat) : Int).toNat]? = some n) (hg : greatF n = true) : p.Nodes.any greatF = true := List.any_eq_true.2 ⟨n, List.mem_of_getElem? hx, hg⟩
theorem chk_none {p : DProg} {i : Nat} {a : List ByteArray} {u v : Bool} (h : chkX p i a u v) (hi : p.Nodes.length ≤ i) : p.Nodes.any greatF = false ∧ p.Nodes.all (nodeF p.Enums.length) = u ∧ p.Nodes.all onceN = v ∧ p.Nodes.map DNode.Name = a := by
  obtain ⟨h1, h2, h3, h4⟩ := h
  have e : p.Nodes.take i = p.Nodes := List.take_of_length_le hi
  rw [e] at h1 h2 h3 h4
  refine ⟨?_, h2.symm, h3.symm, h1.symm⟩
  rw [List.any_eq_false]
  intro n hn
  rw [h4 n hn]; simp
theorem great_no {n : DNode} (h1 : ¬ ((n.Ins.length : Int) > 6)) (h2 : ¬ ((n.Outs.length : Int) > 6)) (h3 : ¬ ((n.Vars.length : Int) > 12)) (h4 : ¬ ((n.Eqs.length : Int) > 18)) : greatF n = false := by
  unfold greatF
  rw [decide_eq_false (by omega), decide_eq_false (by omega), decide_eq_false (by omega), decide_eq_false (by omega)]
  rfl
theorem great_yes {n : DNode} (h : (n.Ins.length : Int) > 6 ∨ (n.Outs.length : Int) > 6 ∨ (n.Vars.length : Int) > 12 ∨ (n.Eqs.length : Int) > 18) : greatF n = true := by
  unfold greatF
  simp only [Bool.or_eq_true, decide_eq_true_eq]
  omega
noncomputable def checkG (p : DProg) (en : Int) : Int :=
  if ¬ en = 0 then en
  else if p.Nodes.length = 0 then 5
  else if (decide (p.Nodes.length > 6) || p.Nodes.any greatF) = true then 4
  else if p.Nodes.all (nodeF p.Enums.length) = true then (if (p.Nodes.all onceN && onceB (p.Nodes.map DNode.Name)) = true then 0 else 6) else 1
theorem checkG_eq (p : DProg) : checkF p = checkG p (enumsF p.Enums) := rfl
section
variable {p : DProg} {en : Int}
theorem cg_en (h : en ≠ 0) : checkG p en = en := by unfold checkG; rw [if_pos h]
theorem cg_none (h : ¬ en ≠ 0) (h1 : (p.Nodes.length : Int) = 0) : checkG p en = 5 := by unfold checkG; rw [if_neg h, if_pos (by omega)]
theorem cg_many1 (h : ¬ en ≠ 0) (h1 : ¬ (p.Nodes.length : Int) = 0) (h2 : (p.Nodes.length : Int) > 6) : checkG p en = 4 := by unfold checkG; rw [if_neg h, if_neg (by omega), decide_eq_true (by omega)]; simp
theorem cg_many2 (h : ¬ en ≠ 0) (h1 : ¬ (p.Nodes.length : Int) = 0) (h2 : p.Nodes.any greatF = true) : checkG p en = 4 := by unfold checkG; rw [if_neg h, if_neg (by omega), h2]; simp
theorem cg_arg (h : ¬ en ≠ 0) (h1 : ¬ (p.Nodes.length : Int) = 0) (h2 : ¬ (p.Nodes.length : Int) > 6) {u v : Bool} (f1 : p.Nodes.any greatF = false) (f2 : p.Nodes.all (nodeF p.Enums.length) = u) (f3 : p.Nodes.all onceN = v) (hu : (!u) = true) : checkG p en = 1 := by
  unfold checkG; rw [if_neg h, if_neg (by omega), decide_eq_false (by omega), f1, f2, f3]; simp at hu; simp [hu]
theorem cg_there1 (h : ¬ en ≠ 0) (h1 : ¬ (p.Nodes.length : Int) = 0) (h2 : ¬ (p.Nodes.length : Int) > 6) {u v : Bool} (f1 : p.Nodes.any greatF = false) (f2 : p.Nodes.all (nodeF p.Enums.length) = u) (f3 : p.Nodes.all onceN = v) (hu : ¬ (!u) = true) (hv : (!v) = true) : checkG p en = 6 := by
  unfold checkG; rw [if_neg h, if_neg (by omega), decide_eq_false (by omega), f1, f2, f3]; simp at hu hv; simp [hu, hv]
theorem cg_there2 (h : ¬ en ≠ 0) (h1 : ¬ (p.Nodes.length : Int) = 0) (h2 : ¬ (p.Nodes.length : Int) > 6) {u v : Bool} (f1 : p.Nodes.any greatF = false) (f2 : p.Nodes.all (nodeF p.Enums.length) = u) (f3 : p.Nodes.all onceN = v) (hu : ¬ (!u) = true) (hv : ¬ (!v) = true) (hw : onceB (p.Nodes.map DNode.Name) = false) : checkG p en = 6 := by
  unfold checkG; rw [if_neg h, if_neg (by omega), decide_eq_false (by omega), f1, f2, f3]; simp at hu hv; simp [hu, hv, hw]
theorem cg_ok (h : ¬ en ≠ 0) (h1 : ¬ (p.Nodes.length : Int) = 0) (h2 : ¬ (p.Nodes.length : Int) > 6) {u v : Bool} (f1 : p.Nodes.any greatF = false) (f2 : p.Nodes.all (nodeF p.Enums.length) = u) (f3 : p.Nodes.all onceN = v) (hu : ¬ (!u) = true) (hv : ¬ (!v) = true) (hw : onceB (p.Nodes.map DNode.Name) = true) : checkG p en = 0 := by
  unfold checkG; rw [if_neg h, if_neg (by omega), decide_eq_false (by omega), f1, f2, f3]; simp at hu hv; simp [hu, hv, hw]
end
end Go.Proofs.YtipcmpkihhfhcaaDoor

namespace Go.Proofs.YtipcmpkihhfhcaaDoor
open Go.Abs
set_option maxRecDepth 20000
set_option linter.unusedSimpArgs false
set_option linter.unusedVariables false
set_option maxHeartbeats 1000000
attribute [local irreducible] vc vcOps vcStep vcGuard prK hrK gK gsK brK callK ElemK SeqK BlockK ScopeK OpsK CallK LoopK LoopGo finPost ACall PCall PCallE BCall vqOps vqStep vqGuard qrK heK pcK gqK gqsK QOpsK qcallK DrawK
theorem flatN_len {l : List DEq} (h : ∀ q ∈ l, okEq q) : (l.flatMap DEq.Names).length ≤ 20 * l.length := by
  induction l with
  | nil => simp
  | cons e L ih =>
    have h1 := (h e List.mem_cons_self).1
    have h2 := ih fun x hx => h x (List.mem_cons_of_mem _ hx)
    rw [List.flatMap_cons, List.length_append, List.length_cons]
    omega
theorem flatN_take {l : List DEq} (k : Nat) : ((l.take k).flatMap DEq.Names).length ≤ (l.flatMap DEq.Names).length := by
  have : l.flatMap DEq.Names = (l.take k).flatMap DEq.Names ++ (l.drop k).flatMap DEq.Names := by rw [← List.flatMap_append, List.take_append_drop]
  rw [this]; simp
theorem cntN_step {l : List DEq} {i : Nat} {q : DEq} (s : ByteArray) (hq : l[i]? = some q) : cntL s ((l.take (i + 1)).flatMap DEq.Names) = cntL s ((l.take i).flatMap DEq.Names) + cntL s q.Names := by
  rw [flatMap_next _ hq, cntL_append]
end Go.Proofs.YtipcmpkihhfhcaaDoor

namespace Go.Proofs.YtipcmpkihhfhcaaDoor
open Go.Abs
set_option maxRecDepth 20000
set_option linter.unusedSimpArgs false
set_option linter.unusedVariables false
set_option maxHeartbeats 1000000
attribute [local irreducible] vc vcOps vcStep vcGuard prK hrK gK gsK brK callK ElemK SeqK BlockK ScopeK OpsK CallK LoopK LoopGo finPost ACall PCall PCallE BCall vqOps vqStep vqGuard qrK heK pcK gqK gqsK QOpsK qcallK DrawK
theorem eqErr_n {p : DProg} {a : Int} {n : DNode} {D : List ByteArray} {q : DEq} {E : Int} (h : namesErr n D q.Names = E) (hE : ¬ E = 0) : eqErr p a n D q = E := by
  subst h
  unfold eqErr
  rw [if_neg hE]
theorem eqErr_p {p : DProg} {a : Int} {n : DNode} {D : List ByteArray} {q : DEq} (h : namesErr n D q.Names = 0) {b : Bool} (hb : (parts q.E).all (leadsF p a n) = b) : eqErr p a n D q = if b = true then 0 else 5 := by
  unfold eqErr
  rw [if_pos h, hb]
theorem cnt_no {s : ByteArray} {l : List ByteArray} (h : ¬ ((cntL s l : Nat) : Int) > 0) : s ∉ l := fun hm => by have := cntL_mem hm; omega
theorem cnt_yes {s : ByteArray} {l : List ByteArray} (h : ((cntL s l : Nat) : Int) > 0) : s ∈ l := by
  by_cases q : s ∈ l
  · exact q
  · have := cntL_zero q; omega
theorem not_both {s : ByteArray} {D l : List ByteArray} {k jj : Nat} (h1 : ¬ ((cntL s D : Nat) : Int) > 0) (h2 : ∀ x, l[k]? = some x → x ∉ l.take jj) (hs : l[((k : Nat) : Int).toNat]? = some s) (hk : jj = k) : s ∉ D ++ l.take k := by
  rw [List.mem_append]
  rintro (h | h)
  · exact cnt_no h1 h
  · subst hk; exact h2 s (by simpa using hs) h
end Go.Proofs.YtipcmpkihhfhcaaDoor

namespace Go.Proofs.YtipcmpkihhfhcaaDoor
open Go.Abs
set_option maxRecDepth 20000
set_option linter.unusedSimpArgs false
set_option linter.unusedVariables false
set_option maxHeartbeats 1000000
attribute [local irreducible] vc vcOps vcStep vcGuard prK hrK gK gsK brK callK ElemK SeqK BlockK ScopeK OpsK CallK LoopK LoopGo finPost ACall PCall PCallE BCall vqOps vqStep vqGuard qrK heK pcK gqK gqsK QOpsK qcallK DrawK
theorem n26 : (Tryd.f26.name == "runtime.NumGoroutine") = false := by kernel_rfl
theorem fault47 (a b c : Int) : PCall Tryd.prog 26 [.i a, .i b, .i c] (DFault.enc ⟨a, b, c⟩) := by
  refine pcall_of_vc tabOK Tryd.func26 n26 rfl (by repeat' first | exact pure_nil | refine pure_cons ?_ ?_ | exact .raw _ | exact pure_enc _ | exact pure_lst _ | exact pure_strs _ | exact pure_ints _ | exact DTy.pure _ | exact DTy.pures _ | exact DEnum.pure _ | exact DEnum.pures _ | exact DDecl.pure _ | exact DDecl.pures _ | exact DEq.pure _ | exact DEq.pures _ | exact DNode.pure _ | exact DNode.pures _ | exact DProg.pure _ | exact DProg.pures _ | exact DCond.pure _ | exact DCond.pures _ | exact DAtom.pure _ | exact DAtom.pures _ | exact DPlain.pure _ | exact DPlain.pures _ | exact DVar.pure _ | exact DVar.pures _ | exact DFlow.pure _ | exact DFlow.pures _ | exact DFlows.pure _ | exact DFlows.pures _ | exact DAsked.pure _ | exact DAsked.pures _ | exact DFault.pure _ | exact DFault.pures _ | exact DCell.pure _ | exact DCell.pures _ | exact DReply.pure _ | exact DReply.pures _ | exact DAsk.pure _ | exact DAsk.pures _ | exact DOp.pure _ | exact DOp.pures _ | exact pure_list (fun x => DDecl.pures x) _ | exact .fn _ _ _ pure_nil pure_nil | refine .agg _ ?_ | refine .tup _ ?_ | assumption) (by repeat' first | exact pure_nil | refine pure_cons ?_ ?_ | exact .raw _ | exact pure_enc _ | exact pure_lst _ | exact pure_strs _ | exact pure_ints _ | exact DTy.pure _ | exact DTy.pures _ | exact DEnum.pure _ | exact DEnum.pures _ | exact DDecl.pure _ | exact DDecl.pures _ | exact DEq.pure _ | exact DEq.pures _ | exact DNode.pure _ | exact DNode.pures _ | exact DProg.pure _ | exact DProg.pures _ | exact DCond.pure _ | exact DCond.pures _ | exact DAtom.pure _ | exact DAtom.pures _ | exact DPlain.pure _ | exact DPlain.pures _ | exact DVar.pure _ | exact DVar.pures _ | exact DFlow.pure _ | exact DFlow.pures _ | exact DFlows.pure _ | exact DFlows.pures _ | exact DAsked.pure _ | exact DAsked.pures _ | exact DFault.pure _ | exact DFault.pures _ | exact DCell.pure _ | exact DCell.pures _ | exact DReply.pure _ | exact DReply.pures _ | exact DAsk.pure _ | exact DAsk.pures _ | exact DOp.pure _ | exact DOp.pures _ | exact pure_list (fun x => DDecl.pures x) _ | exact .fn _ _ _ pure_nil pure_nil | refine .agg _ ?_ | refine .tup _ ?_ | assumption) (n := 11) rfl (rs := [.cell 6 58]) rfl ?_
  simp only [go_sem, Nat.reduceAdd, Nat.reduceSub, Nat.reduceMul, Nat.reduceLT, Nat.reduceLeDiff, Nat.reduceEqDiff, Nat.reduceBEq, Nat.reduceBNe, Nat.reducePow, Int.reduceEq, Int.reduceNe, Int.reduceLT, Int.reduceLE, Int.reduceGT, Int.reduceGE, Int.reduceAdd, Int.reduceSub, Int.reduceNeg, Int.reduceMul, not_true_eq_false, not_false_eq_true, true_and, and_true, Int.reduceToNat]
  rw [DFault.enc_eq]
  exact ⟨_, rfl, false, .refl _⟩
theorem faultX_err {p : DProg} {a : Int} {n : DNode} (h : (allV n).all (clockedF p.Enums n) = false) : nodeFault p a n = ⟨a, -1, 5⟩ := by unfold nodeFault; rw [if_neg (by rw [h]; simp)]
theorem faultX_eq {p : DProg} {a : Int} {n : DNode} {e : Int × Int} (h : (allV n).all (clockedF p.Enums n) = true) (he : eqsErr p a n 0 [] n.Eqs = e) (h2 : ¬ e.2 = 0) : nodeFault p a n = ⟨a, e.1, e.2⟩ := by unfold nodeFault; rw [if_pos h, he, if_neg h2]
theorem faultX_def {p : DProg} {a : Int} {n : DNode} {e : Int × Int} (h : (allV n).all (clockedF p.Enums n) = true) (he : eqsErr p a n 0 [] n.Eqs = e) (h2 : e.2 = 0) {b : Bool} (hb : allDef n = b) : nodeFault p a n = if b = true then ⟨0, 0, 0⟩ else ⟨a, -1, 5⟩ := by unfold nodeFault; rw [if_pos h, he, if_pos h2, hb]
theorem clk_no {L : List DEnum} {n : DNode} {d : DDecl} (h1 : ¬ d.On = ⟨#[]⟩) (h2 : isF n d.On = false ∨ armOk L d.Ctor = false) : clockedF L n d = false := by
  unfold clockedF
  rw [decide_eq_false h1]
  rcases h2 with h2 | h2 <;> simp [h2]
theorem clk_yes {L : List DEnum} {n : DNode} {d : DDecl} (h2 : d.On = ⟨#[]⟩ ∨ (isF n d.On = true ∧ armOk L d.Ctor = true)) : clockedF L n d = true := by
  unfold clockedF
  rcases h2 with h2 | h2
  · rw [decide_eq_true h2]; rfl
  · simp [h2.1, h2.2]
theorem rest_at {n : DNode} {i : Nat} {d : DDecl} (h : (allV n)[i]? = some d) (hi : n.Ins.length ≤ i) : (n.Outs ++ n.Vars)[i - n.Ins.length]? = some d := by
  have e : allV n = n.Ins ++ (n.Outs ++ n.Vars) := by simp [allV]
  rw [e, List.getElem?_append_right hi] at h
  exact h
end Go.Proofs.YtipcmpkihhfhcaaDoor

namespace Go.Proofs.YtipcmpkihhfhcaaDoor
open Go.Abs
set_option maxRecDepth 20000
set_option linter.unusedSimpArgs false
set_option linter.unusedVariables false
set_option maxHeartbeats 1000000
attribute [local irreducible] vc vcOps vcStep vcGuard prK hrK gK gsK brK callK ElemK SeqK BlockK ScopeK OpsK CallK LoopK LoopGo finPost ACall PCall PCallE BCall vqOps vqStep vqGuard qrK heK pcK gqK gqsK QOpsK qcallK DrawK
abbrev sA : DDecl := ⟨⟨#[97]⟩, ⟨1, 0, 0⟩, ⟨#[]⟩, ⟨#[]⟩⟩
abbrev sB : DDecl := ⟨⟨#[98]⟩, ⟨1, 0, 0⟩, ⟨#[]⟩, ⟨#[]⟩⟩
abbrev sE : Ex := .mk 3 0 ⟨#[99]⟩ 0 [] []
abbrev sQ : DEq := ⟨[⟨#[98]⟩], sE⟩
abbrev sN : DNode := ⟨⟨#[102]⟩, [sA], [sB], [], [sQ]⟩
abbrev sP : DProg := ⟨[], [sN]⟩
theorem sE_parts : parts sE = [sE] := by simp [parts, partsL]
theorem sE_ok : okE sE := by
  constructor
  · rw [sE_parts]; decide
  · rw [sE_parts]; intro x hx
    rw [List.mem_singleton.1 hx]
    exact ⟨by decide, fun a ha => by simp [Ex.arms] at ha⟩
theorem sP_ok : okProg sP := by
  refine ⟨⟨by decide, by simp⟩, by decide, fun n hn => ?_⟩
  rw [List.mem_singleton.1 hn]
  refine ⟨⟨by decide, fun d hd => ?_⟩, ⟨by decide, fun d hd => ?_⟩, ⟨by decide, by simp⟩, by decide, by decide, fun q hq => ?_⟩
  · rw [List.mem_singleton.1 hd]; decide
  · rw [List.mem_singleton.1 hd]; decide
  · rw [List.mem_singleton.1 hq]
    exact ⟨by decide, sE_ok, fun s hs => by rw [List.mem_singleton.1 hs]; decide⟩
theorem low97 : lowF ⟨#[97]⟩ = true := by decide +kernel
theorem low98 : lowF ⟨#[98]⟩ = true := by decide +kernel
theorem low99 : lowF ⟨#[99]⟩ = true := by decide +kernel
theorem low102 : lowF ⟨#[102]⟩ = true := by decide +kernel
theorem sE_right : rightE sE = true := by
  unfold rightE
  rw [sE_parts]
  simp [partE, numbersE, namedE, armsE, subsE, Ex.kind, Ex.op, Ex.n, Ex.name, Ex.arms, Ex.subs, low99, depthE, depthL]
theorem sP_check : checkF sP = 0 := by
  have h1 : enumsF [] = 0 := by
    unfold enumsF greatE rightEn
    simp [onceB_yes]
  have h2 : nodeF 0 sN = true := by
    unfold nodeF bareN eqF declaredF bareF rightTyF
    simp [allV, low97, low98, low102, sE_right]
  have h3 : onceN sN = true := by
    unfold onceN
    exact onceB_yes (by simp [allV])
  have h4 : onceB [(⟨#[102]⟩ : ByteArray)] = true := onceB_yes (by simp)
  have h5 : greatF sN = false := by decide +kernel
  unfold checkF
  simp [h1, h2, h3, h4, h5]
theorem sP_scope : scopeF sP = ⟨0, 0, 5⟩ := by
  unfold scopeF
  rw [sP_check, if_pos rfl]
  decide +kernel
theorem weak_tkS {sz : Nat} {es ds : List AV} {k : Nat} (h : es = ds) : Weak (.lst sz es (some k)) (.lst sz ds none) := h ▸ .tok _ _ _
theorem weakS (a b c d e : Nat) : Weak (.agg [.raw (.slice none 0 0), .lst 5 [.agg [.s ⟨#[102]⟩, .lst 6 [.agg [.s ⟨#[97]⟩, .i 1, .i 0, .i 0, .s ⟨#[]⟩, .s ⟨#[]⟩]] (some a), .lst 6 [.agg [.s ⟨#[98]⟩, .i 1, .i 0, .i 0, .s ⟨#[]⟩, .s ⟨#[]⟩]] (some b), .raw (.slice none 0 0), .lst 7 [.agg [.lst 1 [.s ⟨#[98]⟩] (some c), .i 3, .i 0, .s ⟨#[99]⟩, .i 0, .raw (.slice none 0 0), .raw (.slice none 0 0)]] (some d)]] (some e)]) sP.enc := by
  rw [DProg.enc_eq]
  refine Weak.aggs ⟨.nil _, ?_, trivial⟩
  refine Weak.lsts (by simp) (by intro e he; obtain ⟨x, _, rfl⟩ := List.mem_map.1 he; rw [DNode.enc_cells]; rfl) ?_
  show WeakL _ (flat [sN.enc])
  rw [DNode.enc_eq]
  refine ⟨.refl _, weak_tkS (by simp [DDecl.enc_eq]), weak_tkS (by simp [DDecl.enc_eq]), .nil _, ?_, trivial⟩
  refine Weak.lsts (by simp) (by intro e he; obtain ⟨x, _, rfl⟩ := List.mem_map.1 he; rw [DEq.enc_cells]; rfl) ?_
  show WeakL _ (flat [sQ.enc])
  rw [DEq.enc_eq]
  exact ⟨weak_tkS (by simp), .refl _, .refl _, .refl _, .refl _, .nil _, .nil _, trivial⟩
theorem n13 : (Tryd.f13.name == "runtime.NumGoroutine") = false := by kernel_rfl
theorem live14 : PCall Tryd.prog 13 [] (.b true) := by
  have hs := scopeCheck sP sP_ok
  rw [sP_scope] at hs
  refine pcall_of_vc tabOK Tryd.func13 n13 rfl (by repeat' first | exact pure_nil | refine pure_cons ?_ ?_ | exact .raw _ | exact pure_enc _ | exact pure_lst _ | exact pure_strs _ | exact pure_ints _ | exact DTy.pure _ | exact DTy.pures _ | exact DEnum.pure _ | exact DEnum.pures _ | exact DDecl.pure _ | exact DDecl.pures _ | exact DEq.pure _ | exact DEq.pures _ | exact DNode.pure _ | exact DNode.pures _ | exact DProg.pure _ | exact DProg.pures _ | exact DCond.pure _ | exact DCond.pures _ | exact DAtom.pure _ | exact DAtom.pures _ | exact DPlain.pure _ | exact DPlain.pures _ | exact DVar.pure _ | exact DVar.pures _ | exact DFlow.pure _ | exact DFlow.pures _ | exact DFlows.pure _ | exact DFlows.pures _ | exact DAsked.pure _ | exact DAsked.pures _ | exact DFault.pure _ | exact DFault.pures _ | exact DCell.pure _ | exact DCell.pures _ | exact DReply.pure _ | exact DReply.pures _ | exact DAsk.pure _ | exact DAsk.pures _ | exact DOp.pure _ | exact DOp.pures _ | exact pure_list (fun x => DDecl.pures x) _ | exact .fn _ _ _ pure_nil pure_nil | refine .agg _ ?_ | refine .tup _ ?_ | assumption) (by repeat' first | exact pure_nil | refine pure_cons ?_ ?_ | exact .raw _ | exact pure_enc _ | exact pure_lst _ | exact pure_strs _ | exact pure_ints _ | exact DTy.pure _ | exact DTy.pures _ | exact DEnum.pure _ | exact DEnum.pures _ | exact DDecl.pure _ | exact DDecl.pures _ | exact DEq.pure _ | exact DEq.pures _ | exact DNode.pure _ | exact DNode.pures _ | exact DProg.pure _ | exact DProg.pures _ | exact DCond.pure _ | exact DCond.pures _ | exact DAtom.pure _ | exact DAtom.pures _ | exact DPlain.pure _ | exact DPlain.pures _ | exact DVar.pure _ | exact DVar.pures _ | exact DFlow.pure _ | exact DFlow.pures _ | exact DFlows.pure _ | exact DFlows.pures _ | exact DAsked.pure _ | exact DAsked.pures _ | exact DFault.pure _ | exact DFault.pures _ | exact DCell.pure _ | exact DCell.pures _ | exact DReply.pure _ | exact DReply.pures _ | exact DAsk.pure _ | exact DAsk.pures _ | exact DOp.pure _ | exact DOp.pures _ | exact pure_list (fun x => DDecl.pures x) _ | exact .fn _ _ _ pure_nil pure_nil | refine .agg _ ?_ | refine .tup _ ?_ | assumption) (n := 21) rfl (rs := [.tmp 0]) rfl ?_
  simp only [go_sem, Nat.reduceAdd, Nat.reduceSub, Nat.reduceMul, Nat.reduceLT, Nat.reduceLeDiff, Nat.reduceEqDiff, Nat.reduceBEq, Nat.reduceBNe, Nat.reducePow, Int.reduceEq, Int.reduceNe, Int.reduceLT, Int.reduceLE, Int.reduceGT, Int.reduceGE, Int.reduceAdd, Int.reduceSub, Int.reduceNeg, Int.reduceMul, not_true_eq_false, not_false_eq_true, true_and, and_true, Int.reduceToNat]
  refine PCall.callW hs ⟨weakS _ _ _ _ _, trivial⟩ ?_
  simp only [go_sem, Nat.reduceAdd, Nat.reduceSub, Nat.reduceMul, Nat.reduceLT, Nat.reduceLeDiff, Nat.reduceEqDiff, Nat.reduceBEq, Nat.reduceBNe, Nat.reducePow, Int.reduceEq, Int.reduceNe, Int.reduceLT, Int.reduceLE, Int.reduceGT, Int.reduceGE, Int.reduceAdd, Int.reduceSub, Int.reduceNeg, Int.reduceMul, not_true_eq_false, not_false_eq_true, true_and, and_true, Int.reduceToNat]
  refine PCall.call (fault47 _ _ _) ?_
  simp only [go_sem, Nat.reduceAdd, Nat.reduceSub, Nat.reduceMul, Nat.reduceLT, Nat.reduceLeDiff, Nat.reduceEqDiff, Nat.reduceBEq, Nat.reduceBNe, Nat.reducePow, Int.reduceEq, Int.reduceNe, Int.reduceLT, Int.reduceLE, Int.reduceGT, Int.reduceGE, Int.reduceAdd, Int.reduceSub, Int.reduceNeg, Int.reduceMul, not_true_eq_false, not_false_eq_true, true_and, and_true, Int.reduceToNat]
  try exact finBq rfl (by simp)
end Go.Proofs.YtipcmpkihhfhcaaDoor
