import Derived.Test.YtipcmpkihhfhcaaIdX
import Derived.Test.YtipcmpkihhfhcaaAbsJ
namespace Go.Proofs.Ytipcmpkihhfhcaa
open Go.Abs
set_option maxRecDepth 20000
set_option linter.unusedSimpArgs false
set_option linter.unusedVariables false
set_option maxHeartbeats 1000000
attribute [local irreducible] vc vcOps vcStep vcGuard prK hrK gK gsK brK callK ElemK SeqK BlockK ScopeK OpsK CallK LoopK LoopGo finPost ACall PCall PCallE BCall vqOps vqStep vqGuard qrK heK pcK gqK gqsK QOpsK qcallK DrawK
theorem n57 : (Try.f57.name == "runtime.NumGoroutine") = false := by kernel_rfl
theorem cut_x (t : ByteArray) (c : UInt8) (ht : t.size ≤ 1000000) : PCall Try.prog 57 [.s t, .raw (.int .u8 c.toNat)] (.lst 1 ((pieces c t).map AV.s) none) := by
  refine pcall_of_vc tabOK Try.func57 n57 rfl (pure_cons (.raw _) (pure_cons (.raw _) pure_nil)) (pure_strs _) (n := 36) rfl (rs := [.tmp 4]) rfl ?_
  simp only [go_sem, Nat.reduceAdd, Nat.reduceSub, Nat.reduceMul, Nat.reduceLT, Nat.reduceLeDiff, Nat.reduceEqDiff, Nat.reduceBEq, Nat.reduceBNe, Nat.reducePow, Int.reduceEq, Int.reduceNe, Int.reduceLT, Int.reduceLE, Int.reduceGT, Int.reduceGE, Int.reduceAdd, Int.reduceSub, Int.reduceNeg, Int.reduceMul, not_true_eq_false, not_false_eq_true, true_and, and_true, Int.reduceToNat]
  refine loop_rule (fun n s h => ∃ (i fr : Nat) (D : List ByteArray) (rest : List Blk), i ≤ t.size + 1 ∧ fr ≤ i ∧ D.length ≤ i ∧ n = t.size + 1 - i ∧ (i ≤ t.size → D ++ pieces c (t.extract fr t.size) = pieces c t ∧ c ∉ ((bts t).take i).drop fr) ∧ (i = t.size + 1 → D = pieces c t) ∧
    Vis 36 [(7, .i i), (0, .s t), (1, .raw (.int .u8 c.toNat)), (5, .lst 1 (D.map AV.s) (some 0)), (6, .i fr)] s ∧ h = .tok 9 1 D.length :: rest) (t.size + 1) ?_ ?_
  · refine ⟨0, 0, [], [], by omega, by omega, by simp, by omega, fun _ => ⟨?_, by simp⟩, by omega, .cons rfl (.cons rfl (.cons rfl (.cons rfl (.cons rfl (.nil rfl))))), rfl⟩
    have : t.extract 0 t.size = t := bts_inj (by rw [bts_from]; rfl)
    rw [List.nil_append, this]
  rintro n s h ⟨i, fr, D, rest, hi, hfr, hl, rfl, hinv, hend, hv, rfl⟩
  obtain ⟨j, rfl⟩ := hv.out
  repeat' first
    | exact finB rfl
    | exact finI rfl
    | exact finP rfl
    | exact absurd rfl (by assumption)
    | simp only [go_sem, Nat.reduceAdd, Nat.reduceSub, Nat.reduceMul, Nat.reduceLT, Nat.reduceLeDiff, Nat.reduceEqDiff, Nat.reduceBEq, Nat.reduceBNe, Nat.reducePow, Int.reduceEq, Int.reduceNe, Int.reduceLT, Int.reduceLE, Int.reduceGT, Int.reduceGE, Int.reduceAdd, Int.reduceSub, Int.reduceNeg, Int.reduceMul, not_true_eq_false, not_false_eq_true, true_and, and_true, Int.reduceToNat]
    | (intro _)
    | refine brK_dec (fun _ => ?_) (fun _ => ?_)
    | refine brK_any ?_ ?_
    | refine gK_dec (fun _ => ?_) (fun _ => ?_)
    | refine gK_any ?_ ?_
    | refine gqK_dec (fun _ => ?_) (fun _ => ?_)
    | refine ⟨by omega, ?_⟩
    | refine elemHave (by omega) (by assumption) ?_
    | refine elemMap (by omega) (by omega) (fun x hx => ?_)
    | refine drawK mo (by kernel_rfl) ?_
    | (exfalso; omega)
    | ((fail_if_success (clear hcc)); have hlt_ : i < t.size := (by omega); have hcx := bts_at hlt_; obtain ⟨x, hcc⟩ := hcx; have hbi := bat hcc)
    | (rw [hbi])
  · have hie : i = t.size := by omega
    obtain ⟨h1, h2⟩ := hinv (by omega)
    rw [hie] at h2
    have hp := pieces_last h2
    rw [hp] at h1
    exact loopGo (t.size + 1 - (i + 1)) (by omega) ⟨i + 1, i + 1, D ++ [t.extract (fr : Int).toNat (i : Int).toNat], rest ++ [.tok 9 1 1], by omega, by omega, by simp; omega, rfl, fun h => by omega, fun _ => by rw [← h1, hie, Int.toNat_natCast, Int.toNat_natCast],
      .next rfl (by omega) (.cons rfl (.cons rfl (.cons (by rw [List.map_append]; rfl) (.next rfl (by omega) (.nil rfl))))), by simp⟩
  · have hxc : x = c := UInt8.toNat_inj.1 (by omega)
    subst hxc
    obtain ⟨h1, h2⟩ := hinv (by omega)
    have hp := pieces_step hfr hcc h2
    rw [hp] at h1
    exact loopGo (t.size + 1 - (i + 1)) (by omega) ⟨i + 1, i + 1, D ++ [t.extract (fr : Int).toNat (i : Int).toNat], rest ++ [.tok 9 1 1], by omega, by omega, by simp; omega, rfl, fun _ => ⟨by rw [Int.toNat_natCast, Int.toNat_natCast, List.append_assoc]; exact h1, by simp⟩, fun h => by omega,
      .next rfl (by omega) (.cons rfl (.cons rfl (.cons (by rw [List.map_append]; rfl) (.next rfl (by omega) (.nil rfl))))), by simp⟩
  · have hxc : ¬ x = c := fun e => by subst e; omega
    obtain ⟨h1, h2⟩ := hinv (by omega)
    exact loopGo (t.size + 1 - (i + 1)) (by omega) ⟨i + 1, fr, D, rest, by omega, by omega, by omega, rfl, fun _ => ⟨h1, no_next hfr hcc hxc h2⟩, fun h => by omega,
      .next rfl (by omega) (.cons rfl (.cons rfl (.cons rfl (.cons rfl (.nil rfl))))), rfl⟩
  · rw [← hend (by omega)]
    exact ⟨_, rfl, false, .tok _ _ _⟩

theorem numG_bad {t : ByteArray} (h : ¬ (1 ≤ t.size ∧ t.size ≤ 3)) : numG t = false := by
  unfold numG
  rcases Classical.em (1 ≤ t.size) with q | q
  · have : ¬ t.size ≤ 3 := fun q' => h ⟨q, q'⟩
    simp [this]
  · simp [q]
theorem partF_one {t p : ByteArray} {l : List ByteArray} (hp : pieces 46 t = l) (hl : l.length = 1) (h0 : l[0]? = some p) : partF t = lowF p := by
  match l, hl with
  | [x], _ => simp at h0; subst h0; unfold partF; rw [hp]
theorem partF_two {t p q : ByteArray} {l : List ByteArray} (hp : pieces 46 t = l) (hl : l.length = 2) (h0 : l[0]? = some p) (h1 : l[1]? = some q) : partF t = (lowF p && numG q) := by
  match l, hl with
  | [x, y], _ => simp at h0 h1; subst h0; subst h1; unfold partF; rw [hp]
theorem partF_more {t : ByteArray} {l : List ByteArray} (hp : pieces 46 t = l) (hl : 2 < l.length) : partF t = false := by
  match l, hl with
  | x :: y :: z :: l, _ => unfold partF; rw [hp]
theorem partF_low0 {t p : ByteArray} {l : List ByteArray} (hp : pieces 46 t = l) (h0 : l[0]? = some p) (h : lowF p = false) : partF t = false := by
  unfold partF
  rw [hp]
  match l with
  | [] => rfl
  | [x] => simp at h0; subst h0; exact h
  | [x, y] => simp at h0; subst h0; simp [h]
  | x :: y :: z :: l => rfl
theorem cut_x' (t : ByteArray) (c : UInt8) (k : Int) (hk : (c.toNat : Int) = k) (ht : t.size ≤ 1000000) : PCall Try.prog 57 [.s t, .raw (.int .u8 k)] (.lst 1 ((pieces c t).map AV.s) none) := hk ▸ cut_x t c ht
theorem numG_of {t : ByteArray} {b : Bool} {c : UInt8} (h1 : 1 ≤ t.size) (h2 : t.size ≤ 3) (h0 : (bts t)[0]? = some c) (h48 : ¬ c.toNat = 48) (hb : ((bts t).all fun c => inB 48 57 c.toNat) = b) : numG t = b := by
  unfold numG
  obtain ⟨l, hl⟩ := bts_cons h0
  rw [decide_eq_true h1, decide_eq_true h2, hb, hl]
  simp [firstNo0, h48]
theorem numG_48 {t : ByteArray} {c : UInt8} (h0 : (bts t)[0]? = some c) (h48 : c.toNat = 48) : numG t = false := by
  unfold numG
  obtain ⟨l, hl⟩ := bts_cons h0
  rw [hl]
  simp [firstNo0, h48]
theorem n48 : (Try.f48.name == "runtime.NumGoroutine") = false := by kernel_rfl
theorem path_x (t : ByteArray) (ht : t.size ≤ 1000000) : PCall Try.prog 48 [.s t] (.b (pathF t)) := by
  refine pcall_of_vc tabOK Try.func48 n48 rfl (by repeat' first | exact pure_nil | refine pure_cons ?_ ?_ | exact .raw _ | exact pure_enc _ | exact pure_lst _ | exact pure_strs _ | exact pure_ints _ | exact DTy.pure _ | exact DTy.pures _ | exact DEnum.pure _ | exact DEnum.pures _ | exact DDecl.pure _ | exact DDecl.pures _ | exact DEq.pure _ | exact DEq.pures _ | exact DNode.pure _ | exact DNode.pures _ | exact DProg.pure _ | exact DProg.pures _ | exact DCond.pure _ | exact DCond.pures _ | exact DAtom.pure _ | exact DAtom.pures _ | exact DPlain.pure _ | exact DPlain.pures _ | exact DVar.pure _ | exact DVar.pures _ | exact DFlow.pure _ | exact DFlow.pures _ | exact DFlows.pure _ | exact DFlows.pures _ | exact DAsked.pure _ | exact DAsked.pures _ | exact DFault.pure _ | exact DFault.pures _ | exact DCell.pure _ | exact DCell.pures _ | exact DReply.pure _ | exact DReply.pures _ | exact DAsk.pure _ | exact DAsk.pures _ | exact DOp.pure _ | exact DOp.pures _ | exact pure_list (fun x => DDecl.pures x) _ | exact .fn _ _ _ pure_nil pure_nil | refine .agg _ ?_ | refine .tup _ ?_ | assumption) (by repeat' first | exact pure_nil | refine pure_cons ?_ ?_ | exact .raw _ | exact pure_enc _ | exact pure_lst _ | exact pure_strs _ | exact pure_ints _ | exact DTy.pure _ | exact DTy.pures _ | exact DEnum.pure _ | exact DEnum.pures _ | exact DDecl.pure _ | exact DDecl.pures _ | exact DEq.pure _ | exact DEq.pures _ | exact DNode.pure _ | exact DNode.pures _ | exact DProg.pure _ | exact DProg.pures _ | exact DCond.pure _ | exact DCond.pures _ | exact DAtom.pure _ | exact DAtom.pures _ | exact DPlain.pure _ | exact DPlain.pures _ | exact DVar.pure _ | exact DVar.pures _ | exact DFlow.pure _ | exact DFlow.pures _ | exact DFlows.pure _ | exact DFlows.pures _ | exact DAsked.pure _ | exact DAsked.pures _ | exact DFault.pure _ | exact DFault.pures _ | exact DCell.pure _ | exact DCell.pures _ | exact DReply.pure _ | exact DReply.pures _ | exact DAsk.pure _ | exact DAsk.pures _ | exact DOp.pure _ | exact DOp.pures _ | exact pure_list (fun x => DDecl.pures x) _ | exact .fn _ _ _ pure_nil pure_nil | refine .agg _ ?_ | refine .tup _ ?_ | assumption) (n := 61) rfl (rs := [.tmp 2]) rfl ?_
  unfold pathF
  simp only [go_sem, Nat.reduceAdd, Nat.reduceSub, Nat.reduceMul, Nat.reduceLT, Nat.reduceLeDiff, Nat.reduceEqDiff, Nat.reduceBEq, Nat.reduceBNe, Nat.reducePow, Int.reduceEq, Int.reduceNe, Int.reduceLT, Int.reduceLE, Int.reduceGT, Int.reduceGE, Int.reduceAdd, Int.reduceSub, Int.reduceNeg, Int.reduceMul, not_true_eq_false, not_false_eq_true, true_and, and_true, Int.reduceToNat]
  refine PCall.call (cut_x' t 47 47 rfl ht) ?_
  simp only [go_sem, Nat.reduceAdd, Nat.reduceSub, Nat.reduceMul, Nat.reduceLT, Nat.reduceLeDiff, Nat.reduceEqDiff, Nat.reduceBEq, Nat.reduceBNe, Nat.reducePow, Int.reduceEq, Int.reduceNe, Int.reduceLT, Int.reduceLE, Int.reduceGT, Int.reduceGE, Int.reduceAdd, Int.reduceSub, Int.reduceNeg, Int.reduceMul, not_true_eq_false, not_false_eq_true, true_and, and_true, Int.reduceToNat]
  refine loop_frH [2, 4, 5, 6, 7, 10, 11, 12, 13, 14, 15, 16, 17, 18, 19, 20, 21, 22, 23, 24, 25, 26, 27, 28, 29, 30, 31, 32, 33, 34, 35, 36, 37, 38, 39, 40, 41, 42, 43, 44, 45, 46, 47, 48, 49, 50, 51, 52, 53, 54, 55, 56, 57, 58, 59, 60] (fun m C => ∃ i : Nat, i ≤ (pieces 47 t).length ∧ m = (pieces 47 t).length - i ∧ (∀ x ∈ (pieces 47 t).take i, partF x = true) ∧ C = [(4, .raw (.int .i64 (i : Nat)))]) (pieces 47 t).length _ ⟨0, by omega, by omega, by simp, rfl⟩ (.cons rfl .nil) ?_
  rintro m C j ⟨i, hi, rfl, hpi, rfl⟩
  simp only [go_sem, Nat.reduceAdd, Nat.reduceSub, Nat.reduceMul, Nat.reduceLT, Nat.reduceLeDiff, Nat.reduceEqDiff, Nat.reduceBEq, Nat.reduceBNe, Nat.reducePow, Int.reduceEq, Int.reduceNe, Int.reduceLT, Int.reduceLE, Int.reduceGT, Int.reduceGE, Int.reduceAdd, Int.reduceSub, Int.reduceNeg, Int.reduceMul, not_true_eq_false, not_false_eq_true, true_and, and_true, Int.reduceToNat]
  intro _
  refine brK_dec (fun hlt => ?_) (fun hge => ?_)
  · simp only [go_sem, Nat.reduceAdd, Nat.reduceSub, Nat.reduceMul, Nat.reduceLT, Nat.reduceLeDiff, Nat.reduceEqDiff, Nat.reduceBEq, Nat.reduceBNe, Nat.reducePow, Int.reduceEq, Int.reduceNe, Int.reduceLT, Int.reduceLE, Int.reduceGT, Int.reduceGE, Int.reduceAdd, Int.reduceSub, Int.reduceNeg, Int.reduceMul, not_true_eq_false, not_false_eq_true, true_and, and_true, Int.reduceToNat]
    refine elemMap (by omega) (by omega) (fun x hx => ?_)
    have hx' : (pieces 47 t)[i]? = some x := by simpa using hx
    have hle := pieces_le (List.mem_of_getElem? hx')
    have next : partF x = true → ∀ y ∈ (pieces 47 t).take (i + 1), partF y = true := fun h => take_all hpi hx' h
    have stop : partF x = false → false = (pieces 47 t).all partF := fun h => (List.all_eq_false.2 ⟨x, List.mem_of_getElem? hx', by simp [h]⟩).symm
    simp only [go_sem, Nat.reduceAdd, Nat.reduceSub, Nat.reduceMul, Nat.reduceLT, Nat.reduceLeDiff, Nat.reduceEqDiff, Nat.reduceBEq, Nat.reduceBNe, Nat.reducePow, Int.reduceEq, Int.reduceNe, Int.reduceLT, Int.reduceLE, Int.reduceGT, Int.reduceGE, Int.reduceAdd, Int.reduceSub, Int.reduceNeg, Int.reduceMul, not_true_eq_false, not_false_eq_true, true_and, and_true, Int.reduceToNat]
    refine PCall.call (cut_x' x 46 46 rfl (by omega)) ?_
    have hne := pieces_ne 46 x
    generalize hp : pieces 46 x = l at hne ⊢
    have hl0 : 0 < l.length := List.length_pos_iff.2 hne
    obtain ⟨p0, hp0⟩ : ∃ p0, l[0]? = some p0 := ⟨_, List.getElem?_eq_getElem hl0⟩
    by_cases h2 : l.length = 2
    · obtain ⟨q, hq⟩ : ∃ q, l[1]? = some q := ⟨_, List.getElem?_eq_getElem (by omega)⟩
      have hpt := partF_two hp h2 hp0 hq
      by_cases hsz : ¬ (1 ≤ q.size ∧ q.size ≤ 3)
      · have hbad := numG_bad hsz
        repeat' first
          | (exfalso; omega)
          | simp only [go_sem, Nat.reduceAdd, Nat.reduceSub, Nat.reduceMul, Nat.reduceLT, Nat.reduceLeDiff, Nat.reduceEqDiff, Nat.reduceBEq, Nat.reduceBNe, Nat.reducePow, Int.reduceEq, Int.reduceNe, Int.reduceLT, Int.reduceLE, Int.reduceGT, Int.reduceGE, Int.reduceAdd, Int.reduceSub, Int.reduceNeg, Int.reduceMul, not_true_eq_false, not_false_eq_true, true_and, and_true, Int.reduceToNat]
          | (intro _)
          | refine brK_dec (fun _ => ?_) (fun _ => ?_)
          | refine gK_dec (fun _ => ?_) (fun _ => ?_)
          | refine elemHave (by omega) hp0 ?_
          | refine elemHave (by omega) hq ?_
          | (refine PCall.call (low_x p0) ?_; generalize hlo : lowF p0 = lo; cases lo)
          | exact finBq rfl (stop (by rw [hpt, hbad]; simp))
      · have hsz := Classical.not_not.1 hsz
        obtain ⟨c0, hc0⟩ := bts_at (t := q) (i := 0) (by omega)
        have hb0 : (q.data.toList.getD 0 0).toNat = c0.toNat := by have := bat hc0; simpa using this
        (repeat' first
    | exact finB rfl
    | exact finI rfl
    | exact finP rfl
    | exact absurd rfl (by assumption)
    | simp only [go_sem, Nat.reduceAdd, Nat.reduceSub, Nat.reduceMul, Nat.reduceLT, Nat.reduceLeDiff, Nat.reduceEqDiff, Nat.reduceBEq, Nat.reduceBNe, Nat.reducePow, Int.reduceEq, Int.reduceNe, Int.reduceLT, Int.reduceLE, Int.reduceGT, Int.reduceGE, Int.reduceAdd, Int.reduceSub, Int.reduceNeg, Int.reduceMul, not_true_eq_false, not_false_eq_true, true_and, and_true, Int.reduceToNat]
    | (intro _)
    | refine brK_dec (fun _ => ?_) (fun _ => ?_)
    | refine brK_split (fun hb_ => ?_) (fun hb_ => ?_)
    | refine gK_dec (fun _ => ?_) (fun _ => ?_)
    | refine gK_split (fun hb_ => ?_) (fun hb_ => ?_)
    | refine gqK_dec (fun _ => ?_) (fun _ => ?_)
    | refine ⟨by omega, ?_⟩
    | refine elemHave (by omega) (by assumption) ?_
    | refine elemMap (by omega) (by omega) (fun x hx => ?_)
    | refine drawK mo (by kernel_rfl) ?_
    | (exfalso; omega)
    | (refine elemHave (by omega) hp0 ?_)
    | (refine elemHave (by omega) hq ?_)
    | (rw [hb0])
    | (refine PCall.call (low_x p0) ?_; generalize hlo : lowF p0 = lo; cases lo)
    | ((fail_if_success (clear hcc)); have hlt_ : k < q.size := (by omega); have hcx := bts_at hlt_; obtain ⟨c, hcc⟩ := hcx; have hbi := bat hcc)
    | (rw [hbi])
    | (refine PCall.call (in_x _ _ _) ?_; generalize hin : inB 48 57 (c.toNat : Nat) = bb; cases bb)
    | (exact finBq rfl (stop (partF_low0 hp hp0 hlo)))
    | (have h48 : c0.toNat = 48 := (by omega); exact finBq rfl (stop (by rw [hpt, numG_48 hc0 h48]; simp)))
    | (have hall := all_no (p := fun c => inB 48 57 c.toNat) hcc hin; have h48 : ¬ c0.toNat = 48 := (by omega); exact finBq rfl (stop (by rw [hpt, numG_of hsz.1 hsz.2 hc0 h48 hall]; simp)))
    | exact loopFrH _ (by omega) ⟨k + 1, by omega, rfl, take_all hpk hcc hin, rfl⟩ (.next rfl (by omega) .nil) rfl
    | (refine loop_frH [2, 7, 50, 51, 52, 53, 54, 55, 56, 57, 58, 59, 60] (fun mm_ CC_ => ∃ (k : Nat), k ≤ q.size ∧ mm_ = q.size - k ∧ (∀ c ∈ (bts q).take k, inB 48 57 c.toNat = true) ∧ CC_ = [(7, .raw (.int .i64 ((k : Nat) : Int)))]) (q.size) _ ⟨0, by omega, by omega, by simp, rfl⟩ (.cons rfl .nil) ?_; rintro mm_ CC_ jk ⟨k, hk, rfl, hpk, rfl⟩)
    | (have hall := all_yes (p := fun c => inB 48 57 c.toNat) hpk (by omega); have h48 : ¬ c0.toNat = 48 := (by omega); exact loopFrH _ (by omega) ⟨i + 1, by omega, rfl, next (by rw [hpt, hlo, numG_of hsz.1 hsz.2 hc0 h48 hall, Bool.and_self]), rfl⟩ (.next rfl (by omega) .nil) rfl))
    · have h1 : l.length = 1 ∨ 2 < l.length := by omega
      repeat' first
        | (exfalso; omega)
        | simp only [go_sem, Nat.reduceAdd, Nat.reduceSub, Nat.reduceMul, Nat.reduceLT, Nat.reduceLeDiff, Nat.reduceEqDiff, Nat.reduceBEq, Nat.reduceBNe, Nat.reducePow, Int.reduceEq, Int.reduceNe, Int.reduceLT, Int.reduceLE, Int.reduceGT, Int.reduceGE, Int.reduceAdd, Int.reduceSub, Int.reduceNeg, Int.reduceMul, not_true_eq_false, not_false_eq_true, true_and, and_true, Int.reduceToNat]
        | (intro _)
        | refine brK_dec (fun _ => ?_) (fun _ => ?_)
        | refine gK_dec (fun _ => ?_) (fun _ => ?_)
        | refine elemHave (by omega) hp0 ?_
        | (refine PCall.call (low_x p0) ?_; generalize hlo : lowF p0 = lo; cases lo)
        | (have h3 : 2 < l.length := (by omega); exact finBq rfl (stop (partF_more hp h3)))
        | exact finBq rfl (stop (partF_low0 hp hp0 hlo))
        | (have h3 : l.length = 1 := (by omega); exact loopFrH _ (by omega) ⟨i + 1, by omega, rfl, next (by rw [partF_one hp h3 hp0, hlo]), rfl⟩ (.next rfl (by omega) .nil) rfl)
  · simp only [go_sem, Nat.reduceAdd, Nat.reduceSub, Nat.reduceMul, Nat.reduceLT, Nat.reduceLeDiff, Nat.reduceEqDiff, Nat.reduceBEq, Nat.reduceBNe, Nat.reducePow, Int.reduceEq, Int.reduceNe, Int.reduceLT, Int.reduceLE, Int.reduceGT, Int.reduceGE, Int.reduceAdd, Int.reduceSub, Int.reduceNeg, Int.reduceMul, not_true_eq_false, not_false_eq_true, true_and, and_true, Int.reduceToNat]
    refine finBq rfl (List.all_eq_true.2 (take_full hpi (by omega))).symm
end Go.Proofs.Ytipcmpkihhfhcaa
