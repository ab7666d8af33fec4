/- For every input the law ClockOne returns true. No further condition. -/
import Derived.Test.YtipcmpkihhfhcaaRows
import Derived.Test.YtipcmpkihhfhcaaLaw17
import Derived.Test.YtipcmpkihhfhcaaOneA
import Derived.Test.YtipcmpkihhfhcaaOne1
import Derived.Test.YtipcmpkihhfhcaaCheckI
import Derived.ProofKit
namespace Go.Proofs.Ytipcmpkihhfhcaa
open Go.Abs
set_option maxRecDepth 20000
set_option linter.unusedSimpArgs false
set_option linter.unusedVariables false
set_option maxHeartbeats 1000000
attribute [local irreducible] vc vcOps vcStep vcGuard prK hrK gK gsK brK callK ElemK SeqK BlockK ScopeK OpsK CallK LoopK LoopGo finPost ACall PCall PCallE BCall vqOps vqStep vqGuard qrK heK pcK gqK gqsK QOpsK qcallK DrawK
open Go.ChangeShapes Go.WideShapes Go.ChangeAt Go.RowKit

theorem one_fits {p : DProg} {k : Int} {e : Ex} {a b : List DCond} (hv : decide (0 < (varsE (parts e)).length) = true) (hr : rightE e = true) (ha : fitsN p k e a = true) (hb : fitsN p k e b = true) : a = b := by
  unfold fitsN at ha hb
  cases hn : nodeAt p k with
  | none => rw [hn] at ha; cases ha
  | some n =>
    rw [hn] at ha hb
    refine one_plain e ?_ ?_ a b ha hb
    · unfold rightE at hr
      simp only [Bool.and_eq_true] at hr
      exact fun x hx => List.all_eq_true.1 hr.2 x hx
    · have h0 := of_decide_eq_true hv
      unfold varsE at h0
      rw [List.length_map] at h0
      obtain ⟨y, hy⟩ := List.exists_mem_of_length_pos h0
      exact ⟨y, (List.mem_filter.1 hy).1, (List.mem_filter.1 hy).2⟩
theorem n3 : (Try.f3.name == "runtime.NumGoroutine") = false := by kernel_rfl
theorem law12 (p : DProg) (e : Ex) (a b : List DCond) : PCall Try.prog 3 [p.enc, e.enc, .agg [.lst 2 (a.map DCond.enc) none, .lst 2 (b.map DCond.enc) none]] (.b true) := by
  refine pcall_of_vc tabOK Try.func3 n3 rfl (by repeat' first | exact pure_nil | refine pure_cons ?_ ?_ | exact .raw _ | exact pure_enc _ | exact pure_lst _ | exact pure_strs _ | exact pure_ints _ | exact DTy.pure _ | exact DTy.pures _ | exact DEnum.pure _ | exact DEnum.pures _ | exact DDecl.pure _ | exact DDecl.pures _ | exact DEq.pure _ | exact DEq.pures _ | exact DNode.pure _ | exact DNode.pures _ | exact DProg.pure _ | exact DProg.pures _ | exact DCond.pure _ | exact DCond.pures _ | exact DAtom.pure _ | exact DAtom.pures _ | exact DPlain.pure _ | exact DPlain.pures _ | exact DVar.pure _ | exact DVar.pures _ | exact DFlow.pure _ | exact DFlow.pures _ | exact DFlows.pure _ | exact DFlows.pures _ | exact DAsked.pure _ | exact DAsked.pures _ | exact DFault.pure _ | exact DFault.pures _ | exact DCell.pure _ | exact DCell.pures _ | exact DReply.pure _ | exact DReply.pures _ | exact DAsk.pure _ | exact DAsk.pures _ | exact DOp.pure _ | exact DOp.pures _ | exact pure_list (fun x => DDecl.pures x) _ | exact .fn _ _ _ pure_nil pure_nil | refine .agg _ ?_ | refine .tup _ ?_ | assumption) (by repeat' first | exact pure_nil | refine pure_cons ?_ ?_ | exact .raw _ | exact pure_enc _ | exact pure_lst _ | exact pure_strs _ | exact pure_ints _ | exact DTy.pure _ | exact DTy.pures _ | exact DEnum.pure _ | exact DEnum.pures _ | exact DDecl.pure _ | exact DDecl.pures _ | exact DEq.pure _ | exact DEq.pures _ | exact DNode.pure _ | exact DNode.pures _ | exact DProg.pure _ | exact DProg.pures _ | exact DCond.pure _ | exact DCond.pures _ | exact DAtom.pure _ | exact DAtom.pures _ | exact DPlain.pure _ | exact DPlain.pures _ | exact DVar.pure _ | exact DVar.pures _ | exact DFlow.pure _ | exact DFlow.pures _ | exact DFlows.pure _ | exact DFlows.pures _ | exact DAsked.pure _ | exact DAsked.pures _ | exact DFault.pure _ | exact DFault.pures _ | exact DCell.pure _ | exact DCell.pures _ | exact DReply.pure _ | exact DReply.pures _ | exact DAsk.pure _ | exact DAsk.pures _ | exact DOp.pure _ | exact DOp.pures _ | exact pure_list (fun x => DDecl.pures x) _ | exact .fn _ _ _ pure_nil pure_nil | refine .agg _ ?_ | refine .tup _ ?_ | assumption) (n := 74) rfl (rs := [.tmp 6]) rfl ?_
  repeat' first
    | exact finB rfl
    | exact finI rfl
    | exact finP rfl
    | exact absurd rfl (by assumption)
    | simp only [go_sem, Nat.reduceAdd, Nat.reduceSub, Nat.reduceMul, Nat.reduceLT, Nat.reduceLeDiff, Nat.reduceEqDiff, Nat.reduceBEq, Nat.reduceBNe, Nat.reducePow, Int.reduceEq, Int.reduceNe, Int.reduceLT, Int.reduceLE, Int.reduceGT, Int.reduceGE, Int.reduceAdd, Int.reduceSub, Int.reduceNeg, Int.reduceMul, not_true_eq_false, not_false_eq_true, true_and, and_true, Int.reduceToNat]
    | (intro _)
    | refine brK_dec (fun _ => ?_) (fun _ => ?_)
    | refine brK_split (fun hb_ => ?_) (fun hb_ => ?_)
    | refine gK_dec (fun _ => ?_) (fun _ => ?_)
    | refine gK_split (fun hb_ => ?_) (fun hb_ => ?_)
    | refine gqK_dec (fun _ => ?_) (fun _ => ?_)
    | refine ⟨by omega, ?_⟩
    | refine elemHave (by omega) (by assumption) ?_
    | refine elemMap (by omega) (by omega) (fun x hx => ?_)
    | refine drawK mo (by kernel_rfl) ?_
    | (refine PCall.call live44 ?_)
    | (exact absurd (one_fits hv hr hfa hfb) (eqB_f hs))
    | ((fail_if_success (clear hb)); refine PCallE.call (small_p _) (fun r hr => ?_); obtain ⟨b, rfl, hb⟩ := hr; cases b <;> (try replace hb := hb rfl))
    | ((fail_if_success (clear he)); refine PCallE.call (small_e _) (fun r hr => ?_); obtain ⟨b, rfl, he⟩ := hr; cases b <;> (try replace he := he rfl))
    | (refine PCall.call (named50 e (by have := he.1; omega)) ?_; generalize hv : decide (0 < (varsE (parts e)).length) = v; cases v)
    | (refine PCallE.call (check_i p hb) (fun r hc => ?_); obtain ⟨n, rfl⟩ := hc)
    | (refine PCall.call (right17x e he) ?_; generalize hr : rightE e = q; cases q)
    | (have hsz := he.1; refine PCall.call (fits48x p _ (allV_le7 hb) e a (by omega)) ?_; generalize hfa : fitsN p _ e a = q; cases q)
    | (have hsz := he.1; refine PCall.call (fits48x p _ (allV_le7 hb) e b (by omega)) ?_; generalize hfb : fitsN p _ e b = q; cases q)
    | (refine PCall.call (sameCs a b) ?_; generalize hs : eqB a b = q; cases q)
    | exact loopFrH _ (by omega) ⟨i + 1, by omega, rfl, rfl⟩ (.next rfl (by omega) .nil) rfl
    | (refine loop_frH [6, 7, 44, 45, 46, 47, 48, 49, 50, 51, 52, 53, 54, 55, 56, 57, 58, 59, 60, 61, 62, 63, 64, 65, 66, 67, 68, 69, 70, 71, 72] (fun mm_ CC_ => ∃ (i : Nat), i ≤ p.Nodes.length ∧ mm_ = p.Nodes.length - i ∧ CC_ = [(7, .raw (.int .i64 ((i : Nat) : Int)))]) (p.Nodes.length) _ ⟨0, by omega, by omega, rfl⟩ (.cons rfl .nil) ?_; rintro mm_ CC_ ji ⟨i, hi, rfl, rfl⟩)
theorem law12_ty (xs : List AV) (h : TyAll ti Try.f3.params.toList xs) : PCall Try.prog 3 xs (.raw (.bool true)) := by
  obtain ⟨n, a, r, rfl, ha, n', a', r', rfl, ha', n'', a'', r'', rfl, ha'', rfl⟩ := h
  obtain ⟨p, hp, _⟩ := ty_DProg ha
  rw [show mkT (ti 25) a = p.enc from hp]
  obtain ⟨e, he, _⟩ := ty_ex ha'
  rw [show mkT (ti 29) a' = e.enc from he]
  cases n'' with
  | zero => exact ha''.elim
  | succ n'' =>
    obtain ⟨es, rfl, h2, hes⟩ := (show ∃ es : List (List AV), a'' = es.flatten ∧ es.length = 2 ∧ ∀ x ∈ es, Ty ti n'' 30 x from ha'')
    match es, h2, hes with
    | [u, v], _, hes =>
      obtain ⟨l, rfl, _⟩ := tys_DCond (hes u (by simp))
      obtain ⟨m, rfl, _⟩ := tys_DCond (hes v (by simp))
      exact law12 p e l m
set_option maxRecDepth 100000 in
theorem lifted_clockOne (os : Os) (started : os.Started) (H : Type) (enc : TypeId × Value → H) :
    ReturnsInHanded {} Try.checked os 3 .any (Rows.clockOneSpec.pre6 enc Try.prog Try.f3 Rows.clockOneRow.domain false) (Rows.clockOneSpec.post enc Try.prog Try.f3 false true false false) := by
  refine returnsInHanded_of_change (C := Try.checked) (by kernel_rfl) started (by kernel_rfl) Try.func3
    (ChangeSpec.witness6 (enc := enc) (C := Try.checked) false ⟨#[], #[.agg #[.slice none 0 0, .slice none 0 0], .agg #[.int .i64 0, .int .i64 0, .string ⟨#[]⟩, .int .i64 0, .slice none 0 0, .slice none 0 0], .agg #[.slice none 0 0, .slice none 0 0]], []⟩ 40 (by kernel_rfl) (by kernel_rfl) (by kernel_rfl) (by kernel_rfl)) ?_
  intro W base args ds gs before hval hW hcnd _
  exact law_contract (ts := dataTypes) (tb := 4) tabOK dataClosed (by kernel_rfl) (by kernel_rfl) (by kernel_rfl) (by kernel_rfl) rfl (fun ds h => by exact match ds, h with | [d0, d1, d2], _ => ⟨rfl, rfl, rfl⟩) law12_ty W base args ds gs before hval hW

theorem clockOne_holds : Rows.ClockOneSaid :=
  OpenClaim.holds_of_wide 3 Try.f3 rfl rfl rfl rfl rfl rfl rfl ⟨rfl, rfl, rfl, rfl, rfl⟩ rfl rfl rfl rfl rfl (by kernel_rfl) Try.func3 (by kernel_rfl)
    (of_decide_eq_true (by kernel_rfl)) (by unfold Func.isWrapper; first | (rw [if_pos (by decide +kernel)]; kernel_rfl) | (rw [if_neg (by decide +kernel)]; exact ⟨rfl, rfl⟩))
    (fun os started H enc _ => lifted_clockOne os started H enc)
#print axioms clockOne_holds

end Go.Proofs.Ytipcmpkihhfhcaa
