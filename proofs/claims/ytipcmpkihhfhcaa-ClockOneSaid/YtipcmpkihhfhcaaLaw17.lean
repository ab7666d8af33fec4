import Derived.Test.YtipcmpkihhfhcaaFits5
import Derived.Test.YtipcmpkihhfhcaaFits9
import Derived.Test.YtipcmpkihhfhcaaSmallPr
namespace Go.Proofs.Ytipcmpkihhfhcaa
open Go.Abs
set_option maxRecDepth 20000
set_option linter.unusedSimpArgs false
set_option linter.unusedVariables false
set_option maxHeartbeats 1000000
attribute [local irreducible] vc vcOps vcStep vcGuard prK hrK gK gsK brK callK ElemK SeqK BlockK ScopeK OpsK CallK LoopK LoopGo finPost ACall PCall PCallE BCall vqOps vqStep vqGuard qrK heK pcK gqK gqsK QOpsK qcallK DrawK
abbrev live7C : DDecl := ⟨⟨#[99]⟩, ⟨2, 0, 0⟩, ⟨#[]⟩, ⟨#[]⟩⟩
abbrev live7H : DDecl := ⟨⟨#[104]⟩, ⟨1, 0, 0⟩, ⟨#[99]⟩, ⟨#[116, 114, 117, 101]⟩⟩
abbrev live7N : DNode := ⟨⟨#[102]⟩, [live7C], [], [live7H], []⟩
abbrev live7P : DProg := ⟨[], [live7N]⟩
theorem live7_row : rowF live7P 0 ⟨#[104]⟩ = ([⟨⟨#[99]⟩, 1⟩], true) := by
  have h : clock live7N ⟨#[104]⟩ = ([live7H], true) := by decide +kernel
  show rowN [] live7N ⟨#[104]⟩ = _
  unfold rowN
  rw [h, if_pos rfl, rowL_yes (by intro d hd; rw [List.mem_singleton.1 hd]; rfl)]
  rfl
theorem weak7 (a b c : Nat) : Weak (.agg [.raw (.slice none 0 0), .lst 5 [.agg [.s ⟨#[102]⟩, .lst 6 [.agg [.s ⟨#[99]⟩, .i 2, .i 0, .i 0, .s ⟨#[]⟩, .s ⟨#[]⟩]] (some a), .raw (.slice none 0 0), .lst 6 [.agg [.s ⟨#[104]⟩, .i 1, .i 0, .i 0, .s ⟨#[99]⟩, .s ⟨#[116, 114, 117, 101]⟩]] (some b), .raw (.slice none 0 0)]] (some c)]) live7P.enc := by
  rw [DProg.enc_eq]
  refine Weak.aggs ⟨.nil _, ?_, trivial⟩
  refine Weak.lsts (by simp) (by intro e he; obtain ⟨x, _, rfl⟩ := List.mem_map.1 he; rw [DNode.enc_cells]; rfl) ?_
  show WeakL _ (flat [live7N.enc])
  rw [DNode.enc_eq]
  exact ⟨.refl _, weak_tk (by simp [DDecl.enc_eq]), .nil _, weak_tk (by simp [DDecl.enc_eq]), .nil _, trivial⟩
theorem live7_ok : ∀ n ∈ live7P.Nodes, (allV n).length ≤ 4294967296 := by
  intro n hn
  rw [List.mem_singleton.1 hn]
  simp [allV]
theorem eql7 : structAV ti 63 .eql (.agg [.s ⟨#[99]⟩, .i 1]) (.agg [.raw (.string ⟨#[99]⟩), .raw (.int .i64 1)]) = .ok (.raw (.bool true)) := by
  have := eql_DCond ⟨⟨#[99]⟩, 1⟩ ⟨⟨#[99]⟩, 1⟩
  rw [DCond.enc_eq] at this
  simpa using this

theorem n9 : (Try.f9.name == "runtime.NumGoroutine") = false := by kernel_rfl
theorem live44  : PCall Try.prog 9 [] (.b true) := by
  refine pcall_of_vc tabOK Try.func9 n9 rfl (by repeat' first | exact pure_nil | refine pure_cons ?_ ?_ | exact .raw _ | exact pure_enc _ | exact pure_lst _ | exact pure_strs _ | exact pure_ints _ | exact DTy.pure _ | exact DTy.pures _ | exact DEnum.pure _ | exact DEnum.pures _ | exact DDecl.pure _ | exact DDecl.pures _ | exact DEq.pure _ | exact DEq.pures _ | exact DNode.pure _ | exact DNode.pures _ | exact DProg.pure _ | exact DProg.pures _ | exact DCond.pure _ | exact DCond.pures _ | exact DAtom.pure _ | exact DAtom.pures _ | exact DPlain.pure _ | exact DPlain.pures _ | exact DVar.pure _ | exact DVar.pures _ | exact DFlow.pure _ | exact DFlow.pures _ | exact DFlows.pure _ | exact DFlows.pures _ | exact DAsked.pure _ | exact DAsked.pures _ | exact DFault.pure _ | exact DFault.pures _ | exact DCell.pure _ | exact DCell.pures _ | exact DReply.pure _ | exact DReply.pures _ | exact DAsk.pure _ | exact DAsk.pures _ | exact DOp.pure _ | exact DOp.pures _ | exact pure_list (fun x => DDecl.pures x) _ | exact .fn _ _ _ pure_nil pure_nil | refine .agg _ ?_ | refine .tup _ ?_ | assumption) (by repeat' first | exact pure_nil | refine pure_cons ?_ ?_ | exact .raw _ | exact pure_enc _ | exact pure_lst _ | exact pure_strs _ | exact pure_ints _ | exact DTy.pure _ | exact DTy.pures _ | exact DEnum.pure _ | exact DEnum.pures _ | exact DDecl.pure _ | exact DDecl.pures _ | exact DEq.pure _ | exact DEq.pures _ | exact DNode.pure _ | exact DNode.pures _ | exact DProg.pure _ | exact DProg.pures _ | exact DCond.pure _ | exact DCond.pures _ | exact DAtom.pure _ | exact DAtom.pures _ | exact DPlain.pure _ | exact DPlain.pures _ | exact DVar.pure _ | exact DVar.pures _ | exact DFlow.pure _ | exact DFlow.pures _ | exact DFlows.pure _ | exact DFlows.pures _ | exact DAsked.pure _ | exact DAsked.pures _ | exact DFault.pure _ | exact DFault.pures _ | exact DCell.pure _ | exact DCell.pures _ | exact DReply.pure _ | exact DReply.pures _ | exact DAsk.pure _ | exact DAsk.pures _ | exact DOp.pure _ | exact DOp.pures _ | exact pure_list (fun x => DDecl.pures x) _ | exact .fn _ _ _ pure_nil pure_nil | refine .agg _ ?_ | refine .tup _ ?_ | assumption) (n := 31) rfl (rs := [.tmp 0]) rfl ?_
  simp only [go_sem, Nat.reduceAdd, Nat.reduceSub, Nat.reduceMul, Nat.reduceLT, Nat.reduceLeDiff, Nat.reduceEqDiff, Nat.reduceBEq, Nat.reduceBNe, Nat.reducePow, Int.reduceEq, Int.reduceNe, Int.reduceLT, Int.reduceLE, Int.reduceGT, Int.reduceGE, Int.reduceAdd, Int.reduceSub, Int.reduceNeg, Int.reduceMul, not_true_eq_false, not_false_eq_true, true_and, and_true, Int.reduceToNat]
  refine PCall.callW (row45 live7P 0 ⟨#[104]⟩ live7_ok) ⟨weak7 _ _ _, .refl _, .refl _, trivial⟩ ?_
  rw [live7_row]
  repeat' first
    | exact finB rfl
    | exact finI rfl
    | exact finP rfl
    | exact absurd rfl (by assumption)
    | simp only [go_sem, Nat.reduceAdd, Nat.reduceSub, Nat.reduceMul, Nat.reduceLT, Nat.reduceLeDiff, Nat.reduceEqDiff, Nat.reduceBEq, Nat.reduceBNe, Nat.reducePow, Int.reduceEq, Int.reduceNe, Int.reduceLT, Int.reduceLE, Int.reduceGT, Int.reduceGE, Int.reduceAdd, Int.reduceSub, Int.reduceNeg, Int.reduceMul, not_true_eq_false, not_false_eq_true, true_and, and_true, Int.reduceToNat]
    | (intro _)
    | refine brK_dec (fun _ => ?_) (fun _ => ?_)
    | refine brK_any ?_ ?_
    | refine gK_dec (fun _ => ?_) (fun _ => ?_)
    | refine gK_any ?_ ?_
    | refine gqK_dec (fun _ => ?_) (fun _ => ?_)
    | refine ⟨by omega, ?_⟩
    | refine elemHave (by omega) (by assumption) ?_
    | refine elemMap (by omega) (by omega) (fun x hx => ?_)
    | refine drawK mo (by kernel_rfl) ?_
    | (refine elemK _ (by omega) rfl ?_)
    | (rw [eql7])
    | (exact absurd rfl (by assumption))
    | (exact finBq rfl (by simp))
theorem allV_le7 {p : DProg} (h : okProg p) : ∀ n ∈ p.Nodes, (allV n).length ≤ 4294967296 := by
  intro n hn
  have h := h.2.2 n hn
  have h1 := h.1.1
  have h2 := h.2.1.1
  have h3 := h.2.2.1.1
  simp [allV]
  omega
noncomputable def fitsN (p : DProg) (k : Int) (e : Ex) (on : List DCond) : Bool := match nodeAt p k with | some n => fitsF (rowN p.Enums n) p.Enums e on | none => false
theorem fits48x (p : DProg) (k : Int) (hl : ∀ n ∈ p.Nodes, (allV n).length ≤ 4294967296) (e : Ex) (on : List DCond) (hb : on.length + 14 * (parts e).length ≤ 100000) : PCall Try.prog 10 [p.enc, .i k, e.enc, .lst 2 (on.map DCond.enc) none] (.b (fitsN p k e on)) := by
  unfold fitsN
  cases hn : nodeAt p k with
  | none => exact fits48no p k hn e on
  | some n =>
    obtain ⟨j, rfl, hj⟩ := nodeAt_some hn
    exact fits48 p j n hj (hl n (List.mem_of_getElem? hj)) e on hb
end Go.Proofs.Ytipcmpkihhfhcaa
