import Derived.Test.YtipcmpkihhfhcaaCtor1
import Derived.Test.YtipcmpkihhfhcaaIdent
namespace Go.Proofs.Ytipcmpkihhfhcaa
open Go.Abs
set_option maxRecDepth 20000
set_option linter.unusedSimpArgs false
set_option linter.unusedVariables false
set_option maxHeartbeats 1000000
attribute [local irreducible] vc vcOps vcStep vcGuard prK hrK gK gsK brK callK ElemK SeqK BlockK ScopeK OpsK CallK LoopK LoopGo finPost ACall PCall PCallE BCall vqOps vqStep vqGuard qrK heK pcK gqK gqsK QOpsK qcallK DrawK
def NoC (L : List DEnum) (nm : ByteArray) (i k : Nat) : Prop := (∀ (i' : Nat) e, i' < i → L[i']? = some e → nm ∉ e.Ctors) ∧ ∀ e, L[i]? = some e → nm ∉ e.Ctors.take k
def CtorIs (L : List DEnum) (nm : ByteArray) (a b : Int) (ok : Bool) : Prop := (ok = true ∧ ∃ (i k : Nat) (e : DEnum), a = i ∧ b = k ∧ L[i]? = some e ∧ e.Ctors[k]? = some nm ∧ NoC L nm i k) ∨ (ok = false ∧ a = 0 ∧ b = 0 ∧ ∀ e ∈ L, nm ∉ e.Ctors)
theorem NoC.zero {L : List DEnum} {nm : ByteArray} : NoC L nm 0 0 := ⟨fun i' e h => by omega, fun e _ => by simp⟩
theorem NoC.next {L : List DEnum} {nm c : ByteArray} {i k : Nat} {e : DEnum} (h : NoC L nm i k) (he : L[i]? = some e) (hc : e.Ctors[k]? = some c) (hne : ¬ c = nm) : NoC L nm i (k + 1) := by
  refine ⟨h.1, fun e' he' => ?_⟩
  rw [he] at he'
  cases he'
  obtain ⟨hk, rfl⟩ := List.getElem?_eq_some_iff.1 hc
  rw [List.take_succ_eq_append_getElem hk]
  intro hm
  rcases List.mem_append.1 hm with q | q
  · exact h.2 e he q
  · simp at q; exact hne q.symm
theorem NoC.row {L : List DEnum} {nm : ByteArray} {i : Nat} {e : DEnum} (he : L[i]? = some e) (h : NoC L nm i e.Ctors.length) : NoC L nm (i + 1) 0 := by
  refine ⟨fun i' e' hi he' => ?_, fun e' _ => by simp⟩
  by_cases q : i' = i
  · subst q
    rw [he] at he'
    cases he'
    have := h.2 e he
    rwa [List.take_length] at this
  · exact h.1 i' e' (by omega) he'
theorem NoC.none_ {L : List DEnum} {nm : ByteArray} (h : NoC L nm L.length 0) : ∀ e ∈ L, nm ∉ e.Ctors := fun e he => by
  obtain ⟨i, hi, rfl⟩ := List.getElem_of_mem he
  exact h.1 i _ hi (List.getElem?_eq_getElem hi)
abbrev HC (L : List DEnum) (nm : ByteArray) (a b : Int) (ok : Bool) (B : Blk) (r : List Blk) : List Blk :=
  .cells 9 [.s nm] :: .cells 3 [.i a] :: .cells 3 [.i b] :: .cells 4 [.b ok] :: .cells 22 [.lst 2 (L.map DEnum.enc) none] :: B :: r

theorem ctor_range {L : List DEnum} {nm : ByteArray} {ps : Array Tmp} {x y : Code} {s : List AV} {l : Nat} {Q : Post} (hps : ps.size = 2) (hx : noR x = true) (hy : noR y = true)
    (hbody : ∀ (i k : Nat) (e : DEnum) (c : ByteArray) (r : List Blk) (K : AV → List Blk → Prop), L[i]? = some e → e.Ctors[k]? = some c → (¬ c = nm → ∀ r', K (.b true) (HC L nm 0 0 false (.lp l .ready none ps x y s) r')) →
      (c = nm → ∀ r', K (.b false) (HC L nm i k true (.lp l .done (some .ret) ps x y s) r')) → vc Try.prog ti x (roundA Try.prog ti l 5 ps x y s K) (setPs s ps.toList [.agg [.i (i : Int), .i (k : Int)], .s c]) (HC L nm 0 0 false (.lp l .ready none ps x y s) r))
    (hn : ∀ r, (∀ e ∈ L, nm ∉ e.Ctors) → Q .normal s (HC L nm 0 0 false .dead r))
    (hr : ∀ (i k : Nat) (e : DEnum) r, L[i]? = some e → e.Ctors[k]? = some nm → NoC L nm i k → Q .ret s (HC L nm i k true .dead r)) :
    ACall Try.prog 69 [.fn (.yield l) [] [], .ptr 4 0] (HC L nm 0 0 false (.lp l .ready none ps x y s) []) (fun _ h' => loopEnd Q s 5 h') := by
  refine ctors155 L l 4 (fun i k h => ∃ r, NoC L nm i k ∧ h = HC L nm 0 0 false (.lp l .ready none ps x y s) r) (fun h => ∃ (i k : Nat) (e : DEnum) (r : List Blk), L[i]? = some e ∧ e.Ctors[k]? = some nm ∧ NoC L nm i k ∧ h = HC L nm i k true (.lp l .done (some .ret) ps x y s) r) ?_ ?_ ?_ ?_ ⟨[], NoC.zero, rfl⟩ ?_ ?_
  · rintro i k h ⟨r, _, rfl⟩; rfl
  · rintro i k h r' ⟨r, hN, rfl⟩; exact ⟨r ++ r', hN, rfl⟩
  · rintro i e h he ⟨r, hN, rfl⟩; exact ⟨r, hN.row he, rfl⟩
  · rintro i k e c h he hc ⟨r, hN, rfl⟩ K hK1 hK2
    exact ycall_of_vc tabOK rfl (by simp [hps]) hx hy (hbody i k e c r K he hc (fun hne r' => hK1 _ ⟨r', hN.next he hc hne, rfl⟩) (fun heq r' => hK2 _ ⟨i, k, e, r', he, heq ▸ hc, hN, rfl⟩))
  · rintro h' ⟨r, hN, rfl⟩; exact hn r hN.none_
  · rintro h' ⟨i, k, e, r, he, hc, hN, rfl⟩; exact hr i k e r he hc hN

abbrev trC : Tr := (.two 0 (.two 1 (.two 2 (.two 3 (.one 4 (.one 5 (.one 6 .nil))) 4 (.one 3 (.one 5 (.one 6 .nil)))) 4 (.one 2 (.one 3 (.one 5 (.one 6 .nil))))) 2 (.two 1 (.two 3 (.one 4 (.one 5 (.one 6 .nil))) 4 (.one 3 (.one 5 (.one 6 .nil)))) 3 (.one 1 (.one 4 (.one 5 (.one 6 .nil)))))) 2 (.two 0 (.two 1 (.two 3 (.one 4 (.one 5 (.one 6 .nil))) 4 (.one 3 (.one 5 (.one 6 .nil)))) 3 (.one 1 (.one 4 (.one 5 (.one 6 .nil))))) 3 (.one 0 (.one 1 (.one 4 (.one 5 (.one 6 .nil)))))))
theorem n64 : (Try.f64.name == "runtime.NumGoroutine") = false := by kernel_rfl
theorem ctor153 (L : List DEnum) (nm : ByteArray) : PCallE Try.prog 64 [.lst 2 (L.map DEnum.enc) none, .s nm] (fun r => ∃ (a b : Int) (ok : Bool), r = .tup [.i a, .i b, .b ok] ∧ CtorIs L nm a b ok) := by
  refine pcallE_of_vc tabOK Try.func64 n64 rfl (by repeat' first | exact pure_nil | refine pure_cons ?_ ?_ | exact .raw _ | exact pure_enc _ | exact pure_lst _ | exact pure_strs _ | exact pure_ints _ | exact DTy.pure _ | exact DTy.pures _ | exact DEnum.pure _ | exact DEnum.pures _ | exact DDecl.pure _ | exact DDecl.pures _ | exact DEq.pure _ | exact DEq.pures _ | exact DNode.pure _ | exact DNode.pures _ | exact DProg.pure _ | exact DProg.pures _ | exact DCond.pure _ | exact DCond.pures _ | exact DAtom.pure _ | exact DAtom.pures _ | exact DPlain.pure _ | exact DPlain.pures _ | exact DVar.pure _ | exact DVar.pures _ | exact DFlow.pure _ | exact DFlow.pures _ | exact DFlows.pure _ | exact DFlows.pures _ | exact DAsked.pure _ | exact DAsked.pures _ | exact DFault.pure _ | exact DFault.pures _ | exact DCell.pure _ | exact DCell.pures _ | exact DReply.pure _ | exact DReply.pures _ | exact DAsk.pure _ | exact DAsk.pures _ | exact DOp.pure _ | exact DOp.pures _ | exact pure_list (fun x => DDecl.pures x) _ | exact .fn _ _ _ pure_nil pure_nil | refine .agg _ ?_ | refine .tup _ ?_ | assumption) (n := 20) rfl (rs := [.cell 4 3, .cell 5 3, .cell 6 4]) rfl ?_
  simp only [go_sem, Nat.reduceAdd, Nat.reduceSub, Nat.reduceMul, Nat.reduceLT, Nat.reduceLeDiff, Nat.reduceEqDiff, Nat.reduceBEq, Nat.reduceBNe, Nat.reducePow, Int.reduceEq, Int.reduceNe, Int.reduceLT, Int.reduceLE, Int.reduceGT, Int.reduceGE, Int.reduceAdd, Int.reduceSub, Int.reduceNeg, Int.reduceMul, not_true_eq_false, not_false_eq_true, true_and, and_true, Int.reduceToNat]
  refine ctors154 L ?_
  simp only [go_sem, Nat.reduceAdd, Nat.reduceSub, Nat.reduceMul, Nat.reduceLT, Nat.reduceLeDiff, Nat.reduceEqDiff, Nat.reduceBEq, Nat.reduceBNe, Nat.reducePow, Int.reduceEq, Int.reduceNe, Int.reduceLT, Int.reduceLE, Int.reduceGT, Int.reduceGE, Int.reduceAdd, Int.reduceSub, Int.reduceNeg, Int.reduceMul, not_true_eq_false, not_false_eq_true, true_and, and_true, Int.reduceToNat]
  intro l
  refine ctor_range rfl rfl rfl (fun i k e c r K he hc hK1 hK2 => ?_) (fun r hno => ?_) (fun i k e r he hc hN => ?_)
  · simp only [go_sem, Nat.reduceAdd, Nat.reduceSub, Nat.reduceMul, Nat.reduceLT, Nat.reduceLeDiff, Nat.reduceEqDiff, Nat.reduceBEq, Nat.reduceBNe, Nat.reducePow, Int.reduceEq, Int.reduceNe, Int.reduceLT, Int.reduceLE, Int.reduceGT, Int.reduceGE, Int.reduceAdd, Int.reduceSub, Int.reduceNeg, Int.reduceMul, not_true_eq_false, not_false_eq_true, true_and, and_true, Int.reduceToNat, setPs, roundA]
    refine brK_dec (fun hq => ?_) (fun hq => ?_)
    · simp only [go_sem, Nat.reduceAdd, Nat.reduceSub, Nat.reduceMul, Nat.reduceLT, Nat.reduceLeDiff, Nat.reduceEqDiff, Nat.reduceBEq, Nat.reduceBNe, Nat.reducePow, Int.reduceEq, Int.reduceNe, Int.reduceLT, Int.reduceLE, Int.reduceGT, Int.reduceGE, Int.reduceAdd, Int.reduceSub, Int.reduceNeg, Int.reduceMul, not_true_eq_false, not_false_eq_true, true_and, and_true, Int.reduceToNat]
      refine drawV trC mo (by kernel_rfl) ?_
      repeat' first
        | exact hK2 hq _
        | exact ⟨rfl, hK2 hq _⟩
        | simp only [go_sem, Nat.reduceAdd, Nat.reduceSub, Nat.reduceMul, Nat.reduceLT, Nat.reduceLeDiff, Nat.reduceEqDiff, Nat.reduceBEq, Nat.reduceBNe, Nat.reducePow, Int.reduceEq, Int.reduceNe, Int.reduceLT, Int.reduceLE, Int.reduceGT, Int.reduceGE, Int.reduceAdd, Int.reduceSub, Int.reduceNeg, Int.reduceMul, not_true_eq_false, not_false_eq_true, true_and, and_true, Int.reduceToNat, roundB]
        | refine ⟨by omega, ?_⟩
        | refine ⟨?_, ?_⟩
    · simp only [go_sem, Nat.reduceAdd, Nat.reduceSub, Nat.reduceMul, Nat.reduceLT, Nat.reduceLeDiff, Nat.reduceEqDiff, Nat.reduceBEq, Nat.reduceBNe, Nat.reducePow, Int.reduceEq, Int.reduceNe, Int.reduceLT, Int.reduceLE, Int.reduceGT, Int.reduceGE, Int.reduceAdd, Int.reduceSub, Int.reduceNeg, Int.reduceMul, not_true_eq_false, not_false_eq_true, true_and, and_true, Int.reduceToNat, roundB]
      first | exact hK1 hq _ | exact ⟨rfl, hK1 hq _⟩
  · simp only [go_sem, Nat.reduceAdd, Nat.reduceSub, Nat.reduceMul, Nat.reduceLT, Nat.reduceLeDiff, Nat.reduceEqDiff, Nat.reduceBEq, Nat.reduceBNe, Nat.reducePow, Int.reduceEq, Int.reduceNe, Int.reduceLT, Int.reduceLE, Int.reduceGT, Int.reduceGE, Int.reduceAdd, Int.reduceSub, Int.reduceNeg, Int.reduceMul, not_true_eq_false, not_false_eq_true, true_and, and_true, Int.reduceToNat]
    exact ⟨_, rfl, false, _, .refl _, .tup _ (pure_cons (.raw _) (pure_cons (.raw _) (pure_cons (.raw _) pure_nil))), 0, 0, false, rfl, .inr ⟨rfl, rfl, rfl, hno⟩⟩
  · simp only [go_sem, Nat.reduceAdd, Nat.reduceSub, Nat.reduceMul, Nat.reduceLT, Nat.reduceLeDiff, Nat.reduceEqDiff, Nat.reduceBEq, Nat.reduceBNe, Nat.reducePow, Int.reduceEq, Int.reduceNe, Int.reduceLT, Int.reduceLE, Int.reduceGT, Int.reduceGE, Int.reduceAdd, Int.reduceSub, Int.reduceNeg, Int.reduceMul, not_true_eq_false, not_false_eq_true, true_and, and_true, Int.reduceToNat]
    exact ⟨_, rfl, false, _, .refl _, .tup _ (pure_cons (.raw _) (pure_cons (.raw _) (pure_cons (.raw _) pure_nil))), _, _, true, rfl, .inl ⟨rfl, i, k, e, rfl, rfl, he, hc, hN⟩⟩
end Go.Proofs.Ytipcmpkihhfhcaa
