import Derived.Test.YtipcmpkihhfhcaaDoorWalk
import Derived.Test.YtipcmpkihhfhcaaDoorIdX
namespace Go.Proofs.YtipcmpkihhfhcaaDoor
open Go.Abs
set_option maxRecDepth 20000
set_option linter.unusedSimpArgs false
set_option linter.unusedVariables false
set_option maxHeartbeats 1000000
attribute [local irreducible] vc vcOps vcStep vcGuard prK hrK gK gsK brK callK ElemK SeqK BlockK ScopeK OpsK CallK LoopK LoopGo finPost ACall PCall PCallE BCall vqOps vqStep vqGuard qrK heK pcK gqK gqsK QOpsK qcallK DrawK
theorem acall_ghost {P : Program} {f : FuncId} {args args' : List AV} {h h' : List Blk} {K : AV → List Blk → Prop} (hg : Ghost args h args' h') (hc : ACall P f args' h' K) : ACall P f args h K := by
  unfold ACall Ghost at *
  intro S φ w vs hr ha
  obtain ⟨S1, φ1, k1, k2, k3⟩ := hg S φ w vs ha hr
  obtain ⟨h1, h2⟩ := hc S1 φ1 w vs k2 k1
  refine ⟨h1, Calls.mono h2 ?_⟩
  rintro e w' ⟨v, r, hh, S', φ', e1, e2, e3, e4, e5⟩
  exact ⟨v, r, hh, S', φ', e1, e2, e3, e4, k3.trans e5⟩
/-- A range over the parts of an expression. H: what lies ahead of the loop's record behind so many rounds, G: behind it; Inv: what holds then; Hs: where a round has returned. -/
theorem each_range (e : Ex) {ps : Array Tmp} {x y : Code} {s : List AV} {l : Nat} {Q : Post} (m k g : Nat) (Inv : Nat → Prop) (H G : Nat → List Blk) (Hs : List Blk → Prop) (hH : ∀ n, (H n).length = m) (hG : ∀ n, (G n).length = g) (hHs : ∀ h, Hs h → h.length = m) (hk : (H 0)[k]? = some (exBx e)) (hps : ps.size = 1) (hx : noR x = true) (hy : noR y = true) (h0 : Inv 0)
    (hbody : ∀ (n : Nat) (z : Ex) (r : List Blk) (K : AV → List Blk → Prop), (parts e)[n]? = some z → Inv n → (Inv (n + 1) → ∀ r', K (.b true) (H (n + 1) ++ (.lp l .ready none ps x y s :: (G (n + 1) ++ (r ++ r'))))) → (∀ h' r', Hs h' → K (.b false) (h' ++ (.lp l .done (some .ret) ps x y s :: (G n ++ (r ++ r'))))) →
      vc Tryd.prog ti x (roundA Tryd.prog ti l m ps x y s K) (setPs s ps.toList [z.enc]) (H n ++ (.lp l .ready none ps x y s :: (G n ++ r))))
    (hn : ∀ r, Inv (parts e).length → Q .normal s (H (parts e).length ++ (.dead :: (G (parts e).length ++ r)))) (hr : ∀ n h' r, Hs h' → Q .ret s (h' ++ (.dead :: (G n ++ r)))) :
    ACall Tryd.prog 22 [.fn (.yield l) [] [], .ptr k 0] (H 0 ++ (.lp l .ready none ps x y s :: G 0)) (fun _ h' => loopEnd Q s m h') := by
  refine each52 e l (m + 1 + g) (fun n h => Inv n ∧ h = H n ++ (.lp l .ready none ps x y s :: G n)) (fun h => ∃ n h', Hs h' ∧ h = h' ++ (.lp l .done (some .ret) ps x y s :: G n)) ?_ ?_ ?_ ?_ ⟨h0, rfl⟩ ?_ ?_
  · rintro n h ⟨_, rfl⟩; simp [hH, hG]; omega
  · rintro h ⟨n, h', hs, rfl⟩; simp [hHs h' hs, hG]; omega
  · rintro n z h r K hz ⟨hi, rfl⟩ hK1 hK2
    rw [List.append_assoc, List.cons_append]
    refine ycall_of_vc tabOK (k := m) (ps := ps) (x := x) (y := y) (s := s) ?_ (by simp [hps]) hx hy (hbody n z r K hz hi (fun hi' r' => ?_) (fun h' r' hs => ?_))
    · rw [List.getElem?_append_right (by rw [hH]; exact Nat.le_refl _), hH, Nat.sub_self]; rfl
    · have := hK1 _ r' ⟨hi', rfl⟩
      rwa [List.append_assoc, List.cons_append] at this
    · have := hK2 _ r' ⟨n, h', hs, rfl⟩
      rwa [List.append_assoc, List.cons_append] at this
  · rw [List.getElem?_append_left (List.getElem?_eq_some_iff.1 hk).1]; exact hk
  · rintro h' r' ⟨hi, rfl⟩
    have e1 : ((H (parts e).length ++ (Blk.lp l .ready none ps x y s :: G (parts e).length)) ++ r')[m]? = some (.lp l .ready none ps x y s) := by
      rw [List.append_assoc, List.getElem?_append_right (by rw [hH]; exact Nat.le_refl _), hH, Nat.sub_self]; rfl
    have e2 : ((H (parts e).length ++ (Blk.lp l .ready none ps x y s :: G (parts e).length)) ++ r').set m .dead = H (parts e).length ++ (.dead :: (G (parts e).length ++ r')) := by
      rw [List.append_assoc, List.set_append_right _ _ (by rw [hH]; exact Nat.le_refl _), hH, Nat.sub_self]; rfl
    unfold loopEnd
    rw [e1, e2]
    exact hn r' hi
  · rintro h r' ⟨n, h', hs, rfl⟩
    have e1 : ((h' ++ (Blk.lp l .done (some .ret) ps x y s :: G n)) ++ r')[m]? = some (.lp l .done (some .ret) ps x y s) := by
      rw [List.append_assoc, List.getElem?_append_right (by rw [hHs h' hs]; exact Nat.le_refl _), hHs h' hs, Nat.sub_self]; rfl
    have e2 : ((h' ++ (Blk.lp l .done (some .ret) ps x y s :: G n)) ++ r').set m .dead = h' ++ (.dead :: (G n ++ r')) := by
      rw [List.append_assoc, List.set_append_right _ _ (by rw [hHs h' hs]; exact Nat.le_refl _), hHs h' hs, Nat.sub_self]; rfl
    unfold loopEnd
    rw [e1, e2]
    exact hr n h' r' hs

theorem n18 : (Tryd.f18.name == "runtime.NumGoroutine") = false := by kernel_rfl
theorem size20 (e : Ex) (hb : (parts e).length ≤ 100000) : PCall Tryd.prog 18 [e.enc] (.i ((parts e).length : Nat)) := by
  refine pcall_of_vc tabOK Tryd.func18 n18 rfl (by repeat' first | exact pure_nil | refine pure_cons ?_ ?_ | exact .raw _ | exact pure_enc _ | exact pure_lst _ | exact pure_strs _ | exact pure_ints _ | exact DTy.pure _ | exact DTy.pures _ | exact DEnum.pure _ | exact DEnum.pures _ | exact DDecl.pure _ | exact DDecl.pures _ | exact DEq.pure _ | exact DEq.pures _ | exact DNode.pure _ | exact DNode.pures _ | exact DProg.pure _ | exact DProg.pures _ | exact DCond.pure _ | exact DCond.pures _ | exact DAtom.pure _ | exact DAtom.pures _ | exact DPlain.pure _ | exact DPlain.pures _ | exact DVar.pure _ | exact DVar.pures _ | exact DFlow.pure _ | exact DFlow.pures _ | exact DFlows.pure _ | exact DFlows.pures _ | exact DAsked.pure _ | exact DAsked.pures _ | exact DFault.pure _ | exact DFault.pures _ | exact DCell.pure _ | exact DCell.pures _ | exact DReply.pure _ | exact DReply.pures _ | exact DAsk.pure _ | exact DAsk.pures _ | exact DOp.pure _ | exact DOp.pures _ | exact pure_list (fun x => DDecl.pures x) _ | exact .fn _ _ _ pure_nil pure_nil | refine .agg _ ?_ | refine .tup _ ?_ | assumption) (by repeat' first | exact pure_nil | refine pure_cons ?_ ?_ | exact .raw _ | exact pure_enc _ | exact pure_lst _ | exact pure_strs _ | exact pure_ints _ | exact DTy.pure _ | exact DTy.pures _ | exact DEnum.pure _ | exact DEnum.pures _ | exact DDecl.pure _ | exact DDecl.pures _ | exact DEq.pure _ | exact DEq.pures _ | exact DNode.pure _ | exact DNode.pures _ | exact DProg.pure _ | exact DProg.pures _ | exact DCond.pure _ | exact DCond.pures _ | exact DAtom.pure _ | exact DAtom.pures _ | exact DPlain.pure _ | exact DPlain.pures _ | exact DVar.pure _ | exact DVar.pures _ | exact DFlow.pure _ | exact DFlow.pures _ | exact DFlows.pure _ | exact DFlows.pures _ | exact DAsked.pure _ | exact DAsked.pures _ | exact DFault.pure _ | exact DFault.pures _ | exact DCell.pure _ | exact DCell.pures _ | exact DReply.pure _ | exact DReply.pures _ | exact DAsk.pure _ | exact DAsk.pures _ | exact DOp.pure _ | exact DOp.pures _ | exact pure_list (fun x => DDecl.pures x) _ | exact .fn _ _ _ pure_nil pure_nil | refine .agg _ ?_ | refine .tup _ ?_ | assumption) (n := 10) rfl (rs := [.tmp 2]) rfl ?_
  simp only [go_sem, Nat.reduceAdd, Nat.reduceSub, Nat.reduceMul, Nat.reduceLT, Nat.reduceLeDiff, Nat.reduceEqDiff, Nat.reduceBEq, Nat.reduceBNe, Nat.reducePow, Int.reduceEq, Int.reduceNe, Int.reduceLT, Int.reduceLE, Int.reduceGT, Int.reduceGE, Int.reduceAdd, Int.reduceSub, Int.reduceNeg, Int.reduceMul, not_true_eq_false, not_false_eq_true, true_and, and_true, Int.reduceToNat]
  refine each28 e ?_
  simp only [go_sem, Nat.reduceAdd, Nat.reduceSub, Nat.reduceMul, Nat.reduceLT, Nat.reduceLeDiff, Nat.reduceEqDiff, Nat.reduceBEq, Nat.reduceBNe, Nat.reducePow, Int.reduceEq, Int.reduceNe, Int.reduceLT, Int.reduceLE, Int.reduceGT, Int.reduceGE, Int.reduceAdd, Int.reduceSub, Int.reduceNeg, Int.reduceMul, not_true_eq_false, not_false_eq_true, true_and, and_true, Int.reduceToNat]
  intro l
  refine each_range e 3 2 0 (fun _ => True) (fun n => [exBx e, .cells 3 [.i (n : Nat)], exBx e]) (fun _ => []) (fun _ => False) (fun _ => rfl) (fun _ => rfl) (fun _ h => h.elim) rfl rfl rfl rfl trivial (fun n z r K hz _ hK1 _ => ?_) (fun r _ => ?_) (fun _ _ _ h => h.elim)
  · have hn := (List.getElem?_eq_some_iff.1 hz).1
    simp only [go_sem, Nat.reduceAdd, Nat.reduceSub, Nat.reduceMul, Nat.reduceLT, Nat.reduceLeDiff, Nat.reduceEqDiff, Nat.reduceBEq, Nat.reduceBNe, Nat.reducePow, Int.reduceEq, Int.reduceNe, Int.reduceLT, Int.reduceLE, Int.reduceGT, Int.reduceGE, Int.reduceAdd, Int.reduceSub, Int.reduceNeg, Int.reduceMul, not_true_eq_false, not_false_eq_true, true_and, and_true, Int.reduceToNat, setPs, roundA]
    try refine ⟨rfl, ?_⟩
    try simp only [go_sem, Nat.reduceAdd, Nat.reduceSub, Nat.reduceMul, Nat.reduceLT, Nat.reduceLeDiff, Nat.reduceEqDiff, Nat.reduceBEq, Nat.reduceBNe, Nat.reducePow, Int.reduceEq, Int.reduceNe, Int.reduceLT, Int.reduceLE, Int.reduceGT, Int.reduceGE, Int.reduceAdd, Int.reduceSub, Int.reduceNeg, Int.reduceMul, not_true_eq_false, not_false_eq_true, true_and, and_true, Int.reduceToNat, roundB]
    have := hK1 trivial []
    rw [wrap_in _ (by omega) (by omega)]
    simpa using this
  · simp only [go_sem, Nat.reduceAdd, Nat.reduceSub, Nat.reduceMul, Nat.reduceLT, Nat.reduceLeDiff, Nat.reduceEqDiff, Nat.reduceBEq, Nat.reduceBNe, Nat.reducePow, Int.reduceEq, Int.reduceNe, Int.reduceLT, Int.reduceLE, Int.reduceGT, Int.reduceGE, Int.reduceAdd, Int.reduceSub, Int.reduceNeg, Int.reduceMul, not_true_eq_false, not_false_eq_true, true_and, and_true, Int.reduceToNat]
    exact ⟨_, rfl, false, .refl _⟩
end Go.Proofs.YtipcmpkihhfhcaaDoor
