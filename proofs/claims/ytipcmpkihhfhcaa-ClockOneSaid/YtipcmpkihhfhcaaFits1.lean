import Derived.Test.YtipcmpkihhfhcaaCtor4
import Derived.Test.YtipcmpkihhfhcaaClock
namespace Go.Proofs.Ytipcmpkihhfhcaa
open Go.Abs
set_option maxRecDepth 20000
set_option linter.unusedSimpArgs false
set_option linter.unusedVariables false
set_option maxHeartbeats 1000000
attribute [local irreducible] vc vcOps vcStep vcGuard prK hrK gK gsK brK callK ElemK SeqK BlockK ScopeK OpsK CallK LoopK LoopGo finPost ACall PCall PCallE BCall vqOps vqStep vqGuard qrK heK pcK gqK gqsK QOpsK qcallK DrawK
abbrev placeE (p : DProg) (k : Int) : AV := .agg [.lst 2 (p.Enums.map DEnum.enc) none, .lst 5 (p.Nodes.map DNode.enc) none, .i k]
theorem pure_place (p : DProg) (k : Int) : Go.Abs.Pure (placeE p k) := .agg _ (pure_cons (DEnum.pures _) (pure_cons (DNode.pures _) (pure_cons (.raw _) pure_nil)))
def condOf (L : List DEnum) (nm arm : ByteArray) : DCond := ⟨nm, (armF L arm).2.1⟩
def armOk (L : List DEnum) (arm : ByteArray) : Bool := (armF L arm).2.2
def rowL (L : List DEnum) (l : List DDecl) : List DCond × Bool := if l.all (fun d => armOk L d.Ctor) = true then (l.map (fun d => condOf L d.On d.Ctor), true) else ([], false)
def rowN (L : List DEnum) (n : DNode) (name : ByteArray) : List DCond × Bool := if (clock n name).2 = true then rowL L (clock n name).1 else ([], false)
def nodeAt (p : DProg) (k : Int) : Option DNode := if 0 ≤ k then p.Nodes[k.toNat]? else none
def rowF (p : DProg) (k : Int) (name : ByteArray) : List DCond × Bool := match nodeAt p k with | some n => rowN p.Enums n name | none => ([], false)
abbrev rowA (r : List DCond × Bool) : AV := .tup [.lst 2 (r.1.map DCond.enc) none, .b r.2]
theorem pure_rowA (r : List DCond × Bool) : Go.Abs.Pure (rowA r) := .tup _ (pure_cons (DCond.pures _) (pure_cons (.raw _) pure_nil))
abbrev condA (c : DCond) (ok : Bool) : AV := .tup [c.enc, .b ok]
theorem condA_mk (nm : ByteArray) (v : Int) (ok : Bool) : condA ⟨nm, v⟩ ok = .tup [.agg [.s nm, .i v], .b ok] := by
  show AV.tup [DCond.enc _, _] = _
  rw [DCond.enc_eq]
theorem pure_condA (c : DCond) (ok : Bool) : Go.Abs.Pure (condA c ok) := .tup _ (pure_cons (DCond.pure _) (pure_cons (.raw _) pure_nil))
theorem weak_norow : Weak (.tup [.raw (.slice none 0 0), .b false]) (rowA ([], false)) := Weak.tups ⟨.nil _, .refl _, trivial⟩

theorem isSome_getElem?_dec {α : Type} (l : List α) (i : Nat) : (l[i]?).isSome = decide (i < l.length) := by
  by_cases h : i < l.length
  · simp [h]
  · simp [h]
    try omega
theorem clk_len (n : DNode) : ∀ (k : Nat) (nm : ByteArray) (acc : List DDecl), (clk n k nm acc).1.length ≤ acc.length + k
  | 0, _, _ => by simp [clk]
  | k + 1, nm, acc => by
    rw [clk_succ]
    split
    · split
      · simp
      · have := clk_len n k (decl n nm).1.On ((decl n nm).1 :: acc)
        simp at this
        omega
    · simp
theorem clock_len (n : DNode) (nm : ByteArray) : (clock n nm).1.length ≤ 13 := by
  have := clk_len n 13 nm []
  simpa [clock] using this
theorem rowL_no {L : List DEnum} {l : List DDecl} {d : DDecl} (hd : d ∈ l) (h : armOk L d.Ctor = false) : rowL L l = ([], false) := by
  unfold rowL
  rw [if_neg]
  intro q
  have := List.all_eq_true.1 q d hd
  simp [h] at this
theorem rowL_yes {L : List DEnum} {l : List DDecl} (h : ∀ d ∈ l, armOk L d.Ctor = true) : rowL L l = (l.map (fun d => condOf L d.On d.Ctor), true) := by
  unfold rowL
  rw [if_pos (List.all_eq_true.2 fun d hd => by simpa using h d hd)]

theorem n52 : (Try.f52.name == "runtime.NumGoroutine") = false := by kernel_rfl
theorem cond127 (p : DProg) (k : Int) (nm arm : ByteArray) : PCall Try.prog 52 [placeE p k, .s nm, .s arm] (condA (condOf p.Enums nm arm) (armOk p.Enums arm)) := by
  refine pcall_of_vc tabOK Try.func52 n52 rfl (pure_cons (pure_place p k) (pure_cons (.raw _) (pure_cons (.raw _) pure_nil))) (pure_condA _ _) (n := 24) rfl (rs := [.cell 6 63, .tmp 7]) rfl ?_
  simp only [go_sem, Nat.reduceAdd, Nat.reduceSub, Nat.reduceMul, Nat.reduceLT, Nat.reduceLeDiff, Nat.reduceEqDiff, Nat.reduceBEq, Nat.reduceBNe, Nat.reducePow, Int.reduceEq, Int.reduceNe, Int.reduceLT, Int.reduceLE, Int.reduceGT, Int.reduceGE, Int.reduceAdd, Int.reduceSub, Int.reduceNeg, Int.reduceMul, not_true_eq_false, not_false_eq_true, true_and, and_true, Int.reduceToNat]
  refine PCall.call (arm146 _ _) ?_
  rw [show armF p.Enums arm = ((armF p.Enums arm).1, (armF p.Enums arm).2.1, armOk p.Enums arm) from rfl]
  unfold condOf
  generalize armF p.Enums arm = d
  generalize armOk p.Enums arm = ok
  obtain ⟨t, v, ok'⟩ := d
  rw [show armA (t, v, ok) = .tup [.agg [.i t.Kind, .i t.Enum, .i t.Len], .i v, .b ok] by rw [← DTy.enc_eq], condA_mk]
  simp only [go_sem, Nat.reduceAdd, Nat.reduceSub, Nat.reduceMul, Nat.reduceLT, Nat.reduceLeDiff, Nat.reduceEqDiff, Nat.reduceBEq, Nat.reduceBNe, Nat.reducePow, Int.reduceEq, Int.reduceNe, Int.reduceLT, Int.reduceLE, Int.reduceGT, Int.reduceGE, Int.reduceAdd, Int.reduceSub, Int.reduceNeg, Int.reduceMul, not_true_eq_false, not_false_eq_true, true_and, and_true, Int.reduceToNat]
  exact ⟨_, rfl, false, .refl _⟩

theorem n38 : (Try.f38.name == "runtime.NumGoroutine") = false := by kernel_rfl
theorem row90 (p : DProg) (k : Nat) (n : DNode) (hn : p.Nodes[k]? = some n) (name : ByteArray) (hl : (allV n).length ≤ 4294967296) : PCall Try.prog 38 [placeE p k, .s name] (rowA (rowN p.Enums n name)) := by
  refine pcall_of_vc tabOK Try.func38 n38 rfl (pure_cons (pure_place p k) (pure_cons (.raw _) pure_nil)) (pure_rowA _) (n := 50) rfl (rs := [.tmp 4, .tmp 5]) rfl ?_
  simp only [go_sem, Nat.reduceAdd, Nat.reduceSub, Nat.reduceMul, Nat.reduceLT, Nat.reduceLeDiff, Nat.reduceEqDiff, Nat.reduceBEq, Nat.reduceBNe, Nat.reducePow, Int.reduceEq, Int.reduceNe, Int.reduceLT, Int.reduceLE, Int.reduceGT, Int.reduceGE, Int.reduceAdd, Int.reduceSub, Int.reduceNeg, Int.reduceMul, not_true_eq_false, not_false_eq_true, true_and, and_true, Int.reduceToNat]
  refine elemHave (by omega) (by simpa using hn) ?_
  simp only [go_sem, Nat.reduceAdd, Nat.reduceSub, Nat.reduceMul, Nat.reduceLT, Nat.reduceLeDiff, Nat.reduceEqDiff, Nat.reduceBEq, Nat.reduceBNe, Nat.reducePow, Int.reduceEq, Int.reduceNe, Int.reduceLT, Int.reduceLE, Int.reduceGT, Int.reduceGE, Int.reduceAdd, Int.reduceSub, Int.reduceNeg, Int.reduceMul, not_true_eq_false, not_false_eq_true, true_and, and_true, Int.reduceToNat]
  refine PCall.call (clock21 n name hl) ?_
  unfold rowN
  have hlen := clock_len n name
  generalize clock n name = d at hlen ⊢
  obtain ⟨l, ok⟩ := d
  dsimp only at hlen
  simp only [go_sem, Nat.reduceAdd, Nat.reduceSub, Nat.reduceMul, Nat.reduceLT, Nat.reduceLeDiff, Nat.reduceEqDiff, Nat.reduceBEq, Nat.reduceBNe, Nat.reducePow, Int.reduceEq, Int.reduceNe, Int.reduceLT, Int.reduceLE, Int.reduceGT, Int.reduceGE, Int.reduceAdd, Int.reduceSub, Int.reduceNeg, Int.reduceMul, not_true_eq_false, not_false_eq_true, true_and, and_true, Int.reduceToNat]
  cases ok with
  | false =>
    simp only [go_sem, Nat.reduceAdd, Nat.reduceSub, Nat.reduceMul, Nat.reduceLT, Nat.reduceLeDiff, Nat.reduceEqDiff, Nat.reduceBEq, Nat.reduceBNe, Nat.reducePow, Int.reduceEq, Int.reduceNe, Int.reduceLT, Int.reduceLE, Int.reduceGT, Int.reduceGE, Int.reduceAdd, Int.reduceSub, Int.reduceNeg, Int.reduceMul, not_true_eq_false, not_false_eq_true, true_and, and_true, Int.reduceToNat]
    exact ⟨_, rfl, false, weak_norow⟩
  | true =>
    simp only [go_sem, Nat.reduceAdd, Nat.reduceSub, Nat.reduceMul, Nat.reduceLT, Nat.reduceLeDiff, Nat.reduceEqDiff, Nat.reduceBEq, Nat.reduceBNe, Nat.reducePow, Int.reduceEq, Int.reduceNe, Int.reduceLT, Int.reduceLE, Int.reduceGT, Int.reduceGE, Int.reduceAdd, Int.reduceSub, Int.reduceNeg, Int.reduceMul, not_true_eq_false, not_false_eq_true, true_and, and_true, Int.reduceToNat]
    intro _
    refine loop_ghost (ghost_own 8 63 2 rfl) ?_
    simp only [go_sem, Nat.reduceAdd, Nat.reduceSub, Nat.reduceMul, Nat.reduceLT, Nat.reduceLeDiff, Nat.reduceEqDiff, Nat.reduceBEq, Nat.reduceBNe, Nat.reducePow, Int.reduceEq, Int.reduceNe, Int.reduceLT, Int.reduceLE, Int.reduceGT, Int.reduceGE, Int.reduceAdd, Int.reduceSub, Int.reduceNeg, Int.reduceMul, not_true_eq_false, not_false_eq_true, true_and, and_true, Int.reduceToNat]
    refine loop_fr [4, 5, 8, 10, 11, 12, 29, 30, 31, 32, 33, 34, 35, 36, 37, 38, 39, 40, 41, 42, 43, 44, 45, 46, 47, 48] (fun m C h => ∃ (i : Nat) (r : List Blk), i ≤ l.length ∧ m = l.length - i ∧ (∀ d ∈ l.take i, armOk p.Enums d.Ctor = true) ∧ C = [(29, .raw (.int .i64 (i : Nat))), (8, .own 2 1 (((l.take i).map (fun d => condOf p.Enums d.On d.Ctor)).map DCond.enc).length)] ∧
      h = .cells 65 [.lst 2 (p.Enums.map DEnum.enc) none, .lst 5 (p.Nodes.map DNode.enc) none, .i k] :: .own 63 2 (((l.take i).map (fun d => condOf p.Enums d.On d.Ctor)).map DCond.enc) :: r) l.length _ ⟨0, [], by omega, by omega, by simp, rfl, rfl⟩ (.cons rfl (.cons rfl .nil)) ?_
    rintro m C j h ⟨i, r, hi, rfl, ha, rfl, rfl⟩
    simp only [go_sem, Nat.reduceAdd, Nat.reduceSub, Nat.reduceMul, Nat.reduceLT, Nat.reduceLeDiff, Nat.reduceEqDiff, Nat.reduceBEq, Nat.reduceBNe, Nat.reducePow, Int.reduceEq, Int.reduceNe, Int.reduceLT, Int.reduceLE, Int.reduceGT, Int.reduceGE, Int.reduceAdd, Int.reduceSub, Int.reduceNeg, Int.reduceMul, not_true_eq_false, not_false_eq_true, true_and, and_true, Int.reduceToNat]
    refine brK_dec (fun hlt => ?_) (fun hge => ?_)
    · simp only [go_sem, Nat.reduceAdd, Nat.reduceSub, Nat.reduceMul, Nat.reduceLT, Nat.reduceLeDiff, Nat.reduceEqDiff, Nat.reduceBEq, Nat.reduceBNe, Nat.reducePow, Int.reduceEq, Int.reduceNe, Int.reduceLT, Int.reduceLE, Int.reduceGT, Int.reduceGE, Int.reduceAdd, Int.reduceSub, Int.reduceNeg, Int.reduceMul, not_true_eq_false, not_false_eq_true, true_and, and_true, Int.reduceToNat]
      refine elemMap (by omega) (by omega) (fun x hx => ?_)
      have hx' : l[i]? = some x := by simpa using hx
      simp only [go_sem, Nat.reduceAdd, Nat.reduceSub, Nat.reduceMul, Nat.reduceLT, Nat.reduceLeDiff, Nat.reduceEqDiff, Nat.reduceBEq, Nat.reduceBNe, Nat.reducePow, Int.reduceEq, Int.reduceNe, Int.reduceLT, Int.reduceLE, Int.reduceGT, Int.reduceGE, Int.reduceAdd, Int.reduceSub, Int.reduceNeg, Int.reduceMul, not_true_eq_false, not_false_eq_true, true_and, and_true, Int.reduceToNat]
      refine PCall.call (cond127 p k x.On x.Ctor) ?_
      simp only [go_sem, Nat.reduceAdd, Nat.reduceSub, Nat.reduceMul, Nat.reduceLT, Nat.reduceLeDiff, Nat.reduceEqDiff, Nat.reduceBEq, Nat.reduceBNe, Nat.reducePow, Int.reduceEq, Int.reduceNe, Int.reduceLT, Int.reduceLE, Int.reduceGT, Int.reduceGE, Int.reduceAdd, Int.reduceSub, Int.reduceNeg, Int.reduceMul, not_true_eq_false, not_false_eq_true, true_and, and_true, Int.reduceToNat]
      cases hb : armOk p.Enums x.Ctor with
      | false =>
        simp only [go_sem, Nat.reduceAdd, Nat.reduceSub, Nat.reduceMul, Nat.reduceLT, Nat.reduceLeDiff, Nat.reduceEqDiff, Nat.reduceBEq, Nat.reduceBNe, Nat.reducePow, Int.reduceEq, Int.reduceNe, Int.reduceLT, Int.reduceLE, Int.reduceGT, Int.reduceGE, Int.reduceAdd, Int.reduceSub, Int.reduceNeg, Int.reduceMul, not_true_eq_false, not_false_eq_true, true_and, and_true, Int.reduceToNat]
        rw [rowL_no (List.mem_of_getElem? hx') hb]
        exact ⟨_, rfl, false, weak_norow⟩
      | true =>
        simp only [go_sem, Nat.reduceAdd, Nat.reduceSub, Nat.reduceMul, Nat.reduceLT, Nat.reduceLeDiff, Nat.reduceEqDiff, Nat.reduceBEq, Nat.reduceBNe, Nat.reducePow, Int.reduceEq, Int.reduceNe, Int.reduceLT, Int.reduceLE, Int.reduceGT, Int.reduceGE, Int.reduceAdd, Int.reduceSub, Int.reduceNeg, Int.reduceMul, not_true_eq_false, not_false_eq_true, true_and, and_true, Int.reduceToNat]
        refine ⟨by simp; omega, ?_⟩
        have h3 : ((l.take (i + 1)).map (fun d => condOf p.Enums d.On d.Ctor)).map DCond.enc = ((l.take i).map (fun d => condOf p.Enums d.On d.Ctor)).map DCond.enc ++ [(condOf p.Enums x.On x.Ctor).enc] := by
          obtain ⟨hlt', rfl⟩ := List.getElem?_eq_some_iff.1 hx'
          rw [List.take_succ_eq_append_getElem hlt', List.map_append, List.map_append]
          rfl
        exact loopFr _ (by omega) ⟨i + 1, _, by omega, rfl, take_all ha hx' hb, rfl, by rw [h3]⟩
          (.next rfl (by omega) (.cons (by simp; try omega) .nil)) rfl
    · have : i = l.length := by omega
      subst this
      simp only [go_sem, Nat.reduceAdd, Nat.reduceSub, Nat.reduceMul, Nat.reduceLT, Nat.reduceLeDiff, Nat.reduceEqDiff, Nat.reduceBEq, Nat.reduceBNe, Nat.reducePow, Int.reduceEq, Int.reduceNe, Int.reduceLT, Int.reduceLE, Int.reduceGT, Int.reduceGE, Int.reduceAdd, Int.reduceSub, Int.reduceNeg, Int.reduceMul, not_true_eq_false, not_false_eq_true, true_and, and_true, Int.reduceToNat]
      rw [List.take_length] at ha ⊢
      rw [rowL_yes ha]
      refine ⟨_, rfl, true, ?_⟩
      show Weak (.tup [frz _ (.own 2 1 _), .b true]) _
      refine Weak.tups ⟨?_, .refl _, trivial⟩
      simp [frz]
      exact .refl _

theorem n27 : (Try.f27.name == "runtime.NumGoroutine") = false := by kernel_rfl
theorem at89 (p : DProg) (k : Int) : PCall Try.prog 27 [p.enc, .i k] (.tup [placeE p k, .b (nodeAt p k).isSome]) := by
  refine pcall_of_vc tabOK Try.func27 n27 rfl (by repeat' first | exact pure_nil | refine pure_cons ?_ ?_ | exact .raw _ | exact pure_enc _ | exact pure_lst _ | exact pure_strs _ | exact pure_ints _ | exact DTy.pure _ | exact DTy.pures _ | exact DEnum.pure _ | exact DEnum.pures _ | exact DDecl.pure _ | exact DDecl.pures _ | exact DEq.pure _ | exact DEq.pures _ | exact DNode.pure _ | exact DNode.pures _ | exact DProg.pure _ | exact DProg.pures _ | exact DCond.pure _ | exact DCond.pures _ | exact DAtom.pure _ | exact DAtom.pures _ | exact DPlain.pure _ | exact DPlain.pures _ | exact DVar.pure _ | exact DVar.pures _ | exact DFlow.pure _ | exact DFlow.pures _ | exact DFlows.pure _ | exact DFlows.pures _ | exact DAsked.pure _ | exact DAsked.pures _ | exact DFault.pure _ | exact DFault.pures _ | exact DCell.pure _ | exact DCell.pures _ | exact DReply.pure _ | exact DReply.pures _ | exact DAsk.pure _ | exact DAsk.pures _ | exact DOp.pure _ | exact DOp.pures _ | exact pure_list (fun x => DDecl.pures x) _ | exact .fn _ _ _ pure_nil pure_nil | refine .agg _ ?_ | refine .tup _ ?_ | assumption) (.tup _ (pure_cons (pure_place p k) (pure_cons (.raw _) pure_nil))) (n := 18) rfl (rs := [.cell 4 65, .tmp 5]) rfl ?_
  unfold nodeAt
  simp only [go_sem, Nat.reduceAdd, Nat.reduceSub, Nat.reduceMul, Nat.reduceLT, Nat.reduceLeDiff, Nat.reduceEqDiff, Nat.reduceBEq, Nat.reduceBNe, Nat.reducePow, Int.reduceEq, Int.reduceNe, Int.reduceLT, Int.reduceLE, Int.reduceGT, Int.reduceGE, Int.reduceAdd, Int.reduceSub, Int.reduceNeg, Int.reduceMul, not_true_eq_false, not_false_eq_true, true_and, and_true, Int.reduceToNat]
  refine drawC [1] mo (by kernel_rfl) ?_
  repeat' first
    | exact finB rfl
    | exact finI rfl
    | exact finP rfl
    | exact absurd rfl (by assumption)
    | simp only [go_sem, Nat.reduceAdd, Nat.reduceSub, Nat.reduceMul, Nat.reduceLT, Nat.reduceLeDiff, Nat.reduceEqDiff, Nat.reduceBEq, Nat.reduceBNe, Nat.reducePow, Int.reduceEq, Int.reduceNe, Int.reduceLT, Int.reduceLE, Int.reduceGT, Int.reduceGE, Int.reduceAdd, Int.reduceSub, Int.reduceNeg, Int.reduceMul, not_true_eq_false, not_false_eq_true, true_and, and_true, Int.reduceToNat]
    | (intro _)
    | refine brK_dec (fun _ => ?_) (fun _ => ?_)
    | refine brK_any ?_ ?_
    | refine gK_dec (fun _ => ?_) (fun _ => ?_)
    | refine gK_any ?_ ?_
    | refine gqK_dec (fun _ => ?_) (fun _ => ?_)
    | refine ⟨by omega, ?_⟩
    | refine elemHave (by omega) (by assumption) ?_
    | refine elemMap (by omega) (by omega) (fun x hx => ?_)
    | refine drawK mo (by kernel_rfl) ?_
  · rw [if_pos (by assumption), show (p.Nodes[k.toNat]?).isSome = decide (k < p.Nodes.length) by rw [isSome_getElem?_dec]; congr 1; apply propext; omega]
    exact ⟨_, rfl, false, .refl _⟩
  · rw [if_neg (by assumption)]
    exact ⟨_, rfl, false, .refl _⟩

theorem n26 : (Try.f26.name == "runtime.NumGoroutine") = false := by kernel_rfl
theorem row45 (p : DProg) (k : Int) (name : ByteArray) (hl : ∀ n ∈ p.Nodes, (allV n).length ≤ 4294967296) : PCall Try.prog 26 [p.enc, .i k, .s name] (rowA (rowF p k name)) := by
  refine pcall_of_vc tabOK Try.func26 n26 rfl (by repeat' first | exact pure_nil | refine pure_cons ?_ ?_ | exact .raw _ | exact pure_enc _ | exact pure_lst _ | exact pure_strs _ | exact pure_ints _ | exact DTy.pure _ | exact DTy.pures _ | exact DEnum.pure _ | exact DEnum.pures _ | exact DDecl.pure _ | exact DDecl.pures _ | exact DEq.pure _ | exact DEq.pures _ | exact DNode.pure _ | exact DNode.pures _ | exact DProg.pure _ | exact DProg.pures _ | exact DCond.pure _ | exact DCond.pures _ | exact DAtom.pure _ | exact DAtom.pures _ | exact DPlain.pure _ | exact DPlain.pures _ | exact DVar.pure _ | exact DVar.pures _ | exact DFlow.pure _ | exact DFlow.pures _ | exact DFlows.pure _ | exact DFlows.pures _ | exact DAsked.pure _ | exact DAsked.pures _ | exact DFault.pure _ | exact DFault.pures _ | exact DCell.pure _ | exact DCell.pures _ | exact DReply.pure _ | exact DReply.pures _ | exact DAsk.pure _ | exact DAsk.pures _ | exact DOp.pure _ | exact DOp.pures _ | exact pure_list (fun x => DDecl.pures x) _ | exact .fn _ _ _ pure_nil pure_nil | refine .agg _ ?_ | refine .tup _ ?_ | assumption) (by repeat' first | exact pure_nil | refine pure_cons ?_ ?_ | exact .raw _ | exact pure_enc _ | exact pure_lst _ | exact pure_strs _ | exact pure_ints _ | exact DTy.pure _ | exact DTy.pures _ | exact DEnum.pure _ | exact DEnum.pures _ | exact DDecl.pure _ | exact DDecl.pures _ | exact DEq.pure _ | exact DEq.pures _ | exact DNode.pure _ | exact DNode.pures _ | exact DProg.pure _ | exact DProg.pures _ | exact DCond.pure _ | exact DCond.pures _ | exact DAtom.pure _ | exact DAtom.pures _ | exact DPlain.pure _ | exact DPlain.pures _ | exact DVar.pure _ | exact DVar.pures _ | exact DFlow.pure _ | exact DFlow.pures _ | exact DFlows.pure _ | exact DFlows.pures _ | exact DAsked.pure _ | exact DAsked.pures _ | exact DFault.pure _ | exact DFault.pures _ | exact DCell.pure _ | exact DCell.pures _ | exact DReply.pure _ | exact DReply.pures _ | exact DAsk.pure _ | exact DAsk.pures _ | exact DOp.pure _ | exact DOp.pures _ | exact pure_list (fun x => DDecl.pures x) _ | exact .fn _ _ _ pure_nil pure_nil | refine .agg _ ?_ | refine .tup _ ?_ | assumption) (n := 23) rfl (rs := [.tmp 6, .tmp 7]) rfl ?_
  simp only [go_sem, Nat.reduceAdd, Nat.reduceSub, Nat.reduceMul, Nat.reduceLT, Nat.reduceLeDiff, Nat.reduceEqDiff, Nat.reduceBEq, Nat.reduceBNe, Nat.reducePow, Int.reduceEq, Int.reduceNe, Int.reduceLT, Int.reduceLE, Int.reduceGT, Int.reduceGE, Int.reduceAdd, Int.reduceSub, Int.reduceNeg, Int.reduceMul, not_true_eq_false, not_false_eq_true, true_and, and_true, Int.reduceToNat]
  refine PCall.call (at89 p k) ?_
  simp only [go_sem, Nat.reduceAdd, Nat.reduceSub, Nat.reduceMul, Nat.reduceLT, Nat.reduceLeDiff, Nat.reduceEqDiff, Nat.reduceBEq, Nat.reduceBNe, Nat.reducePow, Int.reduceEq, Int.reduceNe, Int.reduceLT, Int.reduceLE, Int.reduceGT, Int.reduceGE, Int.reduceAdd, Int.reduceSub, Int.reduceNeg, Int.reduceMul, not_true_eq_false, not_false_eq_true, true_and, and_true, Int.reduceToNat]
  unfold rowF
  cases hn : nodeAt p k with
  | none =>
    simp only [go_sem, Nat.reduceAdd, Nat.reduceSub, Nat.reduceMul, Nat.reduceLT, Nat.reduceLeDiff, Nat.reduceEqDiff, Nat.reduceBEq, Nat.reduceBNe, Nat.reducePow, Int.reduceEq, Int.reduceNe, Int.reduceLT, Int.reduceLE, Int.reduceGT, Int.reduceGE, Int.reduceAdd, Int.reduceSub, Int.reduceNeg, Int.reduceMul, not_true_eq_false, not_false_eq_true, true_and, and_true, Int.reduceToNat, Option.isSome_none]
    exact ⟨_, rfl, false, weak_norow⟩
  | some n =>
    unfold nodeAt at hn
    have hk : 0 ≤ k := by
      rcases Int.lt_or_le k 0 with h | h
      · rw [if_neg (by omega)] at hn; cases hn
      · exact h
    rw [if_pos hk] at hn
    obtain ⟨m, rfl⟩ := Int.eq_ofNat_of_zero_le hk
    have hn' : p.Nodes[m]? = some n := by simpa using hn
    simp only [go_sem, Nat.reduceAdd, Nat.reduceSub, Nat.reduceMul, Nat.reduceLT, Nat.reduceLeDiff, Nat.reduceEqDiff, Nat.reduceBEq, Nat.reduceBNe, Nat.reducePow, Int.reduceEq, Int.reduceNe, Int.reduceLT, Int.reduceLE, Int.reduceGT, Int.reduceGE, Int.reduceAdd, Int.reduceSub, Int.reduceNeg, Int.reduceMul, not_true_eq_false, not_false_eq_true, true_and, and_true, Int.reduceToNat, Option.isSome_some]
    refine PCall.call (row90 p m n hn' name (hl n (List.mem_of_getElem? hn'))) ?_
    simp only [go_sem, Nat.reduceAdd, Nat.reduceSub, Nat.reduceMul, Nat.reduceLT, Nat.reduceLeDiff, Nat.reduceEqDiff, Nat.reduceBEq, Nat.reduceBNe, Nat.reducePow, Int.reduceEq, Int.reduceNe, Int.reduceLT, Int.reduceLE, Int.reduceGT, Int.reduceGE, Int.reduceAdd, Int.reduceSub, Int.reduceNeg, Int.reduceMul, not_true_eq_false, not_false_eq_true, true_and, and_true, Int.reduceToNat]
    exact ⟨_, rfl, false, .refl _⟩
end Go.Proofs.Ytipcmpkihhfhcaa
