/-
  Ctor3, Ctor4, Same1, ChkD, ScopeD, IdP, Lib1, Lib2, Lib3, IdP2, RightP, Once2, Walk, Walk2, RightP2, AbsW, RightP3, ChkP, ScopeP1, ScopeP2, ScopeP3: put together.
-/
import Derived.Test.YtipcmpkihhfhcaaGreatDoorBunA
import Derived.Test.YtipcmpkihhfhcaaGreatDoorBunB
import Derived.Test.YtipcmpkihhfhcaaGreatDoorBunC
import Derived.Shelf.Strings.Search1
import Derived.Shelf.Strings.Count
namespace Go.Proofs.YtipcmpkihhfhcaaGreatDoor
open Go.Abs
set_option maxRecDepth 20000
set_option linter.unusedSimpArgs false
set_option linter.unusedVariables false
set_option maxHeartbeats 1000000
attribute [local irreducible] vc vcOps vcStep vcGuard prK hrK gK gsK brK callK ElemK SeqK BlockK ScopeK OpsK CallK LoopK LoopGo finPost ACall PCall PCallE BCall vqOps vqStep vqGuard qrK heK pcK gqK gqsK QOpsK qcallK DrawK
theorem PCallE.one {P : Program} {f : FuncId} {args : List AV} {v : AV} {Kr : AV → Prop} (hp : PCallE P f args Kr) (hk : ∀ r, Kr r → r = v) (hv : Go.Abs.Pure v) : PCall P f args v := by
  unfold PCallE at hp
  unfold PCall
  refine ⟨hp.1, hv, fun S w vs hb hc => ?_⟩
  obtain ⟨h1, h2⟩ := hp.2 S w vs hb hc
  refine ⟨h1, Calls.mono h2 ?_⟩
  rintro e w' ⟨u, r, S', e1, hr, _, e3⟩
  rw [hk r hr] at e3
  exact ⟨u, S', e1, e3⟩
def ctorG (nm : ByteArray) : List DEnum → Nat → Int × Int × Bool
  | [], _ => (0, 0, false)
  | e :: l, i => match e.Ctors.findIdx? (fun c => decide (c = nm)) with
    | some k => ((i : Int), (k : Int), true)
    | none => ctorG nm l (i + 1)
theorem find_no {nm : ByteArray} {l : List ByteArray} (h : nm ∉ l) : l.findIdx? (fun c => decide (c = nm)) = none := by
  rw [List.findIdx?_eq_none_iff]
  intro x hx
  have : ¬ x = nm := fun e => h (e ▸ hx)
  simp [this]
theorem ctorG_no {nm : ByteArray} : ∀ {L : List DEnum} (n : Nat), (∀ e ∈ L, nm ∉ e.Ctors) → ctorG nm L n = (0, 0, false)
  | [], _, _ => rfl
  | e :: L, n, h => by
    rw [ctorG, find_no (h e List.mem_cons_self)]
    exact ctorG_no (n + 1) fun e' he => h e' (List.mem_cons_of_mem _ he)
theorem ctorG_at {nm : ByteArray} : ∀ {L : List DEnum} {i k : Nat} {e : DEnum} (n : Nat), L[i]? = some e → e.Ctors[k]? = some nm → NoC L nm i k → ctorG nm L n = (((n + i : Nat) : Int), (k : Int), true)
  | [], _, _, _, _, h, _, _ => by simp at h
  | e0 :: L, 0, k, e, n, h, hk, hN => by
    simp at h
    subst h
    have hf : e0.Ctors.findIdx? (fun c => decide (c = nm)) = some k := by
      rw [List.findIdx?_eq_some_iff_getElem]
      obtain ⟨hlt, hv⟩ := List.getElem?_eq_some_iff.1 hk
      refine ⟨hlt, by simp [hv], fun j hj => ?_⟩
      have := hN.2 e0 rfl
      have hne : ¬ e0.Ctors[j] = nm := fun q => this (List.mem_take_iff_getElem.2 ⟨j, by omega, q⟩)
      simp [hne]
    rw [ctorG, hf]
    rfl
  | e0 :: L, i + 1, k, e, n, h, hk, hN => by
    rw [ctorG, find_no (hN.1 0 e0 (by omega) rfl)]
    have := ctorG_at (L := L) (i := i) (k := k) (e := e) (n + 1) (by simpa using h) hk ⟨fun i' e' hi he => hN.1 (i' + 1) e' (by omega) (by simpa using he), fun e' he => hN.2 e' (by simpa using he)⟩
    dsimp only
    rw [this]
    simp
    omega
theorem ctorG_is {L : List DEnum} {nm : ByteArray} {a b : Int} {ok : Bool} (h : CtorIs L nm a b ok) : ctorG nm L 0 = (a, b, ok) := by
  rcases h with ⟨rfl, i, k, e, rfl, rfl, he, hc, hN⟩ | ⟨rfl, rfl, rfl, hno⟩
  · rw [ctorG_at 0 he hc hN]; simp
  · exact ctorG_no 0 hno
abbrev ctorA (p : Int × Int × Bool) : AV := .tup [.i p.1, .i p.2.1, .b p.2.2]
theorem pure_ctorA (p : Int × Int × Bool) : Go.Abs.Pure (ctorA p) := .tup _ (pure_cons (.raw _) (pure_cons (.raw _) (pure_cons (.raw _) pure_nil)))
theorem ctor153P (L : List DEnum) (nm : ByteArray) : PCall Tryz.prog 188 [.lst 2 (L.map DEnum.enc) none, .s nm] (ctorA (ctorG nm L 0)) :=
  PCallE.one (ctor153 L nm) (by rintro r ⟨a, b, ok, rfl, h⟩; rw [ctorG_is h]) (pure_ctorA _)
end Go.Proofs.YtipcmpkihhfhcaaGreatDoor

namespace Go.Proofs.YtipcmpkihhfhcaaGreatDoor
open Go.Abs
set_option maxRecDepth 20000
set_option linter.unusedSimpArgs false
set_option linter.unusedVariables false
set_option maxHeartbeats 1000000
attribute [local irreducible] vc vcOps vcStep vcGuard prK hrK gK gsK brK callK ElemK SeqK BlockK ScopeK OpsK CallK LoopK LoopGo finPost ACall PCall PCallE BCall vqOps vqStep vqGuard qrK heK pcK gqK gqsK QOpsK qcallK DrawK
theorem n119 : (Tryz.f119.name == "runtime.NumGoroutine") = false := by kernel_rfl
theorem ctor128 (L : List DEnum) (nm : ByteArray) : PCall Tryz.prog 119 [.lst 2 (L.map DEnum.enc) none, .s nm] (ctorA (ctorG nm L 0)) := by
  refine pcall_of_vc tabOK Tryz.func119 n119 rfl (by repeat' first | exact pure_nil | refine pure_cons ?_ ?_ | exact .raw _ | exact pure_enc _ | exact pure_lst _ | exact pure_strs _ | exact pure_ints _ | exact DTy.pure _ | exact DTy.pures _ | exact DEnum.pure _ | exact DEnum.pures _ | exact DDecl.pure _ | exact DDecl.pures _ | exact DEq.pure _ | exact DEq.pures _ | exact DNode.pure _ | exact DNode.pures _ | exact DProg.pure _ | exact DProg.pures _ | exact DCond.pure _ | exact DCond.pures _ | exact DAtom.pure _ | exact DAtom.pures _ | exact DPlain.pure _ | exact DPlain.pures _ | exact DVar.pure _ | exact DVar.pures _ | exact DFlow.pure _ | exact DFlow.pures _ | exact DFlows.pure _ | exact DFlows.pures _ | exact DAsked.pure _ | exact DAsked.pures _ | exact DFault.pure _ | exact DFault.pures _ | exact DCell.pure _ | exact DCell.pures _ | exact DReply.pure _ | exact DReply.pures _ | exact DAsk.pure _ | exact DAsk.pures _ | exact DOp.pure _ | exact DOp.pures _ | exact pure_list (fun x => DDecl.pures x) _ | exact .fn _ _ _ pure_nil pure_nil | refine .agg _ ?_ | refine .tup _ ?_ | assumption) (by repeat' first | exact pure_nil | refine pure_cons ?_ ?_ | exact .raw _ | exact pure_enc _ | exact pure_lst _ | exact pure_strs _ | exact pure_ints _ | exact DTy.pure _ | exact DTy.pures _ | exact DEnum.pure _ | exact DEnum.pures _ | exact DDecl.pure _ | exact DDecl.pures _ | exact DEq.pure _ | exact DEq.pures _ | exact DNode.pure _ | exact DNode.pures _ | exact DProg.pure _ | exact DProg.pures _ | exact DCond.pure _ | exact DCond.pures _ | exact DAtom.pure _ | exact DAtom.pures _ | exact DPlain.pure _ | exact DPlain.pures _ | exact DVar.pure _ | exact DVar.pures _ | exact DFlow.pure _ | exact DFlow.pures _ | exact DFlows.pure _ | exact DFlows.pures _ | exact DAsked.pure _ | exact DAsked.pures _ | exact DFault.pure _ | exact DFault.pures _ | exact DCell.pure _ | exact DCell.pures _ | exact DReply.pure _ | exact DReply.pures _ | exact DAsk.pure _ | exact DAsk.pures _ | exact DOp.pure _ | exact DOp.pures _ | exact pure_list (fun x => DDecl.pures x) _ | exact .fn _ _ _ pure_nil pure_nil | refine .agg _ ?_ | refine .tup _ ?_ | assumption) (n := 37) rfl (rs := [.tmp 4, .tmp 5, .tmp 6]) rfl ?_
  simp only [go_sem, Nat.reduceAdd, Nat.reduceSub, Nat.reduceMul, Nat.reduceLT, Nat.reduceLeDiff, Nat.reduceEqDiff, Nat.reduceBEq, Nat.reduceBNe, Nat.reducePow, Int.reduceEq, Int.reduceNe, Int.reduceLT, Int.reduceLE, Int.reduceGT, Int.reduceGE, Int.reduceAdd, Int.reduceSub, Int.reduceNeg, Int.reduceMul, not_true_eq_false, not_false_eq_true, true_and, and_true, Int.reduceToNat]
  refine loop_frH [4, 5, 6, 7, 8, 9, 10, 11, 12, 13, 14, 15, 16, 17, 18, 19, 20, 21, 22, 23, 24, 25, 26, 27, 28, 29, 30, 31, 32, 33, 34, 35, 36] (fun m C => ∃ i : Nat, i ≤ L.length ∧ m = L.length - i ∧ NoC L nm i 0 ∧ C = [(7, .raw (.int .i64 (i : Nat)))]) L.length _ ⟨0, by omega, by omega, NoC.zero, rfl⟩ (.cons rfl .nil) ?_
  rintro m C jo ⟨i, hi, rfl, hN, rfl⟩
  simp only [go_sem, Nat.reduceAdd, Nat.reduceSub, Nat.reduceMul, Nat.reduceLT, Nat.reduceLeDiff, Nat.reduceEqDiff, Nat.reduceBEq, Nat.reduceBNe, Nat.reducePow, Int.reduceEq, Int.reduceNe, Int.reduceLT, Int.reduceLE, Int.reduceGT, Int.reduceGE, Int.reduceAdd, Int.reduceSub, Int.reduceNeg, Int.reduceMul, not_true_eq_false, not_false_eq_true, true_and, and_true, Int.reduceToNat]
  intro _
  refine brK_dec (fun hlt => ?_) (fun hge => ?_)
  · have hlt' : i < L.length := by omega
    obtain ⟨e, he⟩ : ∃ e, L[i]? = some e := ⟨_, List.getElem?_eq_getElem hlt'⟩
    simp only [go_sem, Nat.reduceAdd, Nat.reduceSub, Nat.reduceMul, Nat.reduceLT, Nat.reduceLeDiff, Nat.reduceEqDiff, Nat.reduceBEq, Nat.reduceBNe, Nat.reducePow, Int.reduceEq, Int.reduceNe, Int.reduceLT, Int.reduceLE, Int.reduceGT, Int.reduceGE, Int.reduceAdd, Int.reduceSub, Int.reduceNeg, Int.reduceMul, not_true_eq_false, not_false_eq_true, true_and, and_true, Int.reduceToNat]
    refine loop_frH [4, 5, 6, 8, 15, 16, 17, 18, 19, 20, 21, 22, 23, 24, 25, 26, 27, 28, 29, 30, 31, 32, 33, 34, 35, 36] (fun m C => ∃ k : Nat, k ≤ e.Ctors.length ∧ m = e.Ctors.length - k ∧ NoC L nm i k ∧ C = [(8, .raw (.int .i64 (k : Nat)))]) e.Ctors.length _ ⟨0, by omega, by omega, hN, rfl⟩ (.cons rfl .nil) ?_
    rintro m C ji ⟨k, hk, rfl, hNk, rfl⟩
    simp only [go_sem, Nat.reduceAdd, Nat.reduceSub, Nat.reduceMul, Nat.reduceLT, Nat.reduceLeDiff, Nat.reduceEqDiff, Nat.reduceBEq, Nat.reduceBNe, Nat.reducePow, Int.reduceEq, Int.reduceNe, Int.reduceLT, Int.reduceLE, Int.reduceGT, Int.reduceGE, Int.reduceAdd, Int.reduceSub, Int.reduceNeg, Int.reduceMul, not_true_eq_false, not_false_eq_true, true_and, and_true, Int.reduceToNat]
    refine elemHave (by omega) he ?_
    simp only [go_sem, Nat.reduceAdd, Nat.reduceSub, Nat.reduceMul, Nat.reduceLT, Nat.reduceLeDiff, Nat.reduceEqDiff, Nat.reduceBEq, Nat.reduceBNe, Nat.reducePow, Int.reduceEq, Int.reduceNe, Int.reduceLT, Int.reduceLE, Int.reduceGT, Int.reduceGE, Int.reduceAdd, Int.reduceSub, Int.reduceNeg, Int.reduceMul, not_true_eq_false, not_false_eq_true, true_and, and_true, Int.reduceToNat]
    intro _
    refine brK_dec (fun hlt2 => ?_) (fun hge2 => ?_)
    · simp only [go_sem, Nat.reduceAdd, Nat.reduceSub, Nat.reduceMul, Nat.reduceLT, Nat.reduceLeDiff, Nat.reduceEqDiff, Nat.reduceBEq, Nat.reduceBNe, Nat.reducePow, Int.reduceEq, Int.reduceNe, Int.reduceLT, Int.reduceLE, Int.reduceGT, Int.reduceGE, Int.reduceAdd, Int.reduceSub, Int.reduceNeg, Int.reduceMul, not_true_eq_false, not_false_eq_true, true_and, and_true, Int.reduceToNat]
      refine elemHave (by omega) he ?_
      simp only [go_sem, Nat.reduceAdd, Nat.reduceSub, Nat.reduceMul, Nat.reduceLT, Nat.reduceLeDiff, Nat.reduceEqDiff, Nat.reduceBEq, Nat.reduceBNe, Nat.reducePow, Int.reduceEq, Int.reduceNe, Int.reduceLT, Int.reduceLE, Int.reduceGT, Int.reduceGE, Int.reduceAdd, Int.reduceSub, Int.reduceNeg, Int.reduceMul, not_true_eq_false, not_false_eq_true, true_and, and_true, Int.reduceToNat]
      refine elemMap (by omega) (by omega) (fun c hc => ?_)
      have hc' : e.Ctors[k]? = some c := by simpa using hc
      simp only [go_sem, Nat.reduceAdd, Nat.reduceSub, Nat.reduceMul, Nat.reduceLT, Nat.reduceLeDiff, Nat.reduceEqDiff, Nat.reduceBEq, Nat.reduceBNe, Nat.reducePow, Int.reduceEq, Int.reduceNe, Int.reduceLT, Int.reduceLE, Int.reduceGT, Int.reduceGE, Int.reduceAdd, Int.reduceSub, Int.reduceNeg, Int.reduceMul, not_true_eq_false, not_false_eq_true, true_and, and_true, Int.reduceToNat]
      refine brK_dec (fun hq => ?_) (fun hq => ?_)
      · simp only [go_sem, Nat.reduceAdd, Nat.reduceSub, Nat.reduceMul, Nat.reduceLT, Nat.reduceLeDiff, Nat.reduceEqDiff, Nat.reduceBEq, Nat.reduceBNe, Nat.reducePow, Int.reduceEq, Int.reduceNe, Int.reduceLT, Int.reduceLE, Int.reduceGT, Int.reduceGE, Int.reduceAdd, Int.reduceSub, Int.reduceNeg, Int.reduceMul, not_true_eq_false, not_false_eq_true, true_and, and_true, Int.reduceToNat]
        subst hq
        rw [ctorG_at 0 he hc' hNk]
        exact ⟨_, rfl, false, by rw [Nat.zero_add]; exact .refl _⟩
      · simp only [go_sem, Nat.reduceAdd, Nat.reduceSub, Nat.reduceMul, Nat.reduceLT, Nat.reduceLeDiff, Nat.reduceEqDiff, Nat.reduceBEq, Nat.reduceBNe, Nat.reducePow, Int.reduceEq, Int.reduceNe, Int.reduceLT, Int.reduceLE, Int.reduceGT, Int.reduceGE, Int.reduceAdd, Int.reduceSub, Int.reduceNeg, Int.reduceMul, not_true_eq_false, not_false_eq_true, true_and, and_true, Int.reduceToNat]
        exact loopFrH _ (by omega) ⟨k + 1, by omega, rfl, hNk.next he hc' hq, rfl⟩ (.next rfl (by omega) .nil) rfl
    · simp only [go_sem, Nat.reduceAdd, Nat.reduceSub, Nat.reduceMul, Nat.reduceLT, Nat.reduceLeDiff, Nat.reduceEqDiff, Nat.reduceBEq, Nat.reduceBNe, Nat.reducePow, Int.reduceEq, Int.reduceNe, Int.reduceLT, Int.reduceLE, Int.reduceGT, Int.reduceGE, Int.reduceAdd, Int.reduceSub, Int.reduceNeg, Int.reduceMul, not_true_eq_false, not_false_eq_true, true_and, and_true, Int.reduceToNat]
      have : k = e.Ctors.length := by omega
      subst this
      exact loopFrH _ (by omega) ⟨i + 1, by omega, rfl, hNk.row he, rfl⟩ (.next rfl (by omega) .nil) rfl
  · simp only [go_sem, Nat.reduceAdd, Nat.reduceSub, Nat.reduceMul, Nat.reduceLT, Nat.reduceLeDiff, Nat.reduceEqDiff, Nat.reduceBEq, Nat.reduceBNe, Nat.reducePow, Int.reduceEq, Int.reduceNe, Int.reduceLT, Int.reduceLE, Int.reduceGT, Int.reduceGE, Int.reduceAdd, Int.reduceSub, Int.reduceNeg, Int.reduceMul, not_true_eq_false, not_false_eq_true, true_and, and_true, Int.reduceToNat]
    have : i = L.length := by omega
    subst this
    rw [ctorG_no 0 hN.none_]
    exact ⟨_, rfl, false, .refl _⟩

def armF (L : List DEnum) (nm : ByteArray) : DTy × Int × Bool :=
  if nm = ⟨#[116, 114, 117, 101]⟩ then (⟨2, 0, 0⟩, 1, true) else if nm = ⟨#[102, 97, 108, 115, 101]⟩ then (⟨2, 0, 0⟩, 0, true)
  else if (ctorG nm L 0).2.2 = true then (⟨3, (ctorG nm L 0).1, 0⟩, (ctorG nm L 0).2.1, true) else (⟨0, 0, 0⟩, 0, false)
abbrev armA (p : DTy × Int × Bool) : AV := .tup [p.1.enc, .i p.2.1, .b p.2.2]
theorem pure_armA (p : DTy × Int × Bool) : Go.Abs.Pure (armA p) := .tup _ (pure_cons (DTy.pure _) (pure_cons (.raw _) (pure_cons (.raw _) pure_nil)))

theorem armA_mk (a b c v : Int) (ok : Bool) : armA (⟨a, b, c⟩, v, ok) = .tup [.agg [.i a, .i b, .i c], .i v, .b ok] := by
  show AV.tup [DTy.enc _, _, _] = _
  rw [DTy.enc_eq]

theorem n168 : (Tryz.f168.name == "runtime.NumGoroutine") = false := by kernel_rfl
theorem arm146 (L : List DEnum) (nm : ByteArray) : PCall Tryz.prog 168 [.lst 2 (L.map DEnum.enc) none, .s nm] (armA (armF L nm)) := by
  refine pcall_of_vc tabOK Tryz.func168 n168 rfl (by repeat' first | exact pure_nil | refine pure_cons ?_ ?_ | exact .raw _ | exact pure_enc _ | exact pure_lst _ | exact pure_strs _ | exact pure_ints _ | exact DTy.pure _ | exact DTy.pures _ | exact DEnum.pure _ | exact DEnum.pures _ | exact DDecl.pure _ | exact DDecl.pures _ | exact DEq.pure _ | exact DEq.pures _ | exact DNode.pure _ | exact DNode.pures _ | exact DProg.pure _ | exact DProg.pures _ | exact DCond.pure _ | exact DCond.pures _ | exact DAtom.pure _ | exact DAtom.pures _ | exact DPlain.pure _ | exact DPlain.pures _ | exact DVar.pure _ | exact DVar.pures _ | exact DFlow.pure _ | exact DFlow.pures _ | exact DFlows.pure _ | exact DFlows.pures _ | exact DAsked.pure _ | exact DAsked.pures _ | exact DFault.pure _ | exact DFault.pures _ | exact DCell.pure _ | exact DCell.pures _ | exact DReply.pure _ | exact DReply.pures _ | exact DAsk.pure _ | exact DAsk.pures _ | exact DOp.pure _ | exact DOp.pures _ | exact pure_list (fun x => DDecl.pures x) _ | exact .fn _ _ _ pure_nil pure_nil | refine .agg _ ?_ | refine .tup _ ?_ | assumption) (pure_armA _) (n := 30) rfl (rs := [.cell 4 42, .tmp 5, .tmp 6]) rfl ?_
  unfold armF
  simp only [go_sem, Nat.reduceAdd, Nat.reduceSub, Nat.reduceMul, Nat.reduceLT, Nat.reduceLeDiff, Nat.reduceEqDiff, Nat.reduceBEq, Nat.reduceBNe, Nat.reducePow, Int.reduceEq, Int.reduceNe, Int.reduceLT, Int.reduceLE, Int.reduceGT, Int.reduceGE, Int.reduceAdd, Int.reduceSub, Int.reduceNeg, Int.reduceMul, not_true_eq_false, not_false_eq_true, true_and, and_true, Int.reduceToNat]
  refine brK_dec (fun h1 => ?_) (fun h1 => ?_)
  · simp only [go_sem, Nat.reduceAdd, Nat.reduceSub, Nat.reduceMul, Nat.reduceLT, Nat.reduceLeDiff, Nat.reduceEqDiff, Nat.reduceBEq, Nat.reduceBNe, Nat.reducePow, Int.reduceEq, Int.reduceNe, Int.reduceLT, Int.reduceLE, Int.reduceGT, Int.reduceGE, Int.reduceAdd, Int.reduceSub, Int.reduceNeg, Int.reduceMul, not_true_eq_false, not_false_eq_true, true_and, and_true, Int.reduceToNat]
    rw [if_pos h1, armA_mk]
    exact ⟨_, rfl, false, .refl _⟩
  · rw [if_neg h1]
    simp only [go_sem, Nat.reduceAdd, Nat.reduceSub, Nat.reduceMul, Nat.reduceLT, Nat.reduceLeDiff, Nat.reduceEqDiff, Nat.reduceBEq, Nat.reduceBNe, Nat.reducePow, Int.reduceEq, Int.reduceNe, Int.reduceLT, Int.reduceLE, Int.reduceGT, Int.reduceGE, Int.reduceAdd, Int.reduceSub, Int.reduceNeg, Int.reduceMul, not_true_eq_false, not_false_eq_true, true_and, and_true, Int.reduceToNat]
    refine brK_dec (fun h2 => ?_) (fun h2 => ?_)
    · simp only [go_sem, Nat.reduceAdd, Nat.reduceSub, Nat.reduceMul, Nat.reduceLT, Nat.reduceLeDiff, Nat.reduceEqDiff, Nat.reduceBEq, Nat.reduceBNe, Nat.reducePow, Int.reduceEq, Int.reduceNe, Int.reduceLT, Int.reduceLE, Int.reduceGT, Int.reduceGE, Int.reduceAdd, Int.reduceSub, Int.reduceNeg, Int.reduceMul, not_true_eq_false, not_false_eq_true, true_and, and_true, Int.reduceToNat]
      rw [if_pos h2, armA_mk]
      exact ⟨_, rfl, false, .refl _⟩
    · rw [if_neg h2]
      simp only [go_sem, Nat.reduceAdd, Nat.reduceSub, Nat.reduceMul, Nat.reduceLT, Nat.reduceLeDiff, Nat.reduceEqDiff, Nat.reduceBEq, Nat.reduceBNe, Nat.reducePow, Int.reduceEq, Int.reduceNe, Int.reduceLT, Int.reduceLE, Int.reduceGT, Int.reduceGE, Int.reduceAdd, Int.reduceSub, Int.reduceNeg, Int.reduceMul, not_true_eq_false, not_false_eq_true, true_and, and_true, Int.reduceToNat]
      refine PCall.call (ctor153P _ _) ?_
      generalize ctorG nm L 0 = d
      obtain ⟨a, b, ok⟩ := d
      cases ok with
      | true =>
        simp only [go_sem, Nat.reduceAdd, Nat.reduceSub, Nat.reduceMul, Nat.reduceLT, Nat.reduceLeDiff, Nat.reduceEqDiff, Nat.reduceBEq, Nat.reduceBNe, Nat.reducePow, Int.reduceEq, Int.reduceNe, Int.reduceLT, Int.reduceLE, Int.reduceGT, Int.reduceGE, Int.reduceAdd, Int.reduceSub, Int.reduceNeg, Int.reduceMul, not_true_eq_false, not_false_eq_true, true_and, and_true, Int.reduceToNat]
        rw [if_pos trivial, armA_mk]
        exact ⟨_, rfl, false, .refl _⟩
      | false =>
        simp only [go_sem, Nat.reduceAdd, Nat.reduceSub, Nat.reduceMul, Nat.reduceLT, Nat.reduceLeDiff, Nat.reduceEqDiff, Nat.reduceBEq, Nat.reduceBNe, Nat.reducePow, Int.reduceEq, Int.reduceNe, Int.reduceLT, Int.reduceLE, Int.reduceGT, Int.reduceGE, Int.reduceAdd, Int.reduceSub, Int.reduceNeg, Int.reduceMul, not_true_eq_false, not_false_eq_true, true_and, and_true, Int.reduceToNat]
        rw [if_neg (by simp), armA_mk]
        exact ⟨_, rfl, false, .refl _⟩

theorem n70 : (Tryz.f70.name == "runtime.NumGoroutine") = false := by kernel_rfl
theorem arm91 (L : List DEnum) (nm : ByteArray) : PCall Tryz.prog 70 [.lst 2 (L.map DEnum.enc) none, .s nm] (armA (armF L nm)) := by
  refine pcall_of_vc tabOK Tryz.func70 n70 rfl (by repeat' first | exact pure_nil | refine pure_cons ?_ ?_ | exact .raw _ | exact pure_enc _ | exact pure_lst _ | exact pure_strs _ | exact pure_ints _ | exact DTy.pure _ | exact DTy.pures _ | exact DEnum.pure _ | exact DEnum.pures _ | exact DDecl.pure _ | exact DDecl.pures _ | exact DEq.pure _ | exact DEq.pures _ | exact DNode.pure _ | exact DNode.pures _ | exact DProg.pure _ | exact DProg.pures _ | exact DCond.pure _ | exact DCond.pures _ | exact DAtom.pure _ | exact DAtom.pures _ | exact DPlain.pure _ | exact DPlain.pures _ | exact DVar.pure _ | exact DVar.pures _ | exact DFlow.pure _ | exact DFlow.pures _ | exact DFlows.pure _ | exact DFlows.pures _ | exact DAsked.pure _ | exact DAsked.pures _ | exact DFault.pure _ | exact DFault.pures _ | exact DCell.pure _ | exact DCell.pures _ | exact DReply.pure _ | exact DReply.pures _ | exact DAsk.pure _ | exact DAsk.pures _ | exact DOp.pure _ | exact DOp.pures _ | exact pure_list (fun x => DDecl.pures x) _ | exact .fn _ _ _ pure_nil pure_nil | refine .agg _ ?_ | refine .tup _ ?_ | assumption) (pure_armA _) (n := 29) rfl (rs := [.cell 4 42, .tmp 5, .tmp 6]) rfl ?_
  unfold armF
  simp only [go_sem, Nat.reduceAdd, Nat.reduceSub, Nat.reduceMul, Nat.reduceLT, Nat.reduceLeDiff, Nat.reduceEqDiff, Nat.reduceBEq, Nat.reduceBNe, Nat.reducePow, Int.reduceEq, Int.reduceNe, Int.reduceLT, Int.reduceLE, Int.reduceGT, Int.reduceGE, Int.reduceAdd, Int.reduceSub, Int.reduceNeg, Int.reduceMul, not_true_eq_false, not_false_eq_true, true_and, and_true, Int.reduceToNat]
  refine brK_dec (fun h1 => ?_) (fun h1 => ?_)
  · simp only [go_sem, Nat.reduceAdd, Nat.reduceSub, Nat.reduceMul, Nat.reduceLT, Nat.reduceLeDiff, Nat.reduceEqDiff, Nat.reduceBEq, Nat.reduceBNe, Nat.reducePow, Int.reduceEq, Int.reduceNe, Int.reduceLT, Int.reduceLE, Int.reduceGT, Int.reduceGE, Int.reduceAdd, Int.reduceSub, Int.reduceNeg, Int.reduceMul, not_true_eq_false, not_false_eq_true, true_and, and_true, Int.reduceToNat]
    rw [if_pos h1, armA_mk]
    exact ⟨_, rfl, false, .refl _⟩
  · rw [if_neg h1]
    simp only [go_sem, Nat.reduceAdd, Nat.reduceSub, Nat.reduceMul, Nat.reduceLT, Nat.reduceLeDiff, Nat.reduceEqDiff, Nat.reduceBEq, Nat.reduceBNe, Nat.reducePow, Int.reduceEq, Int.reduceNe, Int.reduceLT, Int.reduceLE, Int.reduceGT, Int.reduceGE, Int.reduceAdd, Int.reduceSub, Int.reduceNeg, Int.reduceMul, not_true_eq_false, not_false_eq_true, true_and, and_true, Int.reduceToNat]
    refine brK_dec (fun h2 => ?_) (fun h2 => ?_)
    · simp only [go_sem, Nat.reduceAdd, Nat.reduceSub, Nat.reduceMul, Nat.reduceLT, Nat.reduceLeDiff, Nat.reduceEqDiff, Nat.reduceBEq, Nat.reduceBNe, Nat.reducePow, Int.reduceEq, Int.reduceNe, Int.reduceLT, Int.reduceLE, Int.reduceGT, Int.reduceGE, Int.reduceAdd, Int.reduceSub, Int.reduceNeg, Int.reduceMul, not_true_eq_false, not_false_eq_true, true_and, and_true, Int.reduceToNat]
      rw [if_pos h2, armA_mk]
      exact ⟨_, rfl, false, .refl _⟩
    · rw [if_neg h2]
      simp only [go_sem, Nat.reduceAdd, Nat.reduceSub, Nat.reduceMul, Nat.reduceLT, Nat.reduceLeDiff, Nat.reduceEqDiff, Nat.reduceBEq, Nat.reduceBNe, Nat.reducePow, Int.reduceEq, Int.reduceNe, Int.reduceLT, Int.reduceLE, Int.reduceGT, Int.reduceGE, Int.reduceAdd, Int.reduceSub, Int.reduceNeg, Int.reduceMul, not_true_eq_false, not_false_eq_true, true_and, and_true, Int.reduceToNat]
      refine PCall.call (ctor128 _ _) ?_
      generalize ctorG nm L 0 = d
      obtain ⟨a, b, ok⟩ := d
      cases ok with
      | true =>
        simp only [go_sem, Nat.reduceAdd, Nat.reduceSub, Nat.reduceMul, Nat.reduceLT, Nat.reduceLeDiff, Nat.reduceEqDiff, Nat.reduceBEq, Nat.reduceBNe, Nat.reducePow, Int.reduceEq, Int.reduceNe, Int.reduceLT, Int.reduceLE, Int.reduceGT, Int.reduceGE, Int.reduceAdd, Int.reduceSub, Int.reduceNeg, Int.reduceMul, not_true_eq_false, not_false_eq_true, true_and, and_true, Int.reduceToNat]
        rw [if_pos trivial, armA_mk]
        exact ⟨_, rfl, false, .refl _⟩
      | false =>
        simp only [go_sem, Nat.reduceAdd, Nat.reduceSub, Nat.reduceMul, Nat.reduceLT, Nat.reduceLeDiff, Nat.reduceEqDiff, Nat.reduceBEq, Nat.reduceBNe, Nat.reducePow, Int.reduceEq, Int.reduceNe, Int.reduceLT, Int.reduceLE, Int.reduceGT, Int.reduceGE, Int.reduceAdd, Int.reduceSub, Int.reduceNeg, Int.reduceMul, not_true_eq_false, not_false_eq_true, true_and, and_true, Int.reduceToNat]
        rw [if_neg (by simp), armA_mk]
        exact ⟨_, rfl, false, .refl _⟩
end Go.Proofs.YtipcmpkihhfhcaaGreatDoor

namespace Go.Proofs.YtipcmpkihhfhcaaGreatDoor
open Go.Abs
set_option maxRecDepth 20000
set_option linter.unusedSimpArgs false
set_option linter.unusedVariables false
set_option maxHeartbeats 1000000
attribute [local irreducible] vc vcOps vcStep vcGuard prK hrK gK gsK brK callK ElemK SeqK BlockK ScopeK OpsK CallK LoopK LoopGo finPost ACall PCall PCallE BCall vqOps vqStep vqGuard qrK heK pcK gqK gqsK QOpsK qcallK DrawK
noncomputable def eqB {α : Type} (x y : α) : Bool := @decide (x = y) (Classical.propDecidable _)
theorem eqB_eq {α : Type} {x y : α} (h : x = y) : eqB x y = true := by unfold eqB; simp [h]
theorem eqB_ne {α : Type} {x y : α} (h : ¬ x = y) : eqB x y = false := by unfold eqB; simp [h]
theorem eqB_t {α : Type} {x y : α} (h : eqB x y = true) : x = y := by unfold eqB at h; simpa using h
theorem eqB_f {α : Type} {x y : α} (h : eqB x y = false) : ¬ x = y := by unfold eqB at h; simpa using h
attribute [irreducible] eqB
theorem len_ne {α : Type} {l m : List α} (h : ¬ l.length = m.length) : ¬ l = m := fun e => h (congrArg List.length e)
theorem at_ne' {α : Type} {l m : List α} {i : Nat} {x y : α} (hx : l[((i : Int)).toNat]? = some x) (hy : m[((i : Int)).toNat]? = some y) (h : ¬ x = y) : ¬ l = m := by
  rintro rfl
  rw [hx] at hy
  exact h (Option.some.inj hy)
theorem at_ne {α : Type} {l m : List α} {i : Nat} {x y : α} (hx : l[((i : Int)).toNat]? = some x) (hy : m[((i : Int)).toNat]? = some y) (h : x ≠ y) : ¬ l = m := at_ne' hx hy h
theorem take_eq_step' {α : Type} {l m : List α} {i : Nat} {x y : α} (hp : l.take i = m.take i) (hx : l[((i : Int)).toNat]? = some x) (hy : m[((i : Int)).toNat]? = some y) (h : x = y) : l.take (i + 1) = m.take (i + 1) := by
  subst h
  rw [Int.toNat_natCast] at hx hy
  rw [List.take_add_one, List.take_add_one, hp, hx, hy]
theorem take_eq_step {α : Type} {l m : List α} {i : Nat} {x y : α} (hp : l.take i = m.take i) (hx : l[((i : Int)).toNat]? = some x) (hy : m[((i : Int)).toNat]? = some y) (h : ¬ x ≠ y) : l.take (i + 1) = m.take (i + 1) := take_eq_step' hp hx hy (Classical.not_not.1 h)
theorem take_eq_full {α : Type} {l m : List α} {i : Nat} (h : l.length = m.length) (hp : l.take i = m.take i) (hi : l.length ≤ i) : l = m := by
  rw [List.take_of_length_le hi, List.take_of_length_le (by omega)] at hp
  exact hp

theorem n181 : (Tryz.f181.name == "runtime.NumGoroutine") = false := by kernel_rfl
theorem equalStr (l m : List ByteArray) : PCall Tryz.prog 181 [.lst 1 (l.map (AV.s)) none, .lst 1 (m.map (AV.s)) none] (.b (eqB l m)) := by
  refine pcall_of_vc tabOK Tryz.func181 n181 rfl (by repeat' first | exact pure_nil | refine pure_cons ?_ ?_ | exact .raw _ | exact pure_enc _ | exact pure_lst _ | exact pure_strs _ | exact pure_ints _ | exact DTy.pure _ | exact DTy.pures _ | exact DEnum.pure _ | exact DEnum.pures _ | exact DDecl.pure _ | exact DDecl.pures _ | exact DEq.pure _ | exact DEq.pures _ | exact DNode.pure _ | exact DNode.pures _ | exact DProg.pure _ | exact DProg.pures _ | exact DCond.pure _ | exact DCond.pures _ | exact DAtom.pure _ | exact DAtom.pures _ | exact DPlain.pure _ | exact DPlain.pures _ | exact DVar.pure _ | exact DVar.pures _ | exact DFlow.pure _ | exact DFlow.pures _ | exact DFlows.pure _ | exact DFlows.pures _ | exact DAsked.pure _ | exact DAsked.pures _ | exact DFault.pure _ | exact DFault.pures _ | exact DCell.pure _ | exact DCell.pures _ | exact DReply.pure _ | exact DReply.pures _ | exact DAsk.pure _ | exact DAsk.pures _ | exact DOp.pure _ | exact DOp.pures _ | exact pure_list (fun x => DDecl.pures x) _ | exact .fn _ _ _ pure_nil pure_nil | refine .agg _ ?_ | refine .tup _ ?_ | assumption) (by repeat' first | exact pure_nil | refine pure_cons ?_ ?_ | exact .raw _ | exact pure_enc _ | exact pure_lst _ | exact pure_strs _ | exact pure_ints _ | exact DTy.pure _ | exact DTy.pures _ | exact DEnum.pure _ | exact DEnum.pures _ | exact DDecl.pure _ | exact DDecl.pures _ | exact DEq.pure _ | exact DEq.pures _ | exact DNode.pure _ | exact DNode.pures _ | exact DProg.pure _ | exact DProg.pures _ | exact DCond.pure _ | exact DCond.pures _ | exact DAtom.pure _ | exact DAtom.pures _ | exact DPlain.pure _ | exact DPlain.pures _ | exact DVar.pure _ | exact DVar.pures _ | exact DFlow.pure _ | exact DFlow.pures _ | exact DFlows.pure _ | exact DFlows.pures _ | exact DAsked.pure _ | exact DAsked.pures _ | exact DFault.pure _ | exact DFault.pures _ | exact DCell.pure _ | exact DCell.pures _ | exact DReply.pure _ | exact DReply.pures _ | exact DAsk.pure _ | exact DAsk.pures _ | exact DOp.pure _ | exact DOp.pures _ | exact pure_list (fun x => DDecl.pures x) _ | exact .fn _ _ _ pure_nil pure_nil | refine .agg _ ?_ | refine .tup _ ?_ | assumption) (n := 26) rfl (rs := [.tmp 4]) rfl ?_
  repeat' first
    | exact finB rfl
    | exact finI rfl
    | exact finP rfl
    | exact absurd rfl (by assumption)
    | simp only [go_sem, Nat.reduceAdd, Nat.reduceSub, Nat.reduceMul, Nat.reduceLT, Nat.reduceLeDiff, Nat.reduceEqDiff, Nat.reduceBEq, Nat.reduceBNe, Nat.reducePow, Int.reduceEq, Int.reduceNe, Int.reduceLT, Int.reduceLE, Int.reduceGT, Int.reduceGE, Int.reduceAdd, Int.reduceSub, Int.reduceNeg, Int.reduceMul, not_true_eq_false, not_false_eq_true, true_and, and_true, Int.reduceToNat]
    | (intro _)
    | refine brK_dec (fun _ => ?_) (fun _ => ?_)
    | refine brK_any ?_ ?_
    | refine gK_dec (fun _ => ?_) (fun _ => ?_)
    | refine gK_any ?_ ?_
    | refine gqK_dec (fun _ => ?_) (fun _ => ?_)
    | refine ⟨by omega, ?_⟩
    | refine elemHave (by omega) (by assumption) ?_
    | refine elemMap (by omega) (by omega) (fun x hx => ?_)
    | refine drawK mo (by kernel_rfl) ?_
    | (rw [eqB_ne (len_ne (l := l) (m := m) (by omega))]; exact ⟨_, rfl, false, .refl _⟩)
    | (rw [eqB_ne (at_ne (l := l) (m := m) (i := i) (by assumption) (by assumption) (by assumption))]; exact ⟨_, rfl, false, .refl _⟩)
    | (rw [eqB_eq (take_eq_full (l := l) (m := m) (i := i) (by omega) hpi (by omega))]; exact ⟨_, rfl, false, .refl _⟩)
    | exact loopFrH _ (by omega) ⟨i + 1, by omega, rfl, take_eq_step hpi (by assumption) (by assumption) (by assumption), rfl⟩ (.next rfl (by omega) .nil) rfl
    | (refine loop_frH [4, 5, 13, 14, 15, 16, 17, 18, 19, 20, 21, 22, 23, 24, 25] (fun mm_ CC_ => ∃ (i : Nat), i ≤ l.length ∧ mm_ = l.length - i ∧ (l.take i = m.take i) ∧ CC_ = [(13, .raw (.int .i64 ((i : Nat) : Int)))]) (l.length) _ ⟨0, by omega, by omega, rfl, rfl⟩ (.cons rfl .nil) ?_; rintro mm_ CC_ ji ⟨i, hi, rfl, hpi, rfl⟩)

end Go.Proofs.YtipcmpkihhfhcaaGreatDoor

namespace Go.Proofs.YtipcmpkihhfhcaaGreatDoor
open Go.Abs
set_option maxRecDepth 20000
set_option linter.unusedSimpArgs false
set_option linter.unusedVariables false
set_option maxHeartbeats 1000000
attribute [local irreducible] vc vcOps vcStep vcGuard prK hrK gK gsK brK callK ElemK SeqK BlockK ScopeK OpsK CallK LoopK LoopGo finPost ACall PCall PCallE BCall vqOps vqStep vqGuard qrK heK pcK gqK gqsK QOpsK qcallK DrawK
def rightTyF (n : Nat) (t : DTy) : Bool := decide (1 ≤ t.Kind ∧ t.Kind ≤ 3 ∧ 0 ≤ t.Len ∧ t.Len ≤ 8 ∧ ((t.Kind = 3 ∧ 0 ≤ t.Enum ∧ t.Enum < n) ∨ (¬ t.Kind = 3 ∧ t.Enum = 0)))
def bareF (d : DDecl) : Bool := decide (d.On = ⟨#[]⟩) && decide (d.Ctor = ⟨#[]⟩)
def declaredF (n : Nat) (d : DDecl) : Bool := lowF d.Name && rightTyF n d.Ty && (bareF d || (lowF d.On && armE d.Ctor))
noncomputable def eqF (x : DEq) : Bool := decide (0 < x.Names.length) && rightE x.E && (decide (x.Names.length ≤ 1) || decide (x.E.kind = 13)) && x.Names.all lowF
def bareN (x : DNode) : Bool := (x.Ins ++ x.Outs).all fun d => decide (d.On = ⟨#[]⟩)
noncomputable def nodeF (n : Nat) (x : DNode) : Bool := (allV x).all (declaredF n) && bareN x && x.Eqs.all eqF && (lowF x.Name && decide (0 < x.Outs.length))
def greatE (l : List DEnum) : Bool := decide (l.length > 4) || l.any fun e => decide (e.Ctors.length > 6)
def rightEn (l : List DEnum) : Bool := l.all (fun e => lowF e.Name && decide (0 < e.Ctors.length)) && (l.flatMap DEnum.Ctors).all highF
noncomputable def enumsF (l : List DEnum) : Int := if greatE l = true then 4 else if rightEn l = true then (if (onceB (l.map DEnum.Name) && onceB (l.flatMap DEnum.Ctors)) = true then 0 else 6) else 1
def greatF (x : DNode) : Bool := decide (x.Ins.length > 6) || decide (x.Outs.length > 6) || decide (x.Vars.length > 12) || decide (x.Eqs.length > 18)
noncomputable def onceN (x : DNode) : Bool := onceB ((allV x).map DDecl.Name)
noncomputable def checkF (p : DProg) : Int :=
  if ¬ enumsF p.Enums = 0 then enumsF p.Enums
  else if p.Nodes.length = 0 then 5
  else if (decide (p.Nodes.length > 6) || p.Nodes.any greatF) = true then 4
  else if p.Nodes.all (nodeF p.Enums.length) = true then (if (p.Nodes.all onceN && onceB (p.Nodes.map DNode.Name)) = true then 0 else 6) else 1
theorem all_next {α : Type} {l : List α} {i : Nat} {x : α} (f : α → Bool) (hx : l[i]? = some x) : (l.take (i + 1)).all f = ((l.take i).all f && f x) := by
  obtain ⟨hi, rfl⟩ := List.getElem?_eq_some_iff.1 hx
  rw [List.take_succ_eq_append_getElem hi, List.all_append]
  simp
theorem all_nextZ {α : Type} {l : List α} {i : Nat} {x : α} (f : α → Bool) (hx : l[((i : Nat) : Int).toNat]? = some x) : (l.take (i + 1)).all f = ((l.take i).all f && f x) := all_next f (by simpa using hx)
theorem flatMap_next {α β : Type} {l : List α} {i : Nat} {x : α} (f : α → List β) (hx : l[i]? = some x) : (l.take (i + 1)).flatMap f = (l.take i).flatMap f ++ f x := by
  obtain ⟨hi, rfl⟩ := List.getElem?_eq_some_iff.1 hx
  rw [List.take_succ_eq_append_getElem hi, List.flatMap_append]
  simp
theorem finIq {T : TypeId → TI} {t : Nat} {s : List AV} {h : List Blk} {a b : Int} (hs : s[t]? = some (.i a)) (he : a = b) : Go.Abs.Fin T [.tmp t] (.i b) s h := he ▸ ⟨[.i a], by simp only [resAV, opd, List.getD_eq_getElem?_getD, hs]; rfl, false, .refl _⟩
theorem bare_at {x : DNode} {i : Nat} {d : DDecl} (h : (allV x)[i]? = some d) (hi : i < x.Ins.length + x.Outs.length) : (x.Ins ++ x.Outs)[i]? = some d := by
  have e : allV x = (x.Ins ++ x.Outs) ++ x.Vars := by simp [allV]
  rw [e, List.getElem?_append_left (by simpa using hi)] at h
  exact h
theorem bare_next {x : DNode} {i : Nat} {d : DDecl} (h : ∀ d ∈ (x.Ins ++ x.Outs).take i, decide (d.On = ⟨#[]⟩) = true) (hx : (allV x)[((i : Nat) : Int).toNat]? = some d) (hc : i < x.Ins.length + x.Outs.length → d.On = ⟨#[]⟩) : ∀ d ∈ (x.Ins ++ x.Outs).take (i + 1), decide (d.On = ⟨#[]⟩) = true := by
  rw [Int.toNat_natCast] at hx
  by_cases hi : i < x.Ins.length + x.Outs.length
  · exact take_all h (bare_at hx hi) (decide_eq_true (hc hi))
  · rw [List.take_of_length_le (by simp; omega)] at h ⊢
    exact h
theorem bare_no {x : DNode} {i : Nat} {d : DDecl} (hx : (allV x)[((i : Nat) : Int).toNat]? = some d) (hi : i < x.Ins.length + x.Outs.length) (hd : ¬ d.On = ⟨#[]⟩) : bareN x = false := by
  rw [Int.toNat_natCast] at hx
  unfold bareN
  exact List.all_eq_false.2 ⟨d, List.mem_of_getElem? (bare_at hx hi), by simp [hd]⟩
theorem bare_yes {x : DNode} {i : Nat} (h : ∀ d ∈ (x.Ins ++ x.Outs).take i, decide (d.On = ⟨#[]⟩) = true) (hi : (allV x).length ≤ i) : bareN x = true := by
  unfold bareN
  rw [List.take_of_length_le (by simp [allV] at hi; simp; omega)] at h
  exact List.all_eq_true.2 h
theorem node_no {n : Nat} {x : DNode} {i : Nat} {d : DDecl} (hx : (allV x)[((i : Nat) : Int).toNat]? = some d) (hd : declaredF n d = false) : nodeF n x = false := by
  unfold nodeF
  rw [List.all_eq_false.2 ⟨d, List.mem_of_getElem? hx, by simp [hd]⟩]
  rfl
theorem node_no2 {n : Nat} {x : DNode} (hd : bareN x = false) : nodeF n x = false := by
  unfold nodeF
  simp [hd]
theorem node_no3 {n : Nat} {x : DNode} {i : Nat} {d : DEq} (hx : x.Eqs[((i : Nat) : Int).toNat]? = some d) (hd : eqF d = false) : nodeF n x = false := by
  unfold nodeF
  rw [List.all_eq_false.2 ⟨d, List.mem_of_getElem? hx, by simp [hd]⟩]
  simp
theorem node_yes {n : Nat} {x : DNode} {i j : Nat} (h1 : ∀ d ∈ (allV x).take i, declaredF n d = true) (hi : (allV x).length ≤ i) (h2 : bareN x = true) (h3 : ∀ d ∈ x.Eqs.take j, eqF d = true) (hj : x.Eqs.length ≤ j) : nodeF n x = (lowF x.Name && decide (0 < x.Outs.length)) := by
  unfold nodeF
  rw [List.all_eq_true.2 (take_full h1 hi), h2, List.all_eq_true.2 (take_full h3 hj)]
  simp
theorem en_arg1 {l : List DEnum} {i : Nat} {e : DEnum} (hg : greatE l = false) (hx : l[((i : Nat) : Int).toNat]? = some e) (h : (lowF e.Name && decide (0 < e.Ctors.length)) = false) : enumsF l = 1 := by
  unfold enumsF rightEn
  rw [hg, List.all_eq_false.2 ⟨e, List.mem_of_getElem? hx, by simp [h]⟩]
  simp
theorem en_arg2 {l : List DEnum} {i : Nat} {c : ByteArray} (hg : greatE l = false) (hx : (l.flatMap DEnum.Ctors)[((i : Nat) : Int).toNat]? = some c) (h : highF c = false) : enumsF l = 1 := by
  unfold enumsF rightEn
  rw [hg, List.all_eq_false.2 ⟨c, List.mem_of_getElem? hx, by simp [h]⟩]
  simp
theorem en_many {l : List DEnum} (hg : greatE l = true) : enumsF l = 4 := by unfold enumsF; simp [hg]
theorem en_great1 {l : List DEnum} (h : l.length > 4) : greatE l = true := by unfold greatE; simp [h]
theorem en_great2 {l : List DEnum} {i : Nat} {e : DEnum} (hx : l[((i : Nat) : Int).toNat]? = some e) (h : e.Ctors.length > 6) : greatE l = true := by
  unfold greatE
  rw [List.any_eq_true.2 ⟨e, List.mem_of_getElem? hx, decide_eq_true h⟩, Bool.or_true]
theorem en_small {l : List DEnum} {i : Nat} (h : ¬ l.length > 4) (h2 : ∀ e ∈ l.take i, e.Ctors.length ≤ 6) (hi : l.length ≤ i) : greatE l = false := by
  unfold greatE
  rw [decide_eq_false h, Bool.false_or, List.any_eq_false]
  intro e he
  have := take_full h2 hi e he
  simp; omega
theorem en_end {l : List DEnum} {i j : Nat} (hg : greatE l = false) (h1 : ∀ e ∈ l.take i, (lowF e.Name && decide (0 < e.Ctors.length)) = true) (hi : l.length ≤ i) (h2 : ∀ c ∈ (l.flatMap DEnum.Ctors).take j, highF c = true) (hj : (l.flatMap DEnum.Ctors).length ≤ j) : enumsF l = if (onceB (l.map DEnum.Name) && onceB (l.flatMap DEnum.Ctors)) = true then 0 else 6 := by
  unfold enumsF rightEn
  rw [hg, List.all_eq_true.2 (take_full h1 hi), List.all_eq_true.2 (take_full h2 hj)]
  simp
end Go.Proofs.YtipcmpkihhfhcaaGreatDoor

namespace Go.Proofs.YtipcmpkihhfhcaaGreatDoor
open Go.Abs
set_option maxRecDepth 20000
set_option linter.unusedSimpArgs false
set_option linter.unusedVariables false
set_option maxHeartbeats 1000000
attribute [local irreducible] vc vcOps vcStep vcGuard prK hrK gK gsK brK callK ElemK SeqK BlockK ScopeK OpsK CallK LoopK LoopGo finPost ACall PCall PCallE BCall vqOps vqStep vqGuard qrK heK pcK gqK gqsK QOpsK qcallK DrawK
def memB (s : ByteArray) (D : List ByteArray) : Bool := D.any fun t => decide (t = s)
theorem memB_iff {s : ByteArray} {D : List ByteArray} : memB s D = true ↔ s ∈ D := by
  unfold memB
  rw [List.any_eq_true]
  exact ⟨fun ⟨t, h, e⟩ => of_decide_eq_true e ▸ h, fun h => ⟨s, h, by simp⟩⟩
def isF (n : DNode) (s : ByteArray) : Bool := (decl n s).2
def armOk (L : List DEnum) (s : ByteArray) : Bool := (armF L s).2.2
def inF (n : DNode) (s : ByteArray) : Bool := n.Ins.any fun d => decide (d.Name = s)
def clockedF (L : List DEnum) (n : DNode) (d : DDecl) : Bool := decide (d.On = ⟨#[]⟩) || (isF n d.On && armOk L d.Ctor)
def leadsF (p : DProg) (at_ : Int) (n : DNode) (e : Ex) : Bool := e.arms.all (armOk p.Enums) && (if e.kind = 3 ∨ e.kind = 11 ∨ e.kind = 12 then isF n e.name else if e.kind = 4 then armOk p.Enums e.name else if e.kind = 13 then decide (0 ≤ findF p e.name ∧ findF p e.name < at_) else decide (¬ e.kind = 17))
def namesErr (n : DNode) : List ByteArray → List ByteArray → Int
  | _, [] => 0
  | D, s :: r => if isF n s = false then 5 else if (inF n s || memB s D) = true then 6 else namesErr n (D ++ [s]) r
def eqErr (p : DProg) (at_ : Int) (n : DNode) (D : List ByteArray) (q : DEq) : Int :=
  if namesErr n D q.Names = 0 then (if (parts q.E).all (leadsF p at_ n) = true then 0 else 5) else namesErr n D q.Names
def eqsErr (p : DProg) (at_ : Int) (n : DNode) : Nat → List ByteArray → List DEq → Int × Int
  | _, _, [] => (-1, 0)
  | i, D, q :: r => if eqErr p at_ n D q = 0 then eqsErr p at_ n (i + 1) (D ++ q.Names) r else ((i : Int), eqErr p at_ n D q)
def allDef (n : DNode) : Bool := (n.Outs ++ n.Vars).all fun d => memB d.Name (n.Eqs.flatMap DEq.Names)
def nodeFault (p : DProg) (at_ : Int) (n : DNode) : DFault :=
  if (allV n).all (clockedF p.Enums n) = true then
    (if (eqsErr p at_ n 0 [] n.Eqs).2 = 0 then (if allDef n = true then ⟨0, 0, 0⟩ else ⟨at_, -1, 5⟩) else ⟨at_, (eqsErr p at_ n 0 [] n.Eqs).1, (eqsErr p at_ n 0 [] n.Eqs).2⟩)
  else ⟨at_, -1, 5⟩
def nodesFault (p : DProg) : Nat → List DNode → DFault
  | _, [] => ⟨0, 0, 0⟩
  | i, n :: r => if (nodeFault p (i : Int) n).Err = 0 then nodesFault p (i + 1) r else nodeFault p (i : Int) n
noncomputable def scopeF (p : DProg) : DFault := if checkF p = 0 then nodesFault p 0 p.Nodes else ⟨0, -1, checkF p⟩
theorem namesErr_vals (n : DNode) : ∀ (l D : List ByteArray), namesErr n D l = 0 ∨ namesErr n D l = 5 ∨ namesErr n D l = 6
  | [], _ => .inl rfl
  | s :: r, D => by
    rw [namesErr]
    split
    · exact .inr (.inl rfl)
    · split
      · exact .inr (.inr rfl)
      · exact namesErr_vals n r _
theorem eqErr_vals (p : DProg) (a : Int) (n : DNode) (D : List ByteArray) (q : DEq) : eqErr p a n D q = 0 ∨ eqErr p a n D q = 5 ∨ eqErr p a n D q = 6 := by
  unfold eqErr
  split
  · split
    · exact .inl rfl
    · exact .inr (.inl rfl)
  · exact namesErr_vals n _ _
theorem eqsErr_vals (p : DProg) (a : Int) (n : DNode) : ∀ (l : List DEq) (i : Nat) (D : List ByteArray), (eqsErr p a n i D l).2 = 0 ∨ (eqsErr p a n i D l).2 = 5 ∨ (eqsErr p a n i D l).2 = 6
  | [], _, _ => .inl rfl
  | q :: r, i, D => by
    rw [eqsErr]
    split
    · exact eqsErr_vals p a n r _ _
    · exact eqErr_vals p a n D q
theorem nodeFault_zero {p : DProg} {a : Int} {n : DNode} (h : (nodeFault p a n).Err = 0) : nodeFault p a n = ⟨0, 0, 0⟩ := by
  unfold nodeFault at *
  by_cases h1 : (allV n).all (clockedF p.Enums n) = true
  · rw [if_pos h1] at *
    by_cases h2 : (eqsErr p a n 0 [] n.Eqs).2 = 0
    · rw [if_pos h2] at *
      by_cases h3 : allDef n = true
      · rw [if_pos h3]
      · rw [if_neg h3] at h; simp at h
    · rw [if_neg h2] at h; exact absurd h h2
  · rw [if_neg h1] at h; simp at h
theorem names_next {n : DNode} {D l : List ByteArray} {i : Nat} {x : ByteArray} {E : Int} (hE : namesErr n (D ++ l.take i) (l.drop i) = E) (hx : l[((i : Nat) : Int).toNat]? = some x) (h1 : isF n x = true) (h2 : inF n x = false) (h3 : x ∉ D ++ l.take i) : namesErr n (D ++ l.take (i + 1)) (l.drop (i + 1)) = E := by
  rw [Int.toNat_natCast] at hx
  obtain ⟨hi, rfl⟩ := List.getElem?_eq_some_iff.1 hx
  rw [List.drop_eq_getElem_cons hi, namesErr, h1, h2, if_neg (by simp), if_neg (by rw [Bool.false_or, memB_iff]; exact h3)] at hE
  rw [List.take_succ_eq_append_getElem hi, ← List.append_assoc]
  exact hE
theorem names_5 {n : DNode} {D l : List ByteArray} {i : Nat} {x : ByteArray} {E : Int} (hE : namesErr n (D ++ l.take i) (l.drop i) = E) (hx : l[((i : Nat) : Int).toNat]? = some x) (h1 : isF n x = false) : E = 5 := by
  rw [Int.toNat_natCast] at hx
  obtain ⟨hi, rfl⟩ := List.getElem?_eq_some_iff.1 hx
  rw [List.drop_eq_getElem_cons hi, namesErr, h1, if_pos rfl] at hE
  exact hE.symm
theorem names_6 {n : DNode} {D l : List ByteArray} {i : Nat} {x : ByteArray} {E : Int} (hE : namesErr n (D ++ l.take i) (l.drop i) = E) (hx : l[((i : Nat) : Int).toNat]? = some x) (h1 : isF n x = true) (h2 : inF n x = true ∨ x ∈ D ++ l.take i) : E = 6 := by
  rw [Int.toNat_natCast] at hx
  obtain ⟨hi, rfl⟩ := List.getElem?_eq_some_iff.1 hx
  rw [List.drop_eq_getElem_cons hi, namesErr, h1, if_neg (by simp), if_pos (by rcases h2 with h2 | h2; (rw [h2]; rfl); (rw [memB_iff.2 h2, Bool.or_true]))] at hE
  exact hE.symm
theorem names_0 {n : DNode} {D l : List ByteArray} {i : Nat} {E : Int} (hE : namesErr n (D ++ l.take i) (l.drop i) = E) (hi : l.length ≤ i) : E = 0 := by
  rw [List.drop_of_length_le hi, namesErr] at hE
  exact hE.symm
theorem eqs_next {p : DProg} {a : Int} {n : DNode} {l : List DEq} {i : Nat} {q : DEq} {E : Int × Int} (hE : eqsErr p a n i ((l.take i).flatMap DEq.Names) (l.drop i) = E) (hx : l[((i : Nat) : Int).toNat]? = some q) (h : eqErr p a n ((l.take i).flatMap DEq.Names) q = 0) : eqsErr p a n (i + 1) ((l.take (i + 1)).flatMap DEq.Names) (l.drop (i + 1)) = E := by
  rw [Int.toNat_natCast] at hx
  rw [flatMap_next _ hx]
  obtain ⟨hi, rfl⟩ := List.getElem?_eq_some_iff.1 hx
  rw [List.drop_eq_getElem_cons hi, eqsErr, if_pos h] at hE
  exact hE
theorem eqs_at {p : DProg} {a : Int} {n : DNode} {l : List DEq} {i : Nat} {q : DEq} {E : Int × Int} (hE : eqsErr p a n i ((l.take i).flatMap DEq.Names) (l.drop i) = E) (hx : l[((i : Nat) : Int).toNat]? = some q) (h : ¬ eqErr p a n ((l.take i).flatMap DEq.Names) q = 0) : E = ((i : Int), eqErr p a n ((l.take i).flatMap DEq.Names) q) := by
  rw [Int.toNat_natCast] at hx
  obtain ⟨hi, rfl⟩ := List.getElem?_eq_some_iff.1 hx
  rw [List.drop_eq_getElem_cons hi, eqsErr, if_neg h] at hE
  exact hE.symm
theorem eqs_0 {p : DProg} {a : Int} {n : DNode} {l : List DEq} {i : Nat} {E : Int × Int} (hE : eqsErr p a n i ((l.take i).flatMap DEq.Names) (l.drop i) = E) (hi : l.length ≤ i) : E = (-1, 0) := by
  rw [List.drop_of_length_le hi, eqsErr] at hE
  exact hE.symm
theorem nodes_next {p : DProg} {l : List DNode} {i : Nat} {n : DNode} {E : DFault} (hE : nodesFault p i (l.drop i) = E) (hx : l[((i : Nat) : Int).toNat]? = some n) (h : (nodeFault p (i : Int) n).Err = 0) : nodesFault p (i + 1) (l.drop (i + 1)) = E := by
  rw [Int.toNat_natCast] at hx
  obtain ⟨hi, rfl⟩ := List.getElem?_eq_some_iff.1 hx
  rw [List.drop_eq_getElem_cons hi, nodesFault, if_pos h] at hE
  exact hE
theorem nodes_at {p : DProg} {l : List DNode} {i : Nat} {n : DNode} {E : DFault} (hE : nodesFault p i (l.drop i) = E) (hx : l[((i : Nat) : Int).toNat]? = some n) (h : ¬ (nodeFault p (i : Int) n).Err = 0) : E = nodeFault p (i : Int) n := by
  rw [Int.toNat_natCast] at hx
  obtain ⟨hi, rfl⟩ := List.getElem?_eq_some_iff.1 hx
  rw [List.drop_eq_getElem_cons hi, nodesFault, if_neg h] at hE
  exact hE.symm
theorem nodes_0 {p : DProg} {l : List DNode} {i : Nat} {E : DFault} (hE : nodesFault p i (l.drop i) = E) (hi : l.length ≤ i) : E = ⟨0, 0, 0⟩ := by
  rw [List.drop_of_length_le hi, nodesFault] at hE
  exact hE.symm
/-- What is known of a name where D is defined. -/
def knF (n : DNode) (D : List ByteArray) (s : ByteArray) : Nat := if inF n s = true then 1 else if (n.Outs ++ n.Vars).any (fun d => decide (d.Name = s)) = true then (if memB s D = true then 3 else 2) else 0
theorem declF_any (s : ByteArray) : ∀ l : List DDecl, (declF s l).2 = l.any fun d => decide (d.Name = s)
  | [] => rfl
  | d :: l => by
    rw [declF]
    by_cases h : d.Name = s
    · simp [h]
    · rw [if_neg h, declF_any s l]; simp [h]
theorem isF_eq (n : DNode) (s : ByteArray) : isF n s = (inF n s || (n.Outs ++ n.Vars).any (fun d => decide (d.Name = s))) := by
  unfold isF decl inF
  rw [declF_any]
  simp [allV]
theorem kn_is (n : DNode) (D : List ByteArray) (s : ByteArray) : decide (0 < knF n D s) = isF n s := by
  rw [isF_eq]
  unfold knF
  cases inF n s
  · cases (n.Outs ++ n.Vars).any (fun d => decide (d.Name = s))
    · simp
    · cases memB s D <;> simp
  · simp
theorem kn_free {n : DNode} {D : List ByteArray} {s : ByteArray} (h : isF n s = true) : (knF n D s = 2) ↔ ¬ (inF n s = true ∨ s ∈ D) := by
  rw [isF_eq] at h
  rw [← memB_iff]
  unfold knF
  cases hi : inF n s
  · rw [hi] at h
    simp only [Bool.false_or] at h
    rw [h]
    cases memB s D <;> simp
  · simp
theorem kn_put {n : DNode} {D : List ByteArray} {s : ByteArray} (h : knF n D s = 2) : knF n (D ++ [s]) s = 3 ∧ ∀ t, ¬ t = s → knF n (D ++ [s]) t = knF n D t := by
  unfold knF at *
  split at h
  · omega
  · rename_i h1
    split at h
    · rename_i h2
      refine ⟨by rw [if_neg h1, if_pos h2, if_pos (memB_iff.2 (by simp))], fun t ht => ?_⟩
      have : memB t (D ++ [s]) = memB t D := by
        rw [Bool.eq_iff_iff, memB_iff, memB_iff]
        simp [ht]
      rw [this]
    · omega
theorem kn_done {n : DNode} {D : List ByteArray} {d : DDecl} (hd : d ∈ n.Outs ++ n.Vars) (hD : ∀ s ∈ D, inF n s = false) : (knF n D d.Name = 3) ↔ memB d.Name D = true := by
  unfold knF
  have h2 : (n.Outs ++ n.Vars).any (fun e => decide (e.Name = d.Name)) = true := List.any_eq_true.2 ⟨d, hd, by simp⟩
  rw [h2]
  cases q : memB d.Name D
  · simp; split <;> omega
  · rw [hD _ (memB_iff.1 q)]; simp
theorem namesErr_in {n : DNode} : ∀ {l D : List ByteArray}, namesErr n D l = 0 → ∀ s ∈ l, inF n s = false
  | [], _, _ => by simp
  | x :: r, D, h => by
    rw [namesErr] at h
    split at h
    · omega
    · split at h
      · omega
      · rename_i h1 h2
        intro s hs
        rcases List.mem_cons.1 hs with rfl | hs
        · cases hq : inF n s
          · rfl
          · simp [hq] at h2
        · exact namesErr_in h s hs
end Go.Proofs.YtipcmpkihhfhcaaGreatDoor

namespace Go.Proofs.YtipcmpkihhfhcaaGreatDoor
open Go.Abs
set_option maxRecDepth 20000
set_option linter.unusedSimpArgs false
set_option linter.unusedVariables false
set_option maxHeartbeats 1000000
attribute [local irreducible] vc vcOps vcStep vcGuard prK hrK gK gsK brK callK ElemK SeqK BlockK ScopeK OpsK CallK LoopK LoopGo finPost ACall PCall PCallE BCall vqOps vqStep vqGuard qrK heK pcK gqK gqsK QOpsK qcallK DrawK
theorem n126 : (Tryz.f126.name == "runtime.NumGoroutine") = false := by kernel_rfl
theorem small14 (c : Int) : PCall Tryz.prog 126 [.raw (.int .i32 c)] (.b (inB 97 122 c)) := by
  refine pcall_of_vc tabOK Tryz.func126 n126 rfl (by repeat' first | exact pure_nil | refine pure_cons ?_ ?_ | exact .raw _ | exact pure_enc _ | exact pure_lst _ | exact pure_strs _ | exact pure_ints _ | exact DTy.pure _ | exact DTy.pures _ | exact DEnum.pure _ | exact DEnum.pures _ | exact DDecl.pure _ | exact DDecl.pures _ | exact DEq.pure _ | exact DEq.pures _ | exact DNode.pure _ | exact DNode.pures _ | exact DProg.pure _ | exact DProg.pures _ | exact DCond.pure _ | exact DCond.pures _ | exact DAtom.pure _ | exact DAtom.pures _ | exact DPlain.pure _ | exact DPlain.pures _ | exact DVar.pure _ | exact DVar.pures _ | exact DFlow.pure _ | exact DFlow.pures _ | exact DFlows.pure _ | exact DFlows.pures _ | exact DAsked.pure _ | exact DAsked.pures _ | exact DFault.pure _ | exact DFault.pures _ | exact DCell.pure _ | exact DCell.pures _ | exact DReply.pure _ | exact DReply.pures _ | exact DAsk.pure _ | exact DAsk.pures _ | exact DOp.pure _ | exact DOp.pures _ | exact pure_list (fun x => DDecl.pures x) _ | exact .fn _ _ _ pure_nil pure_nil | refine .agg _ ?_ | refine .tup _ ?_ | assumption) (by repeat' first | exact pure_nil | refine pure_cons ?_ ?_ | exact .raw _ | exact pure_enc _ | exact pure_lst _ | exact pure_strs _ | exact pure_ints _ | exact DTy.pure _ | exact DTy.pures _ | exact DEnum.pure _ | exact DEnum.pures _ | exact DDecl.pure _ | exact DDecl.pures _ | exact DEq.pure _ | exact DEq.pures _ | exact DNode.pure _ | exact DNode.pures _ | exact DProg.pure _ | exact DProg.pures _ | exact DCond.pure _ | exact DCond.pures _ | exact DAtom.pure _ | exact DAtom.pures _ | exact DPlain.pure _ | exact DPlain.pures _ | exact DVar.pure _ | exact DVar.pures _ | exact DFlow.pure _ | exact DFlow.pures _ | exact DFlows.pure _ | exact DFlows.pures _ | exact DAsked.pure _ | exact DAsked.pures _ | exact DFault.pure _ | exact DFault.pures _ | exact DCell.pure _ | exact DCell.pures _ | exact DReply.pure _ | exact DReply.pures _ | exact DAsk.pure _ | exact DAsk.pures _ | exact DOp.pure _ | exact DOp.pures _ | exact pure_list (fun x => DDecl.pures x) _ | exact .fn _ _ _ pure_nil pure_nil | refine .agg _ ?_ | refine .tup _ ?_ | assumption) (n := 9) rfl (rs := [.tmp 2]) rfl ?_
  repeat' first
    | exact finB rfl
    | exact finI rfl
    | exact finP rfl
    | exact absurd rfl (by assumption)
    | simp only [go_sem, Nat.reduceAdd, Nat.reduceSub, Nat.reduceMul, Nat.reduceLT, Nat.reduceLeDiff, Nat.reduceEqDiff, Nat.reduceBEq, Nat.reduceBNe, Nat.reducePow, Int.reduceEq, Int.reduceNe, Int.reduceLT, Int.reduceLE, Int.reduceGT, Int.reduceGE, Int.reduceAdd, Int.reduceSub, Int.reduceNeg, Int.reduceMul, not_true_eq_false, not_false_eq_true, true_and, and_true, Int.reduceToNat]
    | (intro _)
    | refine brK_dec (fun _ => ?_) (fun _ => ?_)
    | refine brK_any ?_ ?_
    | refine gK_dec (fun _ => ?_) (fun _ => ?_)
    | refine gK_any ?_ ?_
    | refine gqK_dec (fun _ => ?_) (fun _ => ?_)
    | refine ⟨by omega, ?_⟩
    | refine elemHave (by omega) (by assumption) ?_
    | refine elemMap (by omega) (by omega) (fun x hx => ?_)
    | refine drawK mo (by kernel_rfl) ?_
    | (refine finBq rfl ?_; unfold inB; simp; omega)
theorem n129 : (Tryz.f129.name == "runtime.NumGoroutine") = false := by kernel_rfl
theorem great16 (c : Int) : PCall Tryz.prog 129 [.raw (.int .i32 c)] (.b (inB 65 90 c)) := by
  refine pcall_of_vc tabOK Tryz.func129 n129 rfl (by repeat' first | exact pure_nil | refine pure_cons ?_ ?_ | exact .raw _ | exact pure_enc _ | exact pure_lst _ | exact pure_strs _ | exact pure_ints _ | exact DTy.pure _ | exact DTy.pures _ | exact DEnum.pure _ | exact DEnum.pures _ | exact DDecl.pure _ | exact DDecl.pures _ | exact DEq.pure _ | exact DEq.pures _ | exact DNode.pure _ | exact DNode.pures _ | exact DProg.pure _ | exact DProg.pures _ | exact DCond.pure _ | exact DCond.pures _ | exact DAtom.pure _ | exact DAtom.pures _ | exact DPlain.pure _ | exact DPlain.pures _ | exact DVar.pure _ | exact DVar.pures _ | exact DFlow.pure _ | exact DFlow.pures _ | exact DFlows.pure _ | exact DFlows.pures _ | exact DAsked.pure _ | exact DAsked.pures _ | exact DFault.pure _ | exact DFault.pures _ | exact DCell.pure _ | exact DCell.pures _ | exact DReply.pure _ | exact DReply.pures _ | exact DAsk.pure _ | exact DAsk.pures _ | exact DOp.pure _ | exact DOp.pures _ | exact pure_list (fun x => DDecl.pures x) _ | exact .fn _ _ _ pure_nil pure_nil | refine .agg _ ?_ | refine .tup _ ?_ | assumption) (by repeat' first | exact pure_nil | refine pure_cons ?_ ?_ | exact .raw _ | exact pure_enc _ | exact pure_lst _ | exact pure_strs _ | exact pure_ints _ | exact DTy.pure _ | exact DTy.pures _ | exact DEnum.pure _ | exact DEnum.pures _ | exact DDecl.pure _ | exact DDecl.pures _ | exact DEq.pure _ | exact DEq.pures _ | exact DNode.pure _ | exact DNode.pures _ | exact DProg.pure _ | exact DProg.pures _ | exact DCond.pure _ | exact DCond.pures _ | exact DAtom.pure _ | exact DAtom.pures _ | exact DPlain.pure _ | exact DPlain.pures _ | exact DVar.pure _ | exact DVar.pures _ | exact DFlow.pure _ | exact DFlow.pures _ | exact DFlows.pure _ | exact DFlows.pures _ | exact DAsked.pure _ | exact DAsked.pures _ | exact DFault.pure _ | exact DFault.pures _ | exact DCell.pure _ | exact DCell.pures _ | exact DReply.pure _ | exact DReply.pures _ | exact DAsk.pure _ | exact DAsk.pures _ | exact DOp.pure _ | exact DOp.pures _ | exact pure_list (fun x => DDecl.pures x) _ | exact .fn _ _ _ pure_nil pure_nil | refine .agg _ ?_ | refine .tup _ ?_ | assumption) (n := 9) rfl (rs := [.tmp 2]) rfl ?_
  repeat' first
    | exact finB rfl
    | exact finI rfl
    | exact finP rfl
    | exact absurd rfl (by assumption)
    | simp only [go_sem, Nat.reduceAdd, Nat.reduceSub, Nat.reduceMul, Nat.reduceLT, Nat.reduceLeDiff, Nat.reduceEqDiff, Nat.reduceBEq, Nat.reduceBNe, Nat.reducePow, Int.reduceEq, Int.reduceNe, Int.reduceLT, Int.reduceLE, Int.reduceGT, Int.reduceGE, Int.reduceAdd, Int.reduceSub, Int.reduceNeg, Int.reduceMul, not_true_eq_false, not_false_eq_true, true_and, and_true, Int.reduceToNat]
    | (intro _)
    | refine brK_dec (fun _ => ?_) (fun _ => ?_)
    | refine brK_any ?_ ?_
    | refine gK_dec (fun _ => ?_) (fun _ => ?_)
    | refine gK_any ?_ ?_
    | refine gqK_dec (fun _ => ?_) (fun _ => ?_)
    | refine ⟨by omega, ?_⟩
    | refine elemHave (by omega) (by assumption) ?_
    | refine elemMap (by omega) (by omega) (fun x hx => ?_)
    | refine drawK mo (by kernel_rfl) ?_
    | (refine finBq rfl ?_; unfold inB; simp; omega)
theorem n176 : (Tryz.f176.name == "runtime.NumGoroutine") = false := by kernel_rfl
theorem digit20 (c : Int) : PCall Tryz.prog 176 [.raw (.int .i32 c)] (.b (inB 48 57 c)) := by
  refine pcall_of_vc tabOK Tryz.func176 n176 rfl (by repeat' first | exact pure_nil | refine pure_cons ?_ ?_ | exact .raw _ | exact pure_enc _ | exact pure_lst _ | exact pure_strs _ | exact pure_ints _ | exact DTy.pure _ | exact DTy.pures _ | exact DEnum.pure _ | exact DEnum.pures _ | exact DDecl.pure _ | exact DDecl.pures _ | exact DEq.pure _ | exact DEq.pures _ | exact DNode.pure _ | exact DNode.pures _ | exact DProg.pure _ | exact DProg.pures _ | exact DCond.pure _ | exact DCond.pures _ | exact DAtom.pure _ | exact DAtom.pures _ | exact DPlain.pure _ | exact DPlain.pures _ | exact DVar.pure _ | exact DVar.pures _ | exact DFlow.pure _ | exact DFlow.pures _ | exact DFlows.pure _ | exact DFlows.pures _ | exact DAsked.pure _ | exact DAsked.pures _ | exact DFault.pure _ | exact DFault.pures _ | exact DCell.pure _ | exact DCell.pures _ | exact DReply.pure _ | exact DReply.pures _ | exact DAsk.pure _ | exact DAsk.pures _ | exact DOp.pure _ | exact DOp.pures _ | exact pure_list (fun x => DDecl.pures x) _ | exact .fn _ _ _ pure_nil pure_nil | refine .agg _ ?_ | refine .tup _ ?_ | assumption) (by repeat' first | exact pure_nil | refine pure_cons ?_ ?_ | exact .raw _ | exact pure_enc _ | exact pure_lst _ | exact pure_strs _ | exact pure_ints _ | exact DTy.pure _ | exact DTy.pures _ | exact DEnum.pure _ | exact DEnum.pures _ | exact DDecl.pure _ | exact DDecl.pures _ | exact DEq.pure _ | exact DEq.pures _ | exact DNode.pure _ | exact DNode.pures _ | exact DProg.pure _ | exact DProg.pures _ | exact DCond.pure _ | exact DCond.pures _ | exact DAtom.pure _ | exact DAtom.pures _ | exact DPlain.pure _ | exact DPlain.pures _ | exact DVar.pure _ | exact DVar.pures _ | exact DFlow.pure _ | exact DFlow.pures _ | exact DFlows.pure _ | exact DFlows.pures _ | exact DAsked.pure _ | exact DAsked.pures _ | exact DFault.pure _ | exact DFault.pures _ | exact DCell.pure _ | exact DCell.pures _ | exact DReply.pure _ | exact DReply.pures _ | exact DAsk.pure _ | exact DAsk.pures _ | exact DOp.pure _ | exact DOp.pures _ | exact pure_list (fun x => DDecl.pures x) _ | exact .fn _ _ _ pure_nil pure_nil | refine .agg _ ?_ | refine .tup _ ?_ | assumption) (n := 9) rfl (rs := [.tmp 2]) rfl ?_
  repeat' first
    | exact finB rfl
    | exact finI rfl
    | exact finP rfl
    | exact absurd rfl (by assumption)
    | simp only [go_sem, Nat.reduceAdd, Nat.reduceSub, Nat.reduceMul, Nat.reduceLT, Nat.reduceLeDiff, Nat.reduceEqDiff, Nat.reduceBEq, Nat.reduceBNe, Nat.reducePow, Int.reduceEq, Int.reduceNe, Int.reduceLT, Int.reduceLE, Int.reduceGT, Int.reduceGE, Int.reduceAdd, Int.reduceSub, Int.reduceNeg, Int.reduceMul, not_true_eq_false, not_false_eq_true, true_and, and_true, Int.reduceToNat]
    | (intro _)
    | refine brK_dec (fun _ => ?_) (fun _ => ?_)
    | refine brK_any ?_ ?_
    | refine gK_dec (fun _ => ?_) (fun _ => ?_)
    | refine gK_any ?_ ?_
    | refine gqK_dec (fun _ => ?_) (fun _ => ?_)
    | refine ⟨by omega, ?_⟩
    | refine elemHave (by omega) (by assumption) ?_
    | refine elemMap (by omega) (by omega) (fun x hx => ?_)
    | refine drawK mo (by kernel_rfl) ?_
    | (refine finBq rfl ?_; unfold inB; simp; omega)

theorem inB_hi {a b c : Int} (hb : b < 128) (hc : 128 ≤ c) : inB a b c = false := by unfold inB; simp; omega
theorem nameG_all {F : Int → Bool} {t : ByteArray} (h : (bts t).all (fun c => okB c.toNat) = false) : nameG F t = false := by unfold nameG; rw [h]; simp
theorem nameG_first {F : Int → Bool} {t : ByteArray} (h : firstB F (bts t) = false) : nameG F t = false := by unfold nameG; rw [h]; simp
theorem firstB_at {F : Int → Bool} {t : ByteArray} {p : Nat} {c : UInt8} (hc : (bts t)[p]? = some c) (hp : (p : Int) = 0) : firstB F (bts t) = F c.toNat := by
  have : p = 0 := by omega
  subst this
  obtain ⟨l, hl⟩ := bts_cons hc
  rw [hl]; rfl
theorem okB_hi {c : Nat} (h : ¬ c < 128) : okB c = false := by unfold okB inB; simp; omega

theorem n125 : (Tryz.f125.name == "runtime.NumGoroutine") = false := by kernel_rfl
theorem name13 (t : ByteArray) (g : Nat) (F : Int → Bool) (hg : ∀ c : Int, PCall Tryz.prog g [.raw (.int .i32 c)] (.b (F c))) : PCall Tryz.prog 125 [.s t, .fn (.func g) [] []] (.b (nameG F t)) := by
  refine pcall_of_vc tabOK Tryz.func125 n125 rfl (pure_cons (.raw _) (pure_cons (.fn _ _ _ pure_nil pure_nil) pure_nil)) (.raw _) (n := 48) rfl (rs := [.tmp 4]) rfl ?_
  simp only [go_sem, Nat.reduceAdd, Nat.reduceSub, Nat.reduceMul, Nat.reduceLT, Nat.reduceLeDiff, Nat.reduceEqDiff, Nat.reduceBEq, Nat.reduceBNe, Nat.reducePow, Int.reduceEq, Int.reduceNe, Int.reduceLT, Int.reduceLE, Int.reduceGT, Int.reduceGE, Int.reduceAdd, Int.reduceSub, Int.reduceNeg, Int.reduceMul, not_true_eq_false, not_false_eq_true, true_and, and_true, Int.reduceToNat]
  refine loop_fr [4, 5, 6, 9, 10, 11, 12, 13, 14, 15, 16, 17, 18, 19, 20, 21, 22, 23, 24, 25, 26, 27, 28, 29, 30, 31, 32, 33, 34, 35, 36, 37, 38, 39] (fun m C hh => ∃ p : Nat, p ≤ t.size ∧ m = t.size - p ∧ (∀ c ∈ (bts t).take p, okB c.toNat = true) ∧ (0 < p → firstB F (bts t) = true) ∧ C = [] ∧ hh = [.it t p]) t.size _ ⟨0, by omega, by omega, by simp, by omega, rfl, rfl⟩ .nil ?_
  rintro m C j hh ⟨p, hp, rfl, hpi, hf, rfl, rfl⟩
  rcases Nat.lt_or_ge p t.size with hlt | hge
  · obtain ⟨c, hcc⟩ := bts_at hlt
    have hd : decide (p < t.size) = true := decide_eq_true hlt
    by_cases hlo : c.toNat < 128
    · simp only [go_sem, Nat.reduceAdd, Nat.reduceSub, Nat.reduceMul, Nat.reduceLT, Nat.reduceLeDiff, Nat.reduceEqDiff, Nat.reduceBEq, Nat.reduceBNe, Nat.reducePow, Int.reduceEq, Int.reduceNe, Int.reduceLT, Int.reduceLE, Int.reduceGT, Int.reduceGE, Int.reduceAdd, Int.reduceSub, Int.reduceNeg, Int.reduceMul, not_true_eq_false, not_false_eq_true, true_and, and_true, Int.reduceToNat, hd, decode_lo hcc hlo]
      repeat' first
        | (exfalso; omega)
        | simp only [go_sem, Nat.reduceAdd, Nat.reduceSub, Nat.reduceMul, Nat.reduceLT, Nat.reduceLeDiff, Nat.reduceEqDiff, Nat.reduceBEq, Nat.reduceBNe, Nat.reducePow, Int.reduceEq, Int.reduceNe, Int.reduceLT, Int.reduceLE, Int.reduceGT, Int.reduceGE, Int.reduceAdd, Int.reduceSub, Int.reduceNeg, Int.reduceMul, not_true_eq_false, not_false_eq_true, true_and, and_true, Int.reduceToNat]
        | refine brK_dec (fun _ => ?_) (fun _ => ?_)
        | refine gK_dec (fun _ => ?_) (fun _ => ?_)
        | (refine PCall.call (hg _) ?_; generalize hF : F (c.toNat : Nat) = q; cases q)
        | (refine PCall.call (small14 _) ?_; generalize hs : inB 97 122 (c.toNat : Nat) = q; cases q)
        | (refine PCall.call (great16 _) ?_; generalize hgr : inB 65 90 (c.toNat : Nat) = q; cases q)
        | (refine PCall.call (digit20 _) ?_; generalize hdi : inB 48 57 (c.toNat : Nat) = q; cases q)
        | (refine finBq rfl ?_; first
            | (have hp0 : (p : Int) = 0 := (by assumption); have hno : firstB F (bts t) = false := (by rw [firstB_at hcc hp0]; assumption); rw [nameG_first hno])
            | (have hno : okB c.toNat = false := (by simp [okB, *]; done); rw [nameG_all (all_no (p := fun c => okB c.toNat) hcc hno)]))
        | exact loopFr _ (by omega) ⟨p + 1, by omega, rfl, take_all hpi hcc (by simp [okB, *] <;> omega), fun _ => by first | exact hf (by omega) | (rw [firstB_at hcc (by assumption)]; assumption), rfl, rfl⟩ .nil rfl
    · have hhi := decode_hi hcc (by omega)
      simp only [go_sem, Nat.reduceAdd, Nat.reduceSub, Nat.reduceMul, Nat.reduceLT, Nat.reduceLeDiff, Nat.reduceEqDiff, Nat.reduceBEq, Nat.reduceBNe, Nat.reducePow, Int.reduceEq, Int.reduceNe, Int.reduceLT, Int.reduceLE, Int.reduceGT, Int.reduceGE, Int.reduceAdd, Int.reduceSub, Int.reduceNeg, Int.reduceMul, not_true_eq_false, not_false_eq_true, true_and, and_true, Int.reduceToNat, hd]
      generalize Utf8.decode t p = r at hhi ⊢
      obtain ⟨r, wd⟩ := r
      dsimp only at hhi
      have h1 : inB 97 122 (r : Int) = false := inB_hi (by omega) (by omega)
      have h2 : inB 65 90 (r : Int) = false := inB_hi (by omega) (by omega)
      have h3 : inB 48 57 (r : Int) = false := inB_hi (by omega) (by omega)
      repeat' first
        | (exfalso; omega)
        | simp only [go_sem, Nat.reduceAdd, Nat.reduceSub, Nat.reduceMul, Nat.reduceLT, Nat.reduceLeDiff, Nat.reduceEqDiff, Nat.reduceBEq, Nat.reduceBNe, Nat.reducePow, Int.reduceEq, Int.reduceNe, Int.reduceLT, Int.reduceLE, Int.reduceGT, Int.reduceGE, Int.reduceAdd, Int.reduceSub, Int.reduceNeg, Int.reduceMul, not_true_eq_false, not_false_eq_true, true_and, and_true, Int.reduceToNat]
        | refine brK_dec (fun _ => ?_) (fun _ => ?_)
        | refine gK_dec (fun _ => ?_) (fun _ => ?_)
        | (refine PCall.call (hg _) ?_; generalize hF : F (r : Nat) = q; cases q)
        | (refine PCall.call (small14 _) ?_; rw [h1])
        | (refine PCall.call (great16 _) ?_; rw [h2])
        | (refine PCall.call (digit20 _) ?_; rw [h3])
        | (refine finBq rfl ?_; rw [nameG_all (all_no (p := fun c => okB c.toNat) hcc (okB_hi hlo))])
  · have hd : decide (p < t.size) = false := decide_eq_false (by omega)
    simp only [go_sem, Nat.reduceAdd, Nat.reduceSub, Nat.reduceMul, Nat.reduceLT, Nat.reduceLeDiff, Nat.reduceEqDiff, Nat.reduceBEq, Nat.reduceBNe, Nat.reducePow, Int.reduceEq, Int.reduceNe, Int.reduceLT, Int.reduceLE, Int.reduceGT, Int.reduceGE, Int.reduceAdd, Int.reduceSub, Int.reduceNeg, Int.reduceMul, not_true_eq_false, not_false_eq_true, true_and, and_true, Int.reduceToNat, hd]
    have hall := all_yes (p := fun c => okB c.toNat) hpi hge
    repeat' first
      | (exfalso; omega)
      | simp only [go_sem, Nat.reduceAdd, Nat.reduceSub, Nat.reduceMul, Nat.reduceLT, Nat.reduceLeDiff, Nat.reduceEqDiff, Nat.reduceBEq, Nat.reduceBNe, Nat.reducePow, Int.reduceEq, Int.reduceNe, Int.reduceLT, Int.reduceLE, Int.reduceGT, Int.reduceGE, Int.reduceAdd, Int.reduceSub, Int.reduceNeg, Int.reduceMul, not_true_eq_false, not_false_eq_true, true_and, and_true, Int.reduceToNat]
      | refine brK_dec (fun _ => ?_) (fun _ => ?_)
      | refine gK_dec (fun _ => ?_) (fun _ => ?_)
      | (refine finBq rfl ?_; unfold nameG; rw [hall]; first | (have h0 : 0 < p := (by omega); have h1 : 1 ≤ t.size := (by omega); rw [hf h0, decide_eq_true h1]; by_cases q : t.size ≤ 12 <;> simp [q] <;> omega) | (have h1 : ¬ 1 ≤ t.size := (by omega); simp [h1]; done))

theorem n127 : (Tryz.f127.name == "runtime.NumGoroutine") = false := by kernel_rfl
theorem word10 (t : ByteArray) : PCall Tryz.prog 127 [.s t] (.b (wordF t)) := by
  refine pcall_of_vc tabOK Tryz.func127 n127 rfl (by repeat' first | exact pure_nil | refine pure_cons ?_ ?_ | exact .raw _ | exact pure_enc _ | exact pure_lst _ | exact pure_strs _ | exact pure_ints _ | exact DTy.pure _ | exact DTy.pures _ | exact DEnum.pure _ | exact DEnum.pures _ | exact DDecl.pure _ | exact DDecl.pures _ | exact DEq.pure _ | exact DEq.pures _ | exact DNode.pure _ | exact DNode.pures _ | exact DProg.pure _ | exact DProg.pures _ | exact DCond.pure _ | exact DCond.pures _ | exact DAtom.pure _ | exact DAtom.pures _ | exact DPlain.pure _ | exact DPlain.pures _ | exact DVar.pure _ | exact DVar.pures _ | exact DFlow.pure _ | exact DFlow.pures _ | exact DFlows.pure _ | exact DFlows.pures _ | exact DAsked.pure _ | exact DAsked.pures _ | exact DFault.pure _ | exact DFault.pures _ | exact DCell.pure _ | exact DCell.pures _ | exact DReply.pure _ | exact DReply.pures _ | exact DAsk.pure _ | exact DAsk.pures _ | exact DOp.pure _ | exact DOp.pures _ | exact pure_list (fun x => DDecl.pures x) _ | exact .fn _ _ _ pure_nil pure_nil | refine .agg _ ?_ | refine .tup _ ?_ | assumption) (by repeat' first | exact pure_nil | refine pure_cons ?_ ?_ | exact .raw _ | exact pure_enc _ | exact pure_lst _ | exact pure_strs _ | exact pure_ints _ | exact DTy.pure _ | exact DTy.pures _ | exact DEnum.pure _ | exact DEnum.pures _ | exact DDecl.pure _ | exact DDecl.pures _ | exact DEq.pure _ | exact DEq.pures _ | exact DNode.pure _ | exact DNode.pures _ | exact DProg.pure _ | exact DProg.pures _ | exact DCond.pure _ | exact DCond.pures _ | exact DAtom.pure _ | exact DAtom.pures _ | exact DPlain.pure _ | exact DPlain.pures _ | exact DVar.pure _ | exact DVar.pures _ | exact DFlow.pure _ | exact DFlow.pures _ | exact DFlows.pure _ | exact DFlows.pures _ | exact DAsked.pure _ | exact DAsked.pures _ | exact DFault.pure _ | exact DFault.pures _ | exact DCell.pure _ | exact DCell.pures _ | exact DReply.pure _ | exact DReply.pures _ | exact DAsk.pure _ | exact DAsk.pures _ | exact DOp.pure _ | exact DOp.pures _ | exact pure_list (fun x => DDecl.pures x) _ | exact .fn _ _ _ pure_nil pure_nil | refine .agg _ ?_ | refine .tup _ ?_ | assumption) (n := 30) rfl (rs := [.tmp 2]) rfl ?_
  unfold wordF words
  repeat' first
    | exact finB rfl
    | exact finI rfl
    | exact finP rfl
    | exact absurd rfl (by assumption)
    | simp only [go_sem, Nat.reduceAdd, Nat.reduceSub, Nat.reduceMul, Nat.reduceLT, Nat.reduceLeDiff, Nat.reduceEqDiff, Nat.reduceBEq, Nat.reduceBNe, Nat.reducePow, Int.reduceEq, Int.reduceNe, Int.reduceLT, Int.reduceLE, Int.reduceGT, Int.reduceGE, Int.reduceAdd, Int.reduceSub, Int.reduceNeg, Int.reduceMul, not_true_eq_false, not_false_eq_true, true_and, and_true, Int.reduceToNat]
    | (intro _)
    | refine brK_dec (fun _ => ?_) (fun _ => ?_)
    | refine brK_any ?_ ?_
    | refine gK_dec (fun _ => ?_) (fun _ => ?_)
    | refine gK_any ?_ ?_
    | refine gqK_dec (fun _ => ?_) (fun _ => ?_)
    | refine ⟨by omega, ?_⟩
    | refine elemHave (by omega) (by assumption) ?_
    | refine elemMap (by omega) (by omega) (fun x hx => ?_)
    | refine drawK mo (by kernel_rfl) ?_
    | (refine finBq rfl ?_; simp [*]; done)
theorem n75 : (Tryz.f75.name == "runtime.NumGoroutine") = false := by kernel_rfl
theorem low6 (t : ByteArray) : PCall Tryz.prog 75 [.s t] (.b (lowF t)) := by
  refine pcall_of_vc tabOK Tryz.func75 n75 rfl (by repeat' first | exact pure_nil | refine pure_cons ?_ ?_ | exact .raw _ | exact pure_enc _ | exact pure_lst _ | exact pure_strs _ | exact pure_ints _ | exact DTy.pure _ | exact DTy.pures _ | exact DEnum.pure _ | exact DEnum.pures _ | exact DDecl.pure _ | exact DDecl.pures _ | exact DEq.pure _ | exact DEq.pures _ | exact DNode.pure _ | exact DNode.pures _ | exact DProg.pure _ | exact DProg.pures _ | exact DCond.pure _ | exact DCond.pures _ | exact DAtom.pure _ | exact DAtom.pures _ | exact DPlain.pure _ | exact DPlain.pures _ | exact DVar.pure _ | exact DVar.pures _ | exact DFlow.pure _ | exact DFlow.pures _ | exact DFlows.pure _ | exact DFlows.pures _ | exact DAsked.pure _ | exact DAsked.pures _ | exact DFault.pure _ | exact DFault.pures _ | exact DCell.pure _ | exact DCell.pures _ | exact DReply.pure _ | exact DReply.pures _ | exact DAsk.pure _ | exact DAsk.pures _ | exact DOp.pure _ | exact DOp.pures _ | exact pure_list (fun x => DDecl.pures x) _ | exact .fn _ _ _ pure_nil pure_nil | refine .agg _ ?_ | refine .tup _ ?_ | assumption) (by repeat' first | exact pure_nil | refine pure_cons ?_ ?_ | exact .raw _ | exact pure_enc _ | exact pure_lst _ | exact pure_strs _ | exact pure_ints _ | exact DTy.pure _ | exact DTy.pures _ | exact DEnum.pure _ | exact DEnum.pures _ | exact DDecl.pure _ | exact DDecl.pures _ | exact DEq.pure _ | exact DEq.pures _ | exact DNode.pure _ | exact DNode.pures _ | exact DProg.pure _ | exact DProg.pures _ | exact DCond.pure _ | exact DCond.pures _ | exact DAtom.pure _ | exact DAtom.pures _ | exact DPlain.pure _ | exact DPlain.pures _ | exact DVar.pure _ | exact DVar.pures _ | exact DFlow.pure _ | exact DFlow.pures _ | exact DFlows.pure _ | exact DFlows.pures _ | exact DAsked.pure _ | exact DAsked.pures _ | exact DFault.pure _ | exact DFault.pures _ | exact DCell.pure _ | exact DCell.pures _ | exact DReply.pure _ | exact DReply.pures _ | exact DAsk.pure _ | exact DAsk.pures _ | exact DOp.pure _ | exact DOp.pures _ | exact pure_list (fun x => DDecl.pures x) _ | exact .fn _ _ _ pure_nil pure_nil | refine .agg _ ?_ | refine .tup _ ?_ | assumption) (n := 10) rfl (rs := [.tmp 2]) rfl ?_
  unfold lowF
  repeat' first
    | exact finB rfl
    | exact finI rfl
    | exact finP rfl
    | exact absurd rfl (by assumption)
    | simp only [go_sem, Nat.reduceAdd, Nat.reduceSub, Nat.reduceMul, Nat.reduceLT, Nat.reduceLeDiff, Nat.reduceEqDiff, Nat.reduceBEq, Nat.reduceBNe, Nat.reducePow, Int.reduceEq, Int.reduceNe, Int.reduceLT, Int.reduceLE, Int.reduceGT, Int.reduceGE, Int.reduceAdd, Int.reduceSub, Int.reduceNeg, Int.reduceMul, not_true_eq_false, not_false_eq_true, true_and, and_true, Int.reduceToNat]
    | (intro _)
    | refine brK_dec (fun _ => ?_) (fun _ => ?_)
    | refine brK_any ?_ ?_
    | refine gK_dec (fun _ => ?_) (fun _ => ?_)
    | refine gK_any ?_ ?_
    | refine gqK_dec (fun _ => ?_) (fun _ => ?_)
    | refine ⟨by omega, ?_⟩
    | refine elemHave (by omega) (by assumption) ?_
    | refine elemMap (by omega) (by omega) (fun x hx => ?_)
    | refine drawK mo (by kernel_rfl) ?_
    | (refine PCall.call (name13 _ _ _ small14) ?_; generalize nameG (inB 97 122) t = q; cases q)
    | (refine PCall.call (word10 _) ?_)
    | (exact finBq rfl (by simp))
theorem n77 : (Tryz.f77.name == "runtime.NumGoroutine") = false := by kernel_rfl
theorem high8 (t : ByteArray) : PCall Tryz.prog 77 [.s t] (.b (highF t)) := by
  refine pcall_of_vc tabOK Tryz.func77 n77 rfl (by repeat' first | exact pure_nil | refine pure_cons ?_ ?_ | exact .raw _ | exact pure_enc _ | exact pure_lst _ | exact pure_strs _ | exact pure_ints _ | exact DTy.pure _ | exact DTy.pures _ | exact DEnum.pure _ | exact DEnum.pures _ | exact DDecl.pure _ | exact DDecl.pures _ | exact DEq.pure _ | exact DEq.pures _ | exact DNode.pure _ | exact DNode.pures _ | exact DProg.pure _ | exact DProg.pures _ | exact DCond.pure _ | exact DCond.pures _ | exact DAtom.pure _ | exact DAtom.pures _ | exact DPlain.pure _ | exact DPlain.pures _ | exact DVar.pure _ | exact DVar.pures _ | exact DFlow.pure _ | exact DFlow.pures _ | exact DFlows.pure _ | exact DFlows.pures _ | exact DAsked.pure _ | exact DAsked.pures _ | exact DFault.pure _ | exact DFault.pures _ | exact DCell.pure _ | exact DCell.pures _ | exact DReply.pure _ | exact DReply.pures _ | exact DAsk.pure _ | exact DAsk.pures _ | exact DOp.pure _ | exact DOp.pures _ | exact pure_list (fun x => DDecl.pures x) _ | exact .fn _ _ _ pure_nil pure_nil | refine .agg _ ?_ | refine .tup _ ?_ | assumption) (by repeat' first | exact pure_nil | refine pure_cons ?_ ?_ | exact .raw _ | exact pure_enc _ | exact pure_lst _ | exact pure_strs _ | exact pure_ints _ | exact DTy.pure _ | exact DTy.pures _ | exact DEnum.pure _ | exact DEnum.pures _ | exact DDecl.pure _ | exact DDecl.pures _ | exact DEq.pure _ | exact DEq.pures _ | exact DNode.pure _ | exact DNode.pures _ | exact DProg.pure _ | exact DProg.pures _ | exact DCond.pure _ | exact DCond.pures _ | exact DAtom.pure _ | exact DAtom.pures _ | exact DPlain.pure _ | exact DPlain.pures _ | exact DVar.pure _ | exact DVar.pures _ | exact DFlow.pure _ | exact DFlow.pures _ | exact DFlows.pure _ | exact DFlows.pures _ | exact DAsked.pure _ | exact DAsked.pures _ | exact DFault.pure _ | exact DFault.pures _ | exact DCell.pure _ | exact DCell.pures _ | exact DReply.pure _ | exact DReply.pures _ | exact DAsk.pure _ | exact DAsk.pures _ | exact DOp.pure _ | exact DOp.pures _ | exact pure_list (fun x => DDecl.pures x) _ | exact .fn _ _ _ pure_nil pure_nil | refine .agg _ ?_ | refine .tup _ ?_ | assumption) (n := 5) rfl (rs := [.tmp 2]) rfl ?_
  unfold highF
  repeat' first
    | exact finB rfl
    | exact finI rfl
    | exact finP rfl
    | exact absurd rfl (by assumption)
    | simp only [go_sem, Nat.reduceAdd, Nat.reduceSub, Nat.reduceMul, Nat.reduceLT, Nat.reduceLeDiff, Nat.reduceEqDiff, Nat.reduceBEq, Nat.reduceBNe, Nat.reducePow, Int.reduceEq, Int.reduceNe, Int.reduceLT, Int.reduceLE, Int.reduceGT, Int.reduceGE, Int.reduceAdd, Int.reduceSub, Int.reduceNeg, Int.reduceMul, not_true_eq_false, not_false_eq_true, true_and, and_true, Int.reduceToNat]
    | (intro _)
    | refine brK_dec (fun _ => ?_) (fun _ => ?_)
    | refine brK_any ?_ ?_
    | refine gK_dec (fun _ => ?_) (fun _ => ?_)
    | refine gK_any ?_ ?_
    | refine gqK_dec (fun _ => ?_) (fun _ => ?_)
    | refine ⟨by omega, ?_⟩
    | refine elemHave (by omega) (by assumption) ?_
    | refine elemMap (by omega) (by omega) (fun x hx => ?_)
    | refine drawK mo (by kernel_rfl) ?_
    | (refine PCall.call (name13 _ _ _ great16) ?_)
    | (exact finBq rfl (by simp))
end Go.Proofs.YtipcmpkihhfhcaaGreatDoor

namespace Go.Proofs.YtipcmpkihhfhcaaGreatDoor
open Go.Abs
set_option maxRecDepth 20000
set_option linter.unusedSimpArgs false
set_option linter.unusedVariables false
set_option maxHeartbeats 1000000
attribute [local irreducible] vc vcOps vcStep vcGuard prK hrK gK gsK brK callK ElemK SeqK BlockK ScopeK OpsK CallK LoopK LoopGo finPost ACall PCall PCallE BCall vqOps vqStep vqGuard qrK heK pcK gqK gqsK QOpsK qcallK DrawK
def layS_ren : Go.Shelf.Ren := ⟨fun | 217 => 206 | 266 => 210 | 138 => 198 | 143 => 199 | 195 => 201 | 218 => 203 | 219 => 204 | 224 => 208 | 225 => 207 | 267 => 209 | 314 => 211 | n => n,
  fun | 3 => 3 | 4 => 4 | 5 => 5 | 9 => 9 | 46 => 193 | 51 => 198 | 0 => 0 | 146 => 199 | n => n, fun | 1 => 0 | n => n⟩
theorem layS_g1 : Tryz.prog.globals.findIdx? (·.name == "internal/bytealg.MaxLen") = some 0 := by kernel_rfl
theorem layS : Go.Proofs.Lays.n138 Tryz.prog layS_ren := {
  mixed := by kernel_rfl
  f138 := Tryz.func198.trans (congrArg some (by kernel_rfl))
  f143 := Tryz.func199.trans (congrArg some (by kernel_rfl))
  f195 := Tryz.func201.trans (congrArg some (by kernel_rfl))
  f217 := Tryz.func206.trans (congrArg some (by kernel_rfl))
  f218 := Tryz.func203.trans (congrArg some (by kernel_rfl))
  f219 := Tryz.func204.trans (congrArg some (by kernel_rfl))
  f224 := Tryz.func208.trans (congrArg some (by kernel_rfl))
  f225 := Tryz.func207.trans (congrArg some (by kernel_rfl))
  f266 := Tryz.func210.trans (congrArg some (by kernel_rfl))
  f267 := Tryz.func209.trans (congrArg some (by kernel_rfl))
  f314 := Tryz.func211.trans (congrArg some (by kernel_rfl))
  t0 := Tryz.underlying0
  a0 := Tryz.isAgg0
  z0 := Tryz.sizeOf0
  v0 := Tryz.zeroValue0
  t3 := Tryz.underlying3
  a3 := Tryz.isAgg3
  z3 := Tryz.sizeOf3
  v3 := Tryz.zeroValue3
  t4 := Tryz.underlying4
  a4 := Tryz.isAgg4
  z4 := Tryz.sizeOf4
  v4 := Tryz.zeroValue4
  t5 := Tryz.underlying5
  a5 := Tryz.isAgg5
  z5 := Tryz.sizeOf5
  v5 := Tryz.zeroValue5
  t9 := Tryz.underlying9
  a9 := Tryz.isAgg9
  z9 := Tryz.sizeOf9
  v9 := Tryz.zeroValue9
  t46 := Tryz.underlying193
  a46 := Tryz.isAgg193
  z46 := Tryz.sizeOf193
  v46 := Tryz.zeroValue193
  t51 := Tryz.underlying198
  a51 := Tryz.isAgg198
  z51 := Tryz.sizeOf198
  v51 := Tryz.zeroValue198
  t146 := Tryz.underlying199
  a146 := Tryz.isAgg199
  z146 := Tryz.sizeOf199
  v146 := Tryz.zeroValue199
  g1 := layS_g1 }
end Go.Proofs.YtipcmpkihhfhcaaGreatDoor

namespace Go.Proofs.YtipcmpkihhfhcaaGreatDoor
open Go.Abs
set_option maxRecDepth 20000
set_option linter.unusedSimpArgs false
set_option linter.unusedVariables false
set_option maxHeartbeats 1000000
attribute [local irreducible] vc vcOps vcStep vcGuard prK hrK gK gsK brK callK ElemK SeqK BlockK ScopeK OpsK CallK LoopK LoopGo finPost ACall PCall PCallE BCall vqOps vqStep vqGuard qrK heK pcK gqK gqsK QOpsK qcallK DrawK
theorem moL : Tryz.prog.follows .mixedOrders = true := by kernel_rfl
theorem n206 : (Tryz.f206.name == "runtime.NumGoroutine") = false := by kernel_rfl
theorem n198 : (Tryz.f198.name == "runtime.NumGoroutine") = false := by kernel_rfl
theorem idxByte34 (t : ByteArray) (c : UInt8) : PCall Tryz.prog 206 [.s t, .raw (.int .u8 c.toNat)] (.i (Lib.indexByte (bts t) c)) :=
  pcall_raw (vals := [.string t, .int .u8 c.toNat]) (fun vs w => run_callFunc Tryz.func206 n206 rfl vs w) fun w => by
    have := Go.Proofs.Any.stringslite_IndexByte (ρ := layS_ren) { layS with } t (c.toNat : Nat) w
    rw [show ((c.toNat : Nat) : Int).toNat.toUInt8 = c by simp] at this
    exact this
theorem count26 (t : ByteArray) (c : UInt8) : PCall Tryz.prog 198 [.s t, .s ⟨#[c]⟩] (.i ((bts t).count c : Nat)) :=
  pcall_raw (vals := [.string t, .string ⟨#[c]⟩]) (fun vs w => run_callFunc Tryz.func198 n198 rfl vs w) fun w => Go.Proofs.Any.strings_Count_one (ρ := layS_ren) layS t c w

theorem one_ne (c : UInt8) : ¬ (⟨#[c]⟩ : ByteArray) = ⟨#[]⟩ := fun e => by
  have := congrArg ByteArray.size e
  rw [show (⟨#[c]⟩ : ByteArray).size = 1 from rfl] at this
  exact absurd this (by decide)
theorem one_size (c : UInt8) : (⟨#[c]⟩ : ByteArray).size = 1 := rfl
theorem one_at (c : UInt8) : (⟨#[c]⟩ : ByteArray).data.toList.getD 0 0 = c := rfl
theorem idx_one {t : ByteArray} {c : UInt8} (h : (⟨#[c]⟩ : ByteArray) = t) : Lib.indexByte (bts t) c = 0 := by subst h; simp [bts, Lib.indexByte]
theorem idx_ge (l : List UInt8) (c : UInt8) : -1 ≤ Lib.indexByte l c := Lib.indexByte_ge l c

theorem n204 : (Tryz.f204.name == "runtime.NumGoroutine") = false := by kernel_rfl
theorem idx32 (t : ByteArray) (c : UInt8) : PCall Tryz.prog 204 [.s t, .s ⟨#[c]⟩] (.i (Lib.indexByte (bts t) c)) := by
  refine pcall_of_vc tabOK Tryz.func204 n204 rfl (by repeat' first | exact pure_nil | refine pure_cons ?_ ?_ | exact .raw _ | exact pure_enc _ | exact pure_lst _ | exact pure_strs _ | exact pure_ints _ | exact DTy.pure _ | exact DTy.pures _ | exact DEnum.pure _ | exact DEnum.pures _ | exact DDecl.pure _ | exact DDecl.pures _ | exact DEq.pure _ | exact DEq.pures _ | exact DNode.pure _ | exact DNode.pures _ | exact DProg.pure _ | exact DProg.pures _ | exact DCond.pure _ | exact DCond.pures _ | exact DAtom.pure _ | exact DAtom.pures _ | exact DPlain.pure _ | exact DPlain.pures _ | exact DVar.pure _ | exact DVar.pures _ | exact DFlow.pure _ | exact DFlow.pures _ | exact DFlows.pure _ | exact DFlows.pures _ | exact DAsked.pure _ | exact DAsked.pures _ | exact DFault.pure _ | exact DFault.pures _ | exact DCell.pure _ | exact DCell.pures _ | exact DReply.pure _ | exact DReply.pures _ | exact DAsk.pure _ | exact DAsk.pures _ | exact DOp.pure _ | exact DOp.pures _ | exact pure_list (fun x => DDecl.pures x) _ | exact .fn _ _ _ pure_nil pure_nil | refine .agg _ ?_ | refine .tup _ ?_ | assumption) (by repeat' first | exact pure_nil | refine pure_cons ?_ ?_ | exact .raw _ | exact pure_enc _ | exact pure_lst _ | exact pure_strs _ | exact pure_ints _ | exact DTy.pure _ | exact DTy.pures _ | exact DEnum.pure _ | exact DEnum.pures _ | exact DDecl.pure _ | exact DDecl.pures _ | exact DEq.pure _ | exact DEq.pures _ | exact DNode.pure _ | exact DNode.pures _ | exact DProg.pure _ | exact DProg.pures _ | exact DCond.pure _ | exact DCond.pures _ | exact DAtom.pure _ | exact DAtom.pures _ | exact DPlain.pure _ | exact DPlain.pures _ | exact DVar.pure _ | exact DVar.pures _ | exact DFlow.pure _ | exact DFlow.pures _ | exact DFlows.pure _ | exact DFlows.pures _ | exact DAsked.pure _ | exact DAsked.pures _ | exact DFault.pure _ | exact DFault.pures _ | exact DCell.pure _ | exact DCell.pures _ | exact DReply.pure _ | exact DReply.pures _ | exact DAsk.pure _ | exact DAsk.pures _ | exact DOp.pure _ | exact DOp.pures _ | exact pure_list (fun x => DDecl.pures x) _ | exact .fn _ _ _ pure_nil pure_nil | refine .agg _ ?_ | refine .tup _ ?_ | assumption) (n := 143) rfl (rs := [.tmp 4]) rfl ?_
  repeat' first
    | (exfalso; omega)
    | simp only [go_sem, Nat.reduceAdd, Nat.reduceSub, Nat.reduceMul, Nat.reduceLT, Nat.reduceLeDiff, Nat.reduceEqDiff, Nat.reduceBEq, Nat.reduceBNe, Nat.reducePow, Int.reduceEq, Int.reduceNe, Int.reduceLT, Int.reduceLE, Int.reduceGT, Int.reduceGE, Int.reduceAdd, Int.reduceSub, Int.reduceNeg, Int.reduceMul, not_true_eq_false, not_false_eq_true, true_and, and_true, Int.reduceToNat, one_size, one_at]
    | (intro _)
    | refine ⟨by omega, ?_⟩
    | refine brK_dec (fun _ => ?_) (fun _ => ?_)
    | refine gK_dec (fun _ => ?_) (fun _ => ?_)
    | refine drawK moL (by kernel_rfl) ?_
    | (refine PCall.call (idxByte34 _ _) ?_)
    | exact finP rfl
    | (rw [idx_one (by assumption)]; exact finP rfl)

theorem n199 : (Tryz.f199.name == "runtime.NumGoroutine") = false := by kernel_rfl
theorem index27 (t : ByteArray) (c : UInt8) : PCall Tryz.prog 199 [.s t, .s ⟨#[c]⟩] (.i (Lib.indexByte (bts t) c)) := by
  refine pcall_of_vc tabOK Tryz.func199 n199 rfl (by repeat' first | exact pure_nil | refine pure_cons ?_ ?_ | exact .raw _ | exact pure_enc _ | exact pure_lst _ | exact pure_strs _ | exact pure_ints _ | exact DTy.pure _ | exact DTy.pures _ | exact DEnum.pure _ | exact DEnum.pures _ | exact DDecl.pure _ | exact DDecl.pures _ | exact DEq.pure _ | exact DEq.pures _ | exact DNode.pure _ | exact DNode.pures _ | exact DProg.pure _ | exact DProg.pures _ | exact DCond.pure _ | exact DCond.pures _ | exact DAtom.pure _ | exact DAtom.pures _ | exact DPlain.pure _ | exact DPlain.pures _ | exact DVar.pure _ | exact DVar.pures _ | exact DFlow.pure _ | exact DFlow.pures _ | exact DFlows.pure _ | exact DFlows.pures _ | exact DAsked.pure _ | exact DAsked.pures _ | exact DFault.pure _ | exact DFault.pures _ | exact DCell.pure _ | exact DCell.pures _ | exact DReply.pure _ | exact DReply.pures _ | exact DAsk.pure _ | exact DAsk.pures _ | exact DOp.pure _ | exact DOp.pures _ | exact pure_list (fun x => DDecl.pures x) _ | exact .fn _ _ _ pure_nil pure_nil | refine .agg _ ?_ | refine .tup _ ?_ | assumption) (by repeat' first | exact pure_nil | refine pure_cons ?_ ?_ | exact .raw _ | exact pure_enc _ | exact pure_lst _ | exact pure_strs _ | exact pure_ints _ | exact DTy.pure _ | exact DTy.pures _ | exact DEnum.pure _ | exact DEnum.pures _ | exact DDecl.pure _ | exact DDecl.pures _ | exact DEq.pure _ | exact DEq.pures _ | exact DNode.pure _ | exact DNode.pures _ | exact DProg.pure _ | exact DProg.pures _ | exact DCond.pure _ | exact DCond.pures _ | exact DAtom.pure _ | exact DAtom.pures _ | exact DPlain.pure _ | exact DPlain.pures _ | exact DVar.pure _ | exact DVar.pures _ | exact DFlow.pure _ | exact DFlow.pures _ | exact DFlows.pure _ | exact DFlows.pures _ | exact DAsked.pure _ | exact DAsked.pures _ | exact DFault.pure _ | exact DFault.pures _ | exact DCell.pure _ | exact DCell.pures _ | exact DReply.pure _ | exact DReply.pures _ | exact DAsk.pure _ | exact DAsk.pures _ | exact DOp.pure _ | exact DOp.pures _ | exact pure_list (fun x => DDecl.pures x) _ | exact .fn _ _ _ pure_nil pure_nil | refine .agg _ ?_ | refine .tup _ ?_ | assumption) (n := 8) rfl (rs := [.tmp 4]) rfl ?_
  simp only [go_sem, Nat.reduceAdd, Nat.reduceSub, Nat.reduceMul, Nat.reduceLT, Nat.reduceLeDiff, Nat.reduceEqDiff, Nat.reduceBEq, Nat.reduceBNe, Nat.reducePow, Int.reduceEq, Int.reduceNe, Int.reduceLT, Int.reduceLE, Int.reduceGT, Int.reduceGE, Int.reduceAdd, Int.reduceSub, Int.reduceNeg, Int.reduceMul, not_true_eq_false, not_false_eq_true, true_and, and_true, Int.reduceToNat]
  refine PCall.call (idx32 _ _) ?_
  simp only [go_sem, Nat.reduceAdd, Nat.reduceSub, Nat.reduceMul, Nat.reduceLT, Nat.reduceLeDiff, Nat.reduceEqDiff, Nat.reduceBEq, Nat.reduceBNe, Nat.reducePow, Int.reduceEq, Int.reduceNe, Int.reduceLT, Int.reduceLE, Int.reduceGT, Int.reduceGE, Int.reduceAdd, Int.reduceSub, Int.reduceNeg, Int.reduceMul, not_true_eq_false, not_false_eq_true, true_and, and_true, Int.reduceToNat]
  exact finP rfl

abbrev cutA (t : ByteArray) (c : UInt8) : AV := .tup [.s (if c ∈ bts t then t.extract 0 (Lib.indexByte (bts t) c).toNat else t), .s (if c ∈ bts t then t.extract ((Lib.indexByte (bts t) c).toNat + 1) t.size else ⟨#[]⟩), .b (decide (c ∈ bts t))]
theorem pure_cutA (t : ByteArray) (c : UInt8) : Go.Abs.Pure (cutA t c) := .tup _ (pure_cons (.raw _) (pure_cons (.raw _) (pure_cons (.raw _) pure_nil)))
theorem n200 : (Tryz.f200.name == "runtime.NumGoroutine") = false := by kernel_rfl
theorem cut28 (t : ByteArray) (c : UInt8) (ht : t.size ≤ 1000000000) : PCall Tryz.prog 200 [.s t, .s ⟨#[c]⟩] (cutA t c) := by
  refine pcall_of_vc tabOK Tryz.func200 n200 rfl (by repeat' first | exact pure_nil | refine pure_cons ?_ ?_ | exact .raw _ | exact pure_enc _ | exact pure_lst _ | exact pure_strs _ | exact pure_ints _ | exact DTy.pure _ | exact DTy.pures _ | exact DEnum.pure _ | exact DEnum.pures _ | exact DDecl.pure _ | exact DDecl.pures _ | exact DEq.pure _ | exact DEq.pures _ | exact DNode.pure _ | exact DNode.pures _ | exact DProg.pure _ | exact DProg.pures _ | exact DCond.pure _ | exact DCond.pures _ | exact DAtom.pure _ | exact DAtom.pures _ | exact DPlain.pure _ | exact DPlain.pures _ | exact DVar.pure _ | exact DVar.pures _ | exact DFlow.pure _ | exact DFlow.pures _ | exact DFlows.pure _ | exact DFlows.pures _ | exact DAsked.pure _ | exact DAsked.pures _ | exact DFault.pure _ | exact DFault.pures _ | exact DCell.pure _ | exact DCell.pures _ | exact DReply.pure _ | exact DReply.pures _ | exact DAsk.pure _ | exact DAsk.pures _ | exact DOp.pure _ | exact DOp.pures _ | exact pure_list (fun x => DDecl.pures x) _ | exact .fn _ _ _ pure_nil pure_nil | refine .agg _ ?_ | refine .tup _ ?_ | assumption) (pure_cutA _ _) (n := 23) rfl (rs := [.tmp 4, .tmp 5, .tmp 6]) rfl ?_
  simp only [go_sem, Nat.reduceAdd, Nat.reduceSub, Nat.reduceMul, Nat.reduceLT, Nat.reduceLeDiff, Nat.reduceEqDiff, Nat.reduceBEq, Nat.reduceBNe, Nat.reducePow, Int.reduceEq, Int.reduceNe, Int.reduceLT, Int.reduceLE, Int.reduceGT, Int.reduceGE, Int.reduceAdd, Int.reduceSub, Int.reduceNeg, Int.reduceMul, not_true_eq_false, not_false_eq_true, true_and, and_true, Int.reduceToNat]
  refine PCall.call (idx32 _ _) ?_
  by_cases hc : c ∈ bts t
  · obtain ⟨m, h1, h2, h3, h4⟩ := idx_at hc
    have hm : m < t.size := by rw [← bts_len]; exact h2
    unfold cutA
    rw [if_pos hc, if_pos hc, decide_eq_true hc, h1, Int.toNat_natCast]
    have hw : IntKind.i64.wrap ((m : Int) + ((1 : Nat) : Int)) = ((m + 1 : Nat) : Int) := by rw [wrap_in _ (by omega) (by omega)]; omega
    repeat' first
      | (exfalso; omega)
      | simp only [go_sem, Nat.reduceAdd, Nat.reduceSub, Nat.reduceMul, Nat.reduceLT, Nat.reduceLeDiff, Nat.reduceEqDiff, Nat.reduceBEq, Nat.reduceBNe, Nat.reducePow, Int.reduceEq, Int.reduceNe, Int.reduceLT, Int.reduceLE, Int.reduceGT, Int.reduceGE, Int.reduceAdd, Int.reduceSub, Int.reduceNeg, Int.reduceMul, not_true_eq_false, not_false_eq_true, true_and, and_true, Int.reduceToNat, one_size, hw, Int.toNat_natCast]
      | (intro _)
      | refine ⟨by omega, ?_⟩
      | refine brK_dec (fun _ => ?_) (fun _ => ?_)
      | refine drawK moL (by kernel_rfl) ?_
      | exact ⟨_, rfl, false, .refl _⟩
      | (refine ⟨by simp only [hw]; omega, ?_⟩; simp only [hw, Int.toNat_natCast])
  · unfold cutA
    rw [if_neg hc, if_neg hc, decide_eq_false hc, idx_no hc]
    repeat' first
      | (exfalso; omega)
      | simp only [go_sem, Nat.reduceAdd, Nat.reduceSub, Nat.reduceMul, Nat.reduceLT, Nat.reduceLeDiff, Nat.reduceEqDiff, Nat.reduceBEq, Nat.reduceBNe, Nat.reducePow, Int.reduceEq, Int.reduceNe, Int.reduceLT, Int.reduceLE, Int.reduceGT, Int.reduceGE, Int.reduceAdd, Int.reduceSub, Int.reduceNeg, Int.reduceMul, not_true_eq_false, not_false_eq_true, true_and, and_true, Int.reduceToNat]
      | (exact absurd ‹_› (by decide))
      | refine brK_dec (fun _ => ?_) (fun _ => ?_)
      | exact ⟨_, rfl, false, .refl _⟩
theorem n195 : (Tryz.f195.name == "runtime.NumGoroutine") = false := by kernel_rfl
theorem cut23 (t : ByteArray) (c : UInt8) (ht : t.size ≤ 1000000000) : PCall Tryz.prog 195 [.s t, .s ⟨#[c]⟩] (cutA t c) := by
  refine pcall_of_vc tabOK Tryz.func195 n195 rfl (by repeat' first | exact pure_nil | refine pure_cons ?_ ?_ | exact .raw _ | exact pure_enc _ | exact pure_lst _ | exact pure_strs _ | exact pure_ints _ | exact DTy.pure _ | exact DTy.pures _ | exact DEnum.pure _ | exact DEnum.pures _ | exact DDecl.pure _ | exact DDecl.pures _ | exact DEq.pure _ | exact DEq.pures _ | exact DNode.pure _ | exact DNode.pures _ | exact DProg.pure _ | exact DProg.pures _ | exact DCond.pure _ | exact DCond.pures _ | exact DAtom.pure _ | exact DAtom.pures _ | exact DPlain.pure _ | exact DPlain.pures _ | exact DVar.pure _ | exact DVar.pures _ | exact DFlow.pure _ | exact DFlow.pures _ | exact DFlows.pure _ | exact DFlows.pures _ | exact DAsked.pure _ | exact DAsked.pures _ | exact DFault.pure _ | exact DFault.pures _ | exact DCell.pure _ | exact DCell.pures _ | exact DReply.pure _ | exact DReply.pures _ | exact DAsk.pure _ | exact DAsk.pures _ | exact DOp.pure _ | exact DOp.pures _ | exact pure_list (fun x => DDecl.pures x) _ | exact .fn _ _ _ pure_nil pure_nil | refine .agg _ ?_ | refine .tup _ ?_ | assumption) (pure_cutA _ _) (n := 13) rfl (rs := [.tmp 4, .tmp 5, .tmp 6]) rfl ?_
  simp only [go_sem, Nat.reduceAdd, Nat.reduceSub, Nat.reduceMul, Nat.reduceLT, Nat.reduceLeDiff, Nat.reduceEqDiff, Nat.reduceBEq, Nat.reduceBNe, Nat.reducePow, Int.reduceEq, Int.reduceNe, Int.reduceLT, Int.reduceLE, Int.reduceGT, Int.reduceGE, Int.reduceAdd, Int.reduceSub, Int.reduceNeg, Int.reduceMul, not_true_eq_false, not_false_eq_true, true_and, and_true, Int.reduceToNat]
  refine PCall.call (cut28 _ _ ht) ?_
  simp only [go_sem, Nat.reduceAdd, Nat.reduceSub, Nat.reduceMul, Nat.reduceLT, Nat.reduceLeDiff, Nat.reduceEqDiff, Nat.reduceBEq, Nat.reduceBNe, Nat.reducePow, Int.reduceEq, Int.reduceNe, Int.reduceLT, Int.reduceLE, Int.reduceGT, Int.reduceGE, Int.reduceAdd, Int.reduceSub, Int.reduceNeg, Int.reduceMul, not_true_eq_false, not_false_eq_true, true_and, and_true, Int.reduceToNat]
  exact ⟨_, rfl, false, .refl _⟩
end Go.Proofs.YtipcmpkihhfhcaaGreatDoor

namespace Go.Proofs.YtipcmpkihhfhcaaGreatDoor
open Go.Abs
set_option maxRecDepth 20000
set_option linter.unusedSimpArgs false
set_option linter.unusedVariables false
set_option maxHeartbeats 1000000
attribute [local irreducible] vc vcOps vcStep vcGuard prK hrK gK gsK brK callK ElemK SeqK BlockK ScopeK OpsK CallK LoopK LoopGo finPost ACall PCall PCallE BCall vqOps vqStep vqGuard qrK heK pcK gqK gqsK QOpsK qcallK DrawK
theorem take_set {X : List AV} {i : Nat} {v : AV} (h : i < X.length) : (X.set i v).take (i + 1) = X.take i ++ [v] := by
  rw [List.take_succ_eq_append_getElem (by simpa using h), List.take_set_of_le (Nat.le_refl _)]
  simp
theorem one_set {X : List AV} {i : Nat} {v : AV} (h : X.all AV.one = true) (hv : v.one = true) : (X.set i v).all AV.one = true := by
  rw [List.all_eq_true] at h ⊢
  intro x hx
  rcases List.mem_or_eq_of_mem_set hx with q | q
  · exact h x q
  · rw [q]; exact hv
theorem n194 : (Tryz.f194.name == "runtime.NumGoroutine") = false := by kernel_rfl
theorem split22 (t : ByteArray) (c : UInt8) (ht : t.size ≤ 1000000) : PCall Tryz.prog 194 [.s t, .s ⟨#[c]⟩, .i 0, .i (-1)] (.lst 1 ((pieces c t).map AV.s) none) := by
  refine pcall_of_vc tabOK Tryz.func194 n194 rfl (by repeat' first | exact pure_nil | refine pure_cons ?_ ?_ | exact .raw _ | exact pure_enc _ | exact pure_lst _ | exact pure_strs _ | exact pure_ints _ | exact DTy.pure _ | exact DTy.pures _ | exact DEnum.pure _ | exact DEnum.pures _ | exact DDecl.pure _ | exact DDecl.pures _ | exact DEq.pure _ | exact DEq.pures _ | exact DNode.pure _ | exact DNode.pures _ | exact DProg.pure _ | exact DProg.pures _ | exact DCond.pure _ | exact DCond.pures _ | exact DAtom.pure _ | exact DAtom.pures _ | exact DPlain.pure _ | exact DPlain.pures _ | exact DVar.pure _ | exact DVar.pures _ | exact DFlow.pure _ | exact DFlow.pures _ | exact DFlows.pure _ | exact DFlows.pures _ | exact DAsked.pure _ | exact DAsked.pures _ | exact DFault.pure _ | exact DFault.pures _ | exact DCell.pure _ | exact DCell.pures _ | exact DReply.pure _ | exact DReply.pures _ | exact DAsk.pure _ | exact DAsk.pures _ | exact DOp.pure _ | exact DOp.pures _ | exact pure_list (fun x => DDecl.pures x) _ | exact .fn _ _ _ pure_nil pure_nil | refine .agg _ ?_ | refine .tup _ ?_ | assumption) (pure_strs _) (n := 66) rfl (rs := [.tmp 8]) rfl ?_
  generalize hN : (bts t).count c = N
  have hNs : N ≤ t.size := by rw [← hN, ← bts_len]; exact List.count_le_length
  have hw1 : IntKind.i64.wrap ((N : Int) + 1) = ((N + 1 : Nat) : Int) := by rw [wrap_in _ (by omega) (by omega)]; omega
  have hw2 : IntKind.i64.wrap ((t.size : Int) + 1) = ((t.size + 1 : Nat) : Int) := by rw [wrap_in _ (by omega) (by omega)]; omega
  have hmin : (if ((t.size + 1 : Nat) : Int) < ((N + 1 : Nat) : Int) then ((t.size + 1 : Nat) : Int) else ((N + 1 : Nat) : Int)) = ((N + 1 : Nat) : Int) := if_neg (by omega)
  have hw3 : IntKind.i64.wrap (((N + 1 : Nat) : Int) - 1) = ((N : Nat) : Int) := by rw [wrap_in _ (by omega) (by omega)]; omega
  simp only [go_sem, Nat.reduceAdd, Nat.reduceSub, Nat.reduceMul, Nat.reduceLT, Nat.reduceLeDiff, Nat.reduceEqDiff, Nat.reduceBEq, Nat.reduceBNe, Nat.reducePow, Int.reduceEq, Int.reduceNe, Int.reduceLT, Int.reduceLE, Int.reduceGT, Int.reduceGE, Int.reduceAdd, Int.reduceSub, Int.reduceNeg, Int.reduceMul, not_true_eq_false, not_false_eq_true, true_and, and_true, Int.reduceToNat]
  refine brK_dec (fun h => absurd h (one_ne c)) (fun _ => ?_)
  simp only [go_sem, Nat.reduceAdd, Nat.reduceSub, Nat.reduceMul, Nat.reduceLT, Nat.reduceLeDiff, Nat.reduceEqDiff, Nat.reduceBEq, Nat.reduceBNe, Nat.reducePow, Int.reduceEq, Int.reduceNe, Int.reduceLT, Int.reduceLE, Int.reduceGT, Int.reduceGE, Int.reduceAdd, Int.reduceSub, Int.reduceNeg, Int.reduceMul, not_true_eq_false, not_false_eq_true, true_and, and_true, Int.reduceToNat]
  refine PCall.call (count26 t c) ?_
  rw [hN]
  simp only [go_sem, Nat.reduceAdd, Nat.reduceSub, Nat.reduceMul, Nat.reduceLT, Nat.reduceLeDiff, Nat.reduceEqDiff, Nat.reduceBEq, Nat.reduceBNe, Nat.reducePow, Int.reduceEq, Int.reduceNe, Int.reduceLT, Int.reduceLE, Int.reduceGT, Int.reduceGE, Int.reduceAdd, Int.reduceSub, Int.reduceNeg, Int.reduceMul, not_true_eq_false, not_false_eq_true, true_and, and_true, Int.reduceToNat, hw1, hw2, hmin, hw3, Int.toNat_natCast]
  refine ⟨by omega, ?_⟩
  refine loop_fr [0, 10, 11, 34, 35, 36, 37, 38, 39, 40, 41, 42, 43, 44, 45, 46, 47, 48, 49, 50, 51, 52, 53, 54, 55, 56, 57] (fun m C hh => ∃ (i : Nat) (s : ByteArray) (D : List ByteArray) (X : List AV), D.length = i ∧ D ++ pieces c s = pieces c t ∧ i + (bts s).count c = N ∧ s.size ≤ t.size ∧ X.length = N + 1 ∧ X.take i = D.map AV.s ∧ X.all AV.one = true ∧ m = N - i ∧ C = [(10, .raw (.int .i64 (i : Nat))), (0, .s s)] ∧ hh = [.cells 9 X])
    N _ ⟨0, t, [], _, rfl, rfl, by omega, Nat.le_refl _, by simp, rfl, by simp [AV.one, Value.oneCell'], by omega, rfl, rfl⟩ (.cons rfl (.cons rfl .nil)) ?_
  rintro m C j hh ⟨i, s, D, X, hD, hp, hc, hs, hX, hXt, hXo, rfl, rfl, rfl⟩
  simp only [go_sem, Nat.reduceAdd, Nat.reduceSub, Nat.reduceMul, Nat.reduceLT, Nat.reduceLeDiff, Nat.reduceEqDiff, Nat.reduceBEq, Nat.reduceBNe, Nat.reducePow, Int.reduceEq, Int.reduceNe, Int.reduceLT, Int.reduceLE, Int.reduceGT, Int.reduceGE, Int.reduceAdd, Int.reduceSub, Int.reduceNeg, Int.reduceMul, not_true_eq_false, not_false_eq_true, true_and, and_true, Int.reduceToNat]
  refine brK_dec (fun hlt => ?_) (fun hge => ?_)
  · have hcm : c ∈ bts s := List.count_pos_iff.1 (by omega)
    obtain ⟨m, h1, h2, h3, h4⟩ := idx_at hcm
    have hm : m < s.size := by rw [← bts_len]; exact h2
    have hw4 : IntKind.i64.wrap ((m : Int) + 0) = (m : Int) := by rw [wrap_in _ (by omega) (by omega)]; omega
    have hw5 : IntKind.i64.wrap ((m : Int) + ((1 : Nat) : Int)) = ((m + 1 : Nat) : Int) := by rw [wrap_in _ (by omega) (by omega)]; omega
    simp only [go_sem, Nat.reduceAdd, Nat.reduceSub, Nat.reduceMul, Nat.reduceLT, Nat.reduceLeDiff, Nat.reduceEqDiff, Nat.reduceBEq, Nat.reduceBNe, Nat.reducePow, Int.reduceEq, Int.reduceNe, Int.reduceLT, Int.reduceLE, Int.reduceGT, Int.reduceGE, Int.reduceAdd, Int.reduceSub, Int.reduceNeg, Int.reduceMul, not_true_eq_false, not_false_eq_true, true_and, and_true, Int.reduceToNat]
    refine PCall.call (index27 s c) ?_
    rw [h1]
    simp only [go_sem, Nat.reduceAdd, Nat.reduceSub, Nat.reduceMul, Nat.reduceLT, Nat.reduceLeDiff, Nat.reduceEqDiff, Nat.reduceBEq, Nat.reduceBNe, Nat.reducePow, Int.reduceEq, Int.reduceNe, Int.reduceLT, Int.reduceLE, Int.reduceGT, Int.reduceGE, Int.reduceAdd, Int.reduceSub, Int.reduceNeg, Int.reduceMul, not_true_eq_false, not_false_eq_true, true_and, and_true, Int.reduceToNat]
    refine brK_dec (fun _ => by exfalso; omega) (fun _ => ?_)
    have hd : decide (i + 1 ≤ X.length) = true := decide_eq_true (by omega)
    simp only [go_sem, Nat.reduceAdd, Nat.reduceSub, Nat.reduceMul, Nat.reduceLT, Nat.reduceLeDiff, Nat.reduceEqDiff, Nat.reduceBEq, Nat.reduceBNe, Nat.reducePow, Int.reduceEq, Int.reduceNe, Int.reduceLT, Int.reduceLE, Int.reduceGT, Int.reduceGE, Int.reduceAdd, Int.reduceSub, Int.reduceNeg, Int.reduceMul, not_true_eq_false, not_false_eq_true, true_and, and_true, Int.reduceToNat, hw4, hw5, one_size, Int.toNat_natCast, hd, Nat.mul_one]
    refine ⟨by omega, by omega, by omega, ?_⟩
    have hpc := pieces_at h2 h3 h4
    refine loopFr _ (by omega) ⟨i + 1, s.extract (m + 1) s.size, D ++ [s.extract 0 m], X.set i (.s (s.extract 0 m)), by simp [hD], by rw [List.append_assoc, ← hp, hpc]; rfl, ?_, by rw [ByteArray.size_extract]; omega, by simpa using hX, ?_, one_set hXo rfl, rfl, rfl, rfl⟩ (.next rfl (by omega) (.cons rfl .nil)) rfl
    · have e2 : bts (s.extract (m + 1) s.size) = (bts s).drop (m + 1) := by rw [bts_extract, List.take_of_length_le (by rw [bts_len]; exact Nat.le_refl _)]
      have e3 : (bts s).count c = ((bts s).drop (m + 1)).count c + 1 := by
        conv => lhs; rw [h3]
        rw [List.count_append, List.count_eq_zero.2 h4, List.count_cons]
        simp
      rw [e2]; omega
    · rw [take_set (by omega), hXt, List.map_append]; rfl
  · have hi : i = N := by omega
    have hz : c ∉ bts s := fun hm => by have := List.count_pos_iff.2 hm; omega
    rw [pieces_no hz] at hp
    have hw6 : IntKind.i64.wrap ((i : Int) + 1) = ((i + 1 : Nat) : Int) := by rw [wrap_in _ (by omega) (by omega)]; omega
    have hd : decide (i + 1 ≤ X.length) = true := decide_eq_true (by omega)
    simp only [go_sem, Nat.reduceAdd, Nat.reduceSub, Nat.reduceMul, Nat.reduceLT, Nat.reduceLeDiff, Nat.reduceEqDiff, Nat.reduceBEq, Nat.reduceBNe, Nat.reducePow, Int.reduceEq, Int.reduceNe, Int.reduceLT, Int.reduceLE, Int.reduceGT, Int.reduceGE, Int.reduceAdd, Int.reduceSub, Int.reduceNeg, Int.reduceMul, not_true_eq_false, not_false_eq_true, true_and, and_true, Int.reduceToNat, hd, Nat.mul_one, Int.toNat_natCast, hw6]
    refine ⟨by omega, by omega, ?_⟩
    refine ⟨_, rfl, true, ?_⟩
    have hlen : (X.set i (.s s)).length = i + 1 := by simp; omega
    have hall : X.set i (.s s) = (pieces c t).map AV.s := by
      rw [← hp, List.map_append, ← hXt]
      have := take_set (X := X) (i := i) (v := .s s) (by omega)
      rw [List.take_of_length_le (by rw [hlen]; exact Nat.le_refl _)] at this
      exact this
    have hone := one_set (i := i) (v := .s s) hXo rfl
    show Weak (frz [.cells 9 (X.set i (.s s))] (.sl 1 0 0 (i + 1))) _
    rw [hall] at hlen hone ⊢
    simp only [frz, List.getElem?_cons_zero, decide_true, Nat.zero_add, hlen, Nat.le_refl, hone, List.drop_zero]
    rw [List.take_of_length_le (by rw [hlen]; exact Nat.le_refl _)]
    exact .refl _
theorem n192 : (Tryz.f192.name == "runtime.NumGoroutine") = false := by kernel_rfl
theorem split18 (t : ByteArray) (c : UInt8) (ht : t.size ≤ 1000000) : PCall Tryz.prog 192 [.s t, .s ⟨#[c]⟩] (.lst 1 ((pieces c t).map AV.s) none) := by
  refine pcall_of_vc tabOK Tryz.func192 n192 rfl (by repeat' first | exact pure_nil | refine pure_cons ?_ ?_ | exact .raw _ | exact pure_enc _ | exact pure_lst _ | exact pure_strs _ | exact pure_ints _ | exact DTy.pure _ | exact DTy.pures _ | exact DEnum.pure _ | exact DEnum.pures _ | exact DDecl.pure _ | exact DDecl.pures _ | exact DEq.pure _ | exact DEq.pures _ | exact DNode.pure _ | exact DNode.pures _ | exact DProg.pure _ | exact DProg.pures _ | exact DCond.pure _ | exact DCond.pures _ | exact DAtom.pure _ | exact DAtom.pures _ | exact DPlain.pure _ | exact DPlain.pures _ | exact DVar.pure _ | exact DVar.pures _ | exact DFlow.pure _ | exact DFlow.pures _ | exact DFlows.pure _ | exact DFlows.pures _ | exact DAsked.pure _ | exact DAsked.pures _ | exact DFault.pure _ | exact DFault.pures _ | exact DCell.pure _ | exact DCell.pures _ | exact DReply.pure _ | exact DReply.pures _ | exact DAsk.pure _ | exact DAsk.pures _ | exact DOp.pure _ | exact DOp.pures _ | exact pure_list (fun x => DDecl.pures x) _ | exact .fn _ _ _ pure_nil pure_nil | refine .agg _ ?_ | refine .tup _ ?_ | assumption) (pure_strs _) (n := 8) rfl (rs := [.tmp 4]) rfl ?_
  simp only [go_sem, Nat.reduceAdd, Nat.reduceSub, Nat.reduceMul, Nat.reduceLT, Nat.reduceLeDiff, Nat.reduceEqDiff, Nat.reduceBEq, Nat.reduceBNe, Nat.reducePow, Int.reduceEq, Int.reduceNe, Int.reduceLT, Int.reduceLE, Int.reduceGT, Int.reduceGE, Int.reduceAdd, Int.reduceSub, Int.reduceNeg, Int.reduceMul, not_true_eq_false, not_false_eq_true, true_and, and_true, Int.reduceToNat]
  refine PCall.call (split22 t c ht) ?_
  simp only [go_sem, Nat.reduceAdd, Nat.reduceSub, Nat.reduceMul, Nat.reduceLT, Nat.reduceLeDiff, Nat.reduceEqDiff, Nat.reduceBEq, Nat.reduceBNe, Nat.reducePow, Int.reduceEq, Int.reduceNe, Int.reduceLT, Int.reduceLE, Int.reduceGT, Int.reduceGE, Int.reduceAdd, Int.reduceSub, Int.reduceNeg, Int.reduceMul, not_true_eq_false, not_false_eq_true, true_and, and_true, Int.reduceToNat]
  exact ⟨_, rfl, false, .refl _⟩
end Go.Proofs.YtipcmpkihhfhcaaGreatDoor

namespace Go.Proofs.YtipcmpkihhfhcaaGreatDoor
open Go.Abs
set_option maxRecDepth 20000
set_option linter.unusedSimpArgs false
set_option linter.unusedVariables false
set_option maxHeartbeats 1000000
attribute [local irreducible] vc vcOps vcStep vcGuard prK hrK gK gsK brK callK ElemK SeqK BlockK ScopeK OpsK CallK LoopK LoopGo finPost ACall PCall PCallE BCall vqOps vqStep vqGuard qrK heK pcK gqK gqsK QOpsK qcallK DrawK
theorem numG_all {t : ByteArray} (h : (bts t).all (fun c => inB 48 57 c.toNat) = false) : numG t = false := by unfold numG; rw [h]; simp
theorem numG_first {t : ByteArray} (h : firstNo0 (bts t) = false) : numG t = false := by unfold numG; rw [h]; simp
theorem firstNo0_at {t : ByteArray} {p : Nat} {c : UInt8} (hc : (bts t)[p]? = some c) (hp : (p : Int) = 0) : firstNo0 (bts t) = !decide (c.toNat = 48) := by
  have : p = 0 := by omega
  subst this
  obtain ⟨l, hl⟩ := bts_cons hc
  rw [hl]; rfl
theorem n196 : (Tryz.f196.name == "runtime.NumGoroutine") = false := by kernel_rfl
theorem number24 (t : ByteArray) : PCall Tryz.prog 196 [.s t] (.b (numG t)) := by
  refine pcall_of_vc tabOK Tryz.func196 n196 rfl (pure_cons (.raw _) pure_nil) (.raw _) (n := 30) rfl (rs := [.tmp 2]) rfl ?_
  simp only [go_sem, Nat.reduceAdd, Nat.reduceSub, Nat.reduceMul, Nat.reduceLT, Nat.reduceLeDiff, Nat.reduceEqDiff, Nat.reduceBEq, Nat.reduceBNe, Nat.reducePow, Int.reduceEq, Int.reduceNe, Int.reduceLT, Int.reduceLE, Int.reduceGT, Int.reduceGE, Int.reduceAdd, Int.reduceSub, Int.reduceNeg, Int.reduceMul, not_true_eq_false, not_false_eq_true, true_and, and_true, Int.reduceToNat]
  refine loop_fr [2, 3, 4, 7, 8, 9, 10, 11, 12, 13, 14, 15, 16, 17, 18, 19, 20, 21] (fun m C hh => ∃ p : Nat, p ≤ t.size ∧ m = t.size - p ∧ (∀ c ∈ (bts t).take p, inB 48 57 c.toNat = true) ∧ (0 < p → firstNo0 (bts t) = true) ∧ C = [] ∧ hh = [.it t p]) t.size _ ⟨0, by omega, by omega, by simp, by omega, rfl, rfl⟩ .nil ?_
  rintro m C j hh ⟨p, hp, rfl, hpi, hf, rfl, rfl⟩
  rcases Nat.lt_or_ge p t.size with hlt | hge
  · obtain ⟨c, hcc⟩ := bts_at hlt
    have hd : decide (p < t.size) = true := decide_eq_true hlt
    by_cases hlo : c.toNat < 128
    · simp only [go_sem, Nat.reduceAdd, Nat.reduceSub, Nat.reduceMul, Nat.reduceLT, Nat.reduceLeDiff, Nat.reduceEqDiff, Nat.reduceBEq, Nat.reduceBNe, Nat.reducePow, Int.reduceEq, Int.reduceNe, Int.reduceLT, Int.reduceLE, Int.reduceGT, Int.reduceGE, Int.reduceAdd, Int.reduceSub, Int.reduceNeg, Int.reduceMul, not_true_eq_false, not_false_eq_true, true_and, and_true, Int.reduceToNat, hd, decode_lo hcc hlo]
      repeat' first
        | (exfalso; omega)
        | simp only [go_sem, Nat.reduceAdd, Nat.reduceSub, Nat.reduceMul, Nat.reduceLT, Nat.reduceLeDiff, Nat.reduceEqDiff, Nat.reduceBEq, Nat.reduceBNe, Nat.reducePow, Int.reduceEq, Int.reduceNe, Int.reduceLT, Int.reduceLE, Int.reduceGT, Int.reduceGE, Int.reduceAdd, Int.reduceSub, Int.reduceNeg, Int.reduceMul, not_true_eq_false, not_false_eq_true, true_and, and_true, Int.reduceToNat]
        | refine brK_dec (fun _ => ?_) (fun _ => ?_)
        | refine gK_dec (fun _ => ?_) (fun _ => ?_)
        | (refine PCall.call (digit20 _) ?_; generalize hdi : inB 48 57 (c.toNat : Nat) = q; cases q)
        | (refine finBq rfl ?_; first
            | (rw [numG_all (all_no (p := fun c => inB 48 57 c.toNat) hcc hdi)])
            | (have hp0 : (p : Int) = 0 := (by assumption); have h48 : c.toNat = 48 := (by omega); have hno : firstNo0 (bts t) = false := (by rw [firstNo0_at hcc hp0, h48]; rfl); rw [numG_first hno]))
        | exact loopFr _ (by omega) ⟨p + 1, by omega, rfl, take_all hpi hcc hdi, fun _ => by
            rcases Nat.eq_zero_or_pos p with h0 | h0
            · have h48 : ¬ c.toNat = 48 := by omega
              rw [firstNo0_at hcc (by omega), decide_eq_false h48]; rfl
            · exact hf h0, rfl, rfl⟩ .nil rfl
    · have hhi := decode_hi hcc (by omega)
      simp only [go_sem, Nat.reduceAdd, Nat.reduceSub, Nat.reduceMul, Nat.reduceLT, Nat.reduceLeDiff, Nat.reduceEqDiff, Nat.reduceBEq, Nat.reduceBNe, Nat.reducePow, Int.reduceEq, Int.reduceNe, Int.reduceLT, Int.reduceLE, Int.reduceGT, Int.reduceGE, Int.reduceAdd, Int.reduceSub, Int.reduceNeg, Int.reduceMul, not_true_eq_false, not_false_eq_true, true_and, and_true, Int.reduceToNat, hd]
      generalize Utf8.decode t p = r at hhi ⊢
      obtain ⟨r, wd⟩ := r
      dsimp only at hhi
      have h3 : inB 48 57 (r : Int) = false := inB_hi (by omega) (by omega)
      have hno : inB 48 57 (c.toNat : Nat) = false := by unfold inB; simp; omega
      repeat' first
        | (exfalso; omega)
        | simp only [go_sem, Nat.reduceAdd, Nat.reduceSub, Nat.reduceMul, Nat.reduceLT, Nat.reduceLeDiff, Nat.reduceEqDiff, Nat.reduceBEq, Nat.reduceBNe, Nat.reducePow, Int.reduceEq, Int.reduceNe, Int.reduceLT, Int.reduceLE, Int.reduceGT, Int.reduceGE, Int.reduceAdd, Int.reduceSub, Int.reduceNeg, Int.reduceMul, not_true_eq_false, not_false_eq_true, true_and, and_true, Int.reduceToNat]
        | refine brK_dec (fun _ => ?_) (fun _ => ?_)
        | refine gK_dec (fun _ => ?_) (fun _ => ?_)
        | (refine PCall.call (digit20 _) ?_; rw [h3])
        | (refine finBq rfl ?_; rw [numG_all (all_no (p := fun c => inB 48 57 c.toNat) hcc hno)])
  · have hd : decide (p < t.size) = false := decide_eq_false (by omega)
    simp only [go_sem, Nat.reduceAdd, Nat.reduceSub, Nat.reduceMul, Nat.reduceLT, Nat.reduceLeDiff, Nat.reduceEqDiff, Nat.reduceBEq, Nat.reduceBNe, Nat.reducePow, Int.reduceEq, Int.reduceNe, Int.reduceLT, Int.reduceLE, Int.reduceGT, Int.reduceGE, Int.reduceAdd, Int.reduceSub, Int.reduceNeg, Int.reduceMul, not_true_eq_false, not_false_eq_true, true_and, and_true, Int.reduceToNat, hd]
    have hall := all_yes (p := fun c => inB 48 57 c.toNat) hpi hge
    repeat' first
      | (exfalso; omega)
      | simp only [go_sem, Nat.reduceAdd, Nat.reduceSub, Nat.reduceMul, Nat.reduceLT, Nat.reduceLeDiff, Nat.reduceEqDiff, Nat.reduceBEq, Nat.reduceBNe, Nat.reducePow, Int.reduceEq, Int.reduceNe, Int.reduceLT, Int.reduceLE, Int.reduceGT, Int.reduceGE, Int.reduceAdd, Int.reduceSub, Int.reduceNeg, Int.reduceMul, not_true_eq_false, not_false_eq_true, true_and, and_true, Int.reduceToNat]
      | refine brK_dec (fun _ => ?_) (fun _ => ?_)
      | refine gK_dec (fun _ => ?_) (fun _ => ?_)
      | (refine finBq rfl ?_; unfold numG; rw [hall]; first | (have h0 : 0 < p := (by omega); have h1 : 1 ≤ t.size := (by omega); rw [hf h0, decide_eq_true h1]; by_cases q : t.size ≤ 3 <;> simp [q] <;> omega) | (have h1 : ¬ 1 ≤ t.size := (by omega); simp [h1]; done))

theorem n193 : (Tryz.f193.name == "runtime.NumGoroutine") = false := by kernel_rfl
theorem part19 (t : ByteArray) (ht : t.size ≤ 1000000000) : PCall Tryz.prog 193 [.s t] (.b (partF t)) := by
  refine pcall_of_vc tabOK Tryz.func193 n193 rfl (by repeat' first | exact pure_nil | refine pure_cons ?_ ?_ | exact .raw _ | exact pure_enc _ | exact pure_lst _ | exact pure_strs _ | exact pure_ints _ | exact DTy.pure _ | exact DTy.pures _ | exact DEnum.pure _ | exact DEnum.pures _ | exact DDecl.pure _ | exact DDecl.pures _ | exact DEq.pure _ | exact DEq.pures _ | exact DNode.pure _ | exact DNode.pures _ | exact DProg.pure _ | exact DProg.pures _ | exact DCond.pure _ | exact DCond.pures _ | exact DAtom.pure _ | exact DAtom.pures _ | exact DPlain.pure _ | exact DPlain.pures _ | exact DVar.pure _ | exact DVar.pures _ | exact DFlow.pure _ | exact DFlow.pures _ | exact DFlows.pure _ | exact DFlows.pures _ | exact DAsked.pure _ | exact DAsked.pures _ | exact DFault.pure _ | exact DFault.pures _ | exact DCell.pure _ | exact DCell.pures _ | exact DReply.pure _ | exact DReply.pures _ | exact DAsk.pure _ | exact DAsk.pures _ | exact DOp.pure _ | exact DOp.pures _ | exact pure_list (fun x => DDecl.pures x) _ | exact .fn _ _ _ pure_nil pure_nil | refine .agg _ ?_ | refine .tup _ ?_ | assumption) (by repeat' first | exact pure_nil | refine pure_cons ?_ ?_ | exact .raw _ | exact pure_enc _ | exact pure_lst _ | exact pure_strs _ | exact pure_ints _ | exact DTy.pure _ | exact DTy.pures _ | exact DEnum.pure _ | exact DEnum.pures _ | exact DDecl.pure _ | exact DDecl.pures _ | exact DEq.pure _ | exact DEq.pures _ | exact DNode.pure _ | exact DNode.pures _ | exact DProg.pure _ | exact DProg.pures _ | exact DCond.pure _ | exact DCond.pures _ | exact DAtom.pure _ | exact DAtom.pures _ | exact DPlain.pure _ | exact DPlain.pures _ | exact DVar.pure _ | exact DVar.pures _ | exact DFlow.pure _ | exact DFlow.pures _ | exact DFlows.pure _ | exact DFlows.pures _ | exact DAsked.pure _ | exact DAsked.pures _ | exact DFault.pure _ | exact DFault.pures _ | exact DCell.pure _ | exact DCell.pures _ | exact DReply.pure _ | exact DReply.pures _ | exact DAsk.pure _ | exact DAsk.pures _ | exact DOp.pure _ | exact DOp.pures _ | exact pure_list (fun x => DDecl.pures x) _ | exact .fn _ _ _ pure_nil pure_nil | refine .agg _ ?_ | refine .tup _ ?_ | assumption) (n := 22) rfl (rs := [.tmp 2]) rfl ?_
  simp only [go_sem, Nat.reduceAdd, Nat.reduceSub, Nat.reduceMul, Nat.reduceLT, Nat.reduceLeDiff, Nat.reduceEqDiff, Nat.reduceBEq, Nat.reduceBNe, Nat.reducePow, Int.reduceEq, Int.reduceNe, Int.reduceLT, Int.reduceLE, Int.reduceGT, Int.reduceGE, Int.reduceAdd, Int.reduceSub, Int.reduceNeg, Int.reduceMul, not_true_eq_false, not_false_eq_true, true_and, and_true, Int.reduceToNat]
  refine PCall.call (cut23 t 46 ht) ?_
  by_cases hc : (46 : UInt8) ∈ bts t
  · obtain ⟨m, h1, h2, h3, h4⟩ := idx_at hc
    unfold cutA
    rw [if_pos hc, if_pos hc, decide_eq_true hc, h1, Int.toNat_natCast, partF_at h2 h3 h4]
    repeat' first
      | simp only [go_sem, Nat.reduceAdd, Nat.reduceSub, Nat.reduceMul, Nat.reduceLT, Nat.reduceLeDiff, Nat.reduceEqDiff, Nat.reduceBEq, Nat.reduceBNe, Nat.reducePow, Int.reduceEq, Int.reduceNe, Int.reduceLT, Int.reduceLE, Int.reduceGT, Int.reduceGE, Int.reduceAdd, Int.reduceSub, Int.reduceNeg, Int.reduceMul, not_true_eq_false, not_false_eq_true, true_and, and_true, Int.reduceToNat]
      | (refine PCall.call (low6 _) ?_; generalize lowF (t.extract 0 m) = q; cases q)
      | (refine PCall.call (number24 _) ?_)
      | exact finBq rfl (by simp)
      | refine gK_split (fun _ => ?_) (fun _ => ?_)
  · unfold cutA
    rw [if_neg hc, if_neg hc, decide_eq_false hc, partF_no hc]
    repeat' first
      | simp only [go_sem, Nat.reduceAdd, Nat.reduceSub, Nat.reduceMul, Nat.reduceLT, Nat.reduceLeDiff, Nat.reduceEqDiff, Nat.reduceBEq, Nat.reduceBNe, Nat.reducePow, Int.reduceEq, Int.reduceNe, Int.reduceLT, Int.reduceLE, Int.reduceGT, Int.reduceGE, Int.reduceAdd, Int.reduceSub, Int.reduceNeg, Int.reduceMul, not_true_eq_false, not_false_eq_true, true_and, and_true, Int.reduceToNat]
      | (refine PCall.call (low6 _) ?_; generalize lowF t = q; cases q)
      | exact finBq rfl (by simp)

theorem n191 : (Tryz.f191.name == "runtime.NumGoroutine") = false := by kernel_rfl
theorem path12 (t : ByteArray) (ht : t.size ≤ 1000000) : PCall Tryz.prog 191 [.s t] (.b (pathF t)) := by
  refine pcall_of_vc tabOK Tryz.func191 n191 rfl (by repeat' first | exact pure_nil | refine pure_cons ?_ ?_ | exact .raw _ | exact pure_enc _ | exact pure_lst _ | exact pure_strs _ | exact pure_ints _ | exact DTy.pure _ | exact DTy.pures _ | exact DEnum.pure _ | exact DEnum.pures _ | exact DDecl.pure _ | exact DDecl.pures _ | exact DEq.pure _ | exact DEq.pures _ | exact DNode.pure _ | exact DNode.pures _ | exact DProg.pure _ | exact DProg.pures _ | exact DCond.pure _ | exact DCond.pures _ | exact DAtom.pure _ | exact DAtom.pures _ | exact DPlain.pure _ | exact DPlain.pures _ | exact DVar.pure _ | exact DVar.pures _ | exact DFlow.pure _ | exact DFlow.pures _ | exact DFlows.pure _ | exact DFlows.pures _ | exact DAsked.pure _ | exact DAsked.pures _ | exact DFault.pure _ | exact DFault.pures _ | exact DCell.pure _ | exact DCell.pures _ | exact DReply.pure _ | exact DReply.pures _ | exact DAsk.pure _ | exact DAsk.pures _ | exact DOp.pure _ | exact DOp.pures _ | exact pure_list (fun x => DDecl.pures x) _ | exact .fn _ _ _ pure_nil pure_nil | refine .agg _ ?_ | refine .tup _ ?_ | assumption) (by repeat' first | exact pure_nil | refine pure_cons ?_ ?_ | exact .raw _ | exact pure_enc _ | exact pure_lst _ | exact pure_strs _ | exact pure_ints _ | exact DTy.pure _ | exact DTy.pures _ | exact DEnum.pure _ | exact DEnum.pures _ | exact DDecl.pure _ | exact DDecl.pures _ | exact DEq.pure _ | exact DEq.pures _ | exact DNode.pure _ | exact DNode.pures _ | exact DProg.pure _ | exact DProg.pures _ | exact DCond.pure _ | exact DCond.pures _ | exact DAtom.pure _ | exact DAtom.pures _ | exact DPlain.pure _ | exact DPlain.pures _ | exact DVar.pure _ | exact DVar.pures _ | exact DFlow.pure _ | exact DFlow.pures _ | exact DFlows.pure _ | exact DFlows.pures _ | exact DAsked.pure _ | exact DAsked.pures _ | exact DFault.pure _ | exact DFault.pures _ | exact DCell.pure _ | exact DCell.pures _ | exact DReply.pure _ | exact DReply.pures _ | exact DAsk.pure _ | exact DAsk.pures _ | exact DOp.pure _ | exact DOp.pures _ | exact pure_list (fun x => DDecl.pures x) _ | exact .fn _ _ _ pure_nil pure_nil | refine .agg _ ?_ | refine .tup _ ?_ | assumption) (n := 16) rfl (rs := [.tmp 2]) rfl ?_
  unfold pathF
  repeat' first
    | exact finB rfl
    | exact finI rfl
    | exact finP rfl
    | exact absurd rfl (by assumption)
    | simp only [go_sem, Nat.reduceAdd, Nat.reduceSub, Nat.reduceMul, Nat.reduceLT, Nat.reduceLeDiff, Nat.reduceEqDiff, Nat.reduceBEq, Nat.reduceBNe, Nat.reducePow, Int.reduceEq, Int.reduceNe, Int.reduceLT, Int.reduceLE, Int.reduceGT, Int.reduceGE, Int.reduceAdd, Int.reduceSub, Int.reduceNeg, Int.reduceMul, not_true_eq_false, not_false_eq_true, true_and, and_true, Int.reduceToNat]
    | (intro _)
    | refine brK_dec (fun _ => ?_) (fun _ => ?_)
    | refine brK_any ?_ ?_
    | refine gK_dec (fun _ => ?_) (fun _ => ?_)
    | refine gK_any ?_ ?_
    | refine gqK_dec (fun _ => ?_) (fun _ => ?_)
    | refine ⟨by omega, ?_⟩
    | refine elemHave (by omega) (by assumption) ?_
    | refine elemMap (by omega) (by omega) (fun x hx => ?_)
    | refine drawK mo (by kernel_rfl) ?_
    | (refine PCall.call (split18 t 47 ht) ?_)
    | (have hle := pieces_le (List.mem_of_getElem? hx); refine PCall.call (part19 x (by omega)) ?_; generalize hpx : partF x = q; cases q)
    | (refine finBq rfl ?_; first | (rw [List.all_eq_true.2 (take_full hpi (by omega))]) | (rw [List.all_eq_false.2 ⟨x, List.mem_of_getElem? hx, by simp [hpx]⟩]))
    | exact loopFrH _ (by omega) ⟨i + 1, by omega, rfl, take_all hpi (by simpa using hx) hpx, rfl⟩ (.next rfl (by omega) .nil) rfl
    | (refine loop_frH [2, 4, 8, 9, 10, 11, 12, 13, 14, 15] (fun mm_ CC_ => ∃ (i : Nat), i ≤ (pieces 47 t).length ∧ mm_ = (pieces 47 t).length - i ∧ (∀ x ∈ (pieces 47 t).take i, partF x = true) ∧ CC_ = [(8, .raw (.int .i64 ((i : Nat) : Int)))]) ((pieces 47 t).length) _ ⟨0, by omega, by omega, by simp, rfl⟩ (.cons rfl .nil) ?_; rintro mm_ CC_ ji ⟨i, hi, rfl, hpi, rfl⟩)

theorem lv1 : lowF ⟨#[97, 95, 49]⟩ = true := by decide +kernel
theorem lv2 : lowF ⟨#[110, 111, 100, 101]⟩ = false := by decide +kernel
theorem lv3 : wordF ⟨#[110, 111, 100, 101]⟩ = true := by decide +kernel
theorem lv4 : highF ⟨#[65]⟩ = true := by decide +kernel
theorem lv5 : pathF ⟨#[97, 47, 98, 46, 49, 50]⟩ = true := by decide +kernel
theorem lv6 : pathF ⟨#[97, 46, 48]⟩ = false := by decide +kernel
theorem lv7 : pathF ⟨#[97, 47, 47, 98]⟩ = false := by decide +kernel
end Go.Proofs.YtipcmpkihhfhcaaGreatDoor

namespace Go.Proofs.YtipcmpkihhfhcaaGreatDoor
open Go.Abs
set_option maxRecDepth 20000
set_option linter.unusedSimpArgs false
set_option linter.unusedVariables false
set_option maxHeartbeats 1000000
attribute [local irreducible] vc vcOps vcStep vcGuard prK hrK gK gsK brK callK ElemK SeqK BlockK ScopeK OpsK CallK LoopK LoopGo finPost ACall PCall PCallE BCall vqOps vqStep vqGuard qrK heK pcK gqK gqsK QOpsK qcallK DrawK
theorem n187 : (Tryz.f187.name == "runtime.NumGoroutine") = false := by kernel_rfl
theorem nothing88 (e : Ex) (n : Int) : PCall Tryz.prog 187 [e.enc, .i n] (nothingE e n).enc := by
  refine pcall_of_vc tabOK Tryz.func187 n187 rfl (by repeat' first | exact pure_nil | refine pure_cons ?_ ?_ | exact .raw _ | exact pure_enc _ | exact pure_lst _ | exact pure_strs _ | exact pure_ints _ | exact DTy.pure _ | exact DTy.pures _ | exact DEnum.pure _ | exact DEnum.pures _ | exact DDecl.pure _ | exact DDecl.pures _ | exact DEq.pure _ | exact DEq.pures _ | exact DNode.pure _ | exact DNode.pures _ | exact DProg.pure _ | exact DProg.pures _ | exact DCond.pure _ | exact DCond.pures _ | exact DAtom.pure _ | exact DAtom.pures _ | exact DPlain.pure _ | exact DPlain.pures _ | exact DVar.pure _ | exact DVar.pures _ | exact DFlow.pure _ | exact DFlow.pures _ | exact DFlows.pure _ | exact DFlows.pures _ | exact DAsked.pure _ | exact DAsked.pures _ | exact DFault.pure _ | exact DFault.pures _ | exact DCell.pure _ | exact DCell.pures _ | exact DReply.pure _ | exact DReply.pures _ | exact DAsk.pure _ | exact DAsk.pures _ | exact DOp.pure _ | exact DOp.pures _ | exact pure_list (fun x => DDecl.pures x) _ | exact .fn _ _ _ pure_nil pure_nil | refine .agg _ ?_ | refine .tup _ ?_ | assumption) (DRule.pure _) (n := 17) rfl (rs := [.cell 4 165]) rfl ?_
  repeat' first
    | simp only [go_sem, Nat.reduceAdd, Nat.reduceSub, Nat.reduceMul, Nat.reduceLT, Nat.reduceLeDiff, Nat.reduceEqDiff, Nat.reduceBEq, Nat.reduceBNe, Nat.reducePow, Int.reduceEq, Int.reduceNe, Int.reduceLT, Int.reduceLE, Int.reduceGT, Int.reduceGE, Int.reduceAdd, Int.reduceSub, Int.reduceNeg, Int.reduceMul, not_true_eq_false, not_false_eq_true, true_and, and_true, Int.reduceToNat]
    | (refine drawC [1] mo (by kernel_rfl) ?_)
    | exact finRule rfl rfl
theorem n186 : (Tryz.f186.name == "runtime.NumGoroutine") = false := by kernel_rfl
theorem leaf87 (e : Ex) (hn : e.name.size ≤ 1000000) : PCall Tryz.prog 186 [e.enc] (leafE e).enc := by
  refine pcall_of_vc tabOK Tryz.func186 n186 rfl (by repeat' first | exact pure_nil | refine pure_cons ?_ ?_ | exact .raw _ | exact pure_enc _ | exact pure_lst _ | exact pure_strs _ | exact pure_ints _ | exact DTy.pure _ | exact DTy.pures _ | exact DEnum.pure _ | exact DEnum.pures _ | exact DDecl.pure _ | exact DDecl.pures _ | exact DEq.pure _ | exact DEq.pures _ | exact DNode.pure _ | exact DNode.pures _ | exact DProg.pure _ | exact DProg.pures _ | exact DCond.pure _ | exact DCond.pures _ | exact DAtom.pure _ | exact DAtom.pures _ | exact DPlain.pure _ | exact DPlain.pures _ | exact DVar.pure _ | exact DVar.pures _ | exact DFlow.pure _ | exact DFlow.pures _ | exact DFlows.pure _ | exact DFlows.pures _ | exact DAsked.pure _ | exact DAsked.pures _ | exact DFault.pure _ | exact DFault.pures _ | exact DCell.pure _ | exact DCell.pures _ | exact DReply.pure _ | exact DReply.pures _ | exact DAsk.pure _ | exact DAsk.pures _ | exact DOp.pure _ | exact DOp.pures _ | exact pure_list (fun x => DDecl.pures x) _ | exact .fn _ _ _ pure_nil pure_nil | refine .agg _ ?_ | refine .tup _ ?_ | assumption) (DRule.pure _) (n := 44) rfl (rs := [.cell 2 165]) rfl ?_
  simp only [go_sem, Nat.reduceAdd, Nat.reduceSub, Nat.reduceMul, Nat.reduceLT, Nat.reduceLeDiff, Nat.reduceEqDiff, Nat.reduceBEq, Nat.reduceBNe, Nat.reducePow, Int.reduceEq, Int.reduceNe, Int.reduceLT, Int.reduceLE, Int.reduceGT, Int.reduceGE, Int.reduceAdd, Int.reduceSub, Int.reduceNeg, Int.reduceMul, not_true_eq_false, not_false_eq_true, true_and, and_true, Int.reduceToNat]
  refine PCall.call (nothing88 e 0) ?_
  repeat' first
    | simp only [go_sem, Nat.reduceAdd, Nat.reduceSub, Nat.reduceMul, Nat.reduceLT, Nat.reduceLeDiff, Nat.reduceEqDiff, Nat.reduceBEq, Nat.reduceBNe, Nat.reducePow, Int.reduceEq, Int.reduceNe, Int.reduceLT, Int.reduceLE, Int.reduceGT, Int.reduceGE, Int.reduceAdd, Int.reduceSub, Int.reduceNeg, Int.reduceMul, not_true_eq_false, not_false_eq_true, true_and, and_true, Int.reduceToNat, nothingE]
    | refine brK_dec (fun _ => ?_) (fun _ => ?_)
    | refine gK_dec (fun _ => ?_) (fun _ => ?_)
    | refine PCall.call (low6 _) ?_
    | refine PCall.call (high8 _) ?_
    | refine PCall.call (path12 _ hn) ?_
    | (refine drawC [2] mo (by kernel_rfl) ?_)
    | (exact finRule rfl (by simp [leafE, nothingE, *]))
theorem ofA_eq (x : DRule) : x.enc = .agg [.b x.number, .b x.name, .b x.op, .i x.least, .i x.most, .i x.arms] := rfl
theorem n164 : (Tryz.f164.name == "runtime.NumGoroutine") = false := by kernel_rfl
theorem of68 (e : Ex) (hn : e.name.size ≤ 1000000) : PCall Tryz.prog 164 [e.enc] (ruleA (ofE e)) := by
  refine pcall_of_vc tabOK Tryz.func164 n164 rfl (by repeat' first | exact pure_nil | refine pure_cons ?_ ?_ | exact .raw _ | exact pure_enc _ | exact pure_lst _ | exact pure_strs _ | exact pure_ints _ | exact DTy.pure _ | exact DTy.pures _ | exact DEnum.pure _ | exact DEnum.pures _ | exact DDecl.pure _ | exact DDecl.pures _ | exact DEq.pure _ | exact DEq.pures _ | exact DNode.pure _ | exact DNode.pures _ | exact DProg.pure _ | exact DProg.pures _ | exact DCond.pure _ | exact DCond.pures _ | exact DAtom.pure _ | exact DAtom.pures _ | exact DPlain.pure _ | exact DPlain.pures _ | exact DVar.pure _ | exact DVar.pures _ | exact DFlow.pure _ | exact DFlow.pures _ | exact DFlows.pure _ | exact DFlows.pures _ | exact DAsked.pure _ | exact DAsked.pures _ | exact DFault.pure _ | exact DFault.pures _ | exact DCell.pure _ | exact DCell.pures _ | exact DReply.pure _ | exact DReply.pures _ | exact DAsk.pure _ | exact DAsk.pures _ | exact DOp.pure _ | exact DOp.pures _ | exact pure_list (fun x => DDecl.pures x) _ | exact .fn _ _ _ pure_nil pure_nil | refine .agg _ ?_ | refine .tup _ ?_ | assumption) (pure_ruleA _) (n := 106) rfl (rs := [.cell 2 165, .tmp 3]) rfl ?_
  repeat' first
    | (exfalso; omega)
    | simp only [go_sem, Nat.reduceAdd, Nat.reduceSub, Nat.reduceMul, Nat.reduceLT, Nat.reduceLeDiff, Nat.reduceEqDiff, Nat.reduceBEq, Nat.reduceBNe, Nat.reducePow, Int.reduceEq, Int.reduceNe, Int.reduceLT, Int.reduceLE, Int.reduceGT, Int.reduceGE, Int.reduceAdd, Int.reduceSub, Int.reduceNeg, Int.reduceMul, not_true_eq_false, not_false_eq_true, true_and, and_true, Int.reduceToNat, nothingE]
    | (intro _)
    | refine brK_dec (fun _ => ?_) (fun _ => ?_)
    | refine gK_dec (fun _ => ?_) (fun _ => ?_)
    | refine gqK_dec (fun _ => ?_) (fun _ => ?_)
    | refine PCall.call (low6 _) ?_
    | refine pcK_of (low6 _) ?_
    | refine PCall.call (leaf87 e hn) ?_
    | refine PCall.call (nothing88 e _) ?_
    | (refine drawC [2] mo (by kernel_rfl) ?_)
    | (exact finRule2 rfl (by simp [ofE, nothingE, *]))
    | (exact finRule2 rfl (by simp [ofE, nothingE, *] <;> omega))
end Go.Proofs.YtipcmpkihhfhcaaGreatDoor

namespace Go.Proofs.YtipcmpkihhfhcaaGreatDoor
open Go.Abs
set_option maxRecDepth 20000
set_option linter.unusedSimpArgs false
set_option linter.unusedVariables false
set_option maxHeartbeats 1000000
attribute [local irreducible] vc vcOps vcStep vcGuard prK hrK gK gsK brK callK ElemK SeqK BlockK ScopeK OpsK CallK LoopK LoopGo finPost ACall PCall PCallE BCall vqOps vqStep vqGuard qrK heK pcK gqK gqsK QOpsK qcallK DrawK
theorem n43 : (Tryz.f43.name == "runtime.NumGoroutine") = false := by kernel_rfl
theorem once12 (l : List ByteArray) : PCall Tryz.prog 43 [.lst 1 (l.map AV.s) none] (.b (onceB l)) := by
  refine pcall_of_vc tabOK Tryz.func43 n43 rfl (pure_cons (pure_strs _) pure_nil) (.raw _) (n := 22) rfl (rs := [.tmp 2]) rfl ?_
  simp only [go_sem, Nat.reduceAdd, Nat.reduceSub, Nat.reduceMul, Nat.reduceLT, Nat.reduceLeDiff, Nat.reduceEqDiff, Nat.reduceBEq, Nat.reduceBNe, Nat.reducePow, Int.reduceEq, Int.reduceNe, Int.reduceLT, Int.reduceLE, Int.reduceGT, Int.reduceGE, Int.reduceAdd, Int.reduceSub, Int.reduceNeg, Int.reduceMul, not_true_eq_false, not_false_eq_true, true_and, and_true, Int.reduceToNat]
  intro _
  refine loop_fr [2, 5, 9, 10, 11, 12, 13, 14, 15, 16, 17, 18, 19, 20, 21] (fun m C hh => ∃ (i n : Nat) (f : Value → Option AV), i ≤ l.length ∧ m = l.length - i ∧ (l.take i).Nodup ∧ MapN f (fun s => 0 + cntL s (l.take i)) ∧ C = [(9, .raw (.int .i64 (i : Nat)))] ∧ hh = [.mp .str n f]) l.length _ ⟨0, 0, _, by omega, by omega, by simp, MapN.nil.cast (fun s => by simp [cntL]), rfl, rfl⟩ (.cons rfl .nil) ?_
  rintro m C j hh ⟨i, n, f, hi, rfl, hN, hM, rfl, rfl⟩
  simp only [go_sem, Nat.reduceAdd, Nat.reduceSub, Nat.reduceMul, Nat.reduceLT, Nat.reduceLeDiff, Nat.reduceEqDiff, Nat.reduceBEq, Nat.reduceBNe, Nat.reducePow, Int.reduceEq, Int.reduceNe, Int.reduceLT, Int.reduceLE, Int.reduceGT, Int.reduceGE, Int.reduceAdd, Int.reduceSub, Int.reduceNeg, Int.reduceMul, not_true_eq_false, not_false_eq_true, true_and, and_true, Int.reduceToNat]
  refine brK_dec (fun hlt => ?_) (fun hge => ?_)
  · simp only [go_sem, Nat.reduceAdd, Nat.reduceSub, Nat.reduceMul, Nat.reduceLT, Nat.reduceLeDiff, Nat.reduceEqDiff, Nat.reduceBEq, Nat.reduceBNe, Nat.reducePow, Int.reduceEq, Int.reduceNe, Int.reduceLT, Int.reduceLE, Int.reduceGT, Int.reduceGE, Int.reduceAdd, Int.reduceSub, Int.reduceNeg, Int.reduceMul, not_true_eq_false, not_false_eq_true, true_and, and_true, Int.reduceToNat]
    refine elemMap (by omega) (by omega) (fun x hx => ?_)
    have hx' : l[i]? = some x := by simpa using hx
    have hMx := hM x
    have hle := cntL_le x (l.take i)
    rw [List.length_take] at hle
    simp only [go_sem, Nat.reduceAdd, Nat.reduceSub, Nat.reduceMul, Nat.reduceLT, Nat.reduceLeDiff, Nat.reduceEqDiff, Nat.reduceBEq, Nat.reduceBNe, Nat.reducePow, Int.reduceEq, Int.reduceNe, Int.reduceLT, Int.reduceLE, Int.reduceGT, Int.reduceGE, Int.reduceAdd, Int.reduceSub, Int.reduceNeg, Int.reduceMul, not_true_eq_false, not_false_eq_true, true_and, and_true, Int.reduceToNat, hMx]
    refine brK_dec (fun hp => ?_) (fun hp => ?_)
    · simp only [go_sem, Nat.reduceAdd, Nat.reduceSub, Nat.reduceMul, Nat.reduceLT, Nat.reduceLeDiff, Nat.reduceEqDiff, Nat.reduceBEq, Nat.reduceBNe, Nat.reducePow, Int.reduceEq, Int.reduceNe, Int.reduceLT, Int.reduceLE, Int.reduceGT, Int.reduceGE, Int.reduceAdd, Int.reduceSub, Int.reduceNeg, Int.reduceMul, not_true_eq_false, not_false_eq_true, true_and, and_true, Int.reduceToNat]
      refine finBq rfl ?_
      rw [onceB_no]
      refine nodup_bad hx' ?_
      by_cases hm : x ∈ l.take i
      · exact hm
      · have := cntL_zero hm
        exfalso; omega
    · simp only [go_sem, Nat.reduceAdd, Nat.reduceSub, Nat.reduceMul, Nat.reduceLT, Nat.reduceLeDiff, Nat.reduceEqDiff, Nat.reduceBEq, Nat.reduceBNe, Nat.reducePow, Int.reduceEq, Int.reduceNe, Int.reduceLT, Int.reduceLE, Int.reduceGT, Int.reduceGE, Int.reduceAdd, Int.reduceSub, Int.reduceNeg, Int.reduceMul, not_true_eq_false, not_false_eq_true, true_and, and_true, Int.reduceToNat, hMx]
      have hm : x ∉ l.take i := fun hm => by have := cntL_mem hm; omega
      exact loopFr _ (by omega) ⟨i + 1, _, _, by omega, rfl, nodup_step hN hx' hm, (by have h := hM.upW hx (by omega); simpa only [Nat.zero_add] using h), rfl, rfl⟩ (.next rfl (by omega) .nil) rfl
  · simp only [go_sem, Nat.reduceAdd, Nat.reduceSub, Nat.reduceMul, Nat.reduceLT, Nat.reduceLeDiff, Nat.reduceEqDiff, Nat.reduceBEq, Nat.reduceBNe, Nat.reducePow, Int.reduceEq, Int.reduceNe, Int.reduceLT, Int.reduceLE, Int.reduceGT, Int.reduceGE, Int.reduceAdd, Int.reduceSub, Int.reduceNeg, Int.reduceMul, not_true_eq_false, not_false_eq_true, true_and, and_true, Int.reduceToNat]
    exact finBq rfl (nodup_all hN (by omega)).symm
end Go.Proofs.YtipcmpkihhfhcaaGreatDoor

namespace Go.Proofs.YtipcmpkihhfhcaaGreatDoor
open Go.Abs
set_option maxRecDepth 20000
set_option linter.unusedSimpArgs false
set_option linter.unusedVariables false
set_option maxHeartbeats 1000000
attribute [local irreducible] vc vcOps vcStep vcGuard prK hrK gK gsK brK callK ElemK SeqK BlockK ScopeK OpsK CallK LoopK LoopGo finPost ACall PCall PCallE BCall vqOps vqStep vqGuard qrK heK pcK gqK gqsK QOpsK qcallK DrawK
theorem parts_sub {L : List Ex} {e : Ex} {n i : Nat} {x : Ex} (hL : ∀ (k : Nat) y, (parts e)[k]? = some y → L[n + k]? = some y) (hx : e.subs[i]? = some x) :
    ∀ (k : Nat) y, (parts x)[k]? = some y → L[n + 1 + (partsL (e.subs.take i)).length + k]? = some y := by
  obtain ⟨hi, rfl⟩ := List.getElem?_eq_some_iff.1 hx
  intro k y hy
  have h1 := partsL_take hi
  have h2 : partsL e.subs = partsL (e.subs.take i) ++ parts e.subs[i] ++ partsL (e.subs.drop (i + 1)) := by
    rw [← h1, ← partsL_append, List.take_append_drop]
  have := hL (1 + (partsL (e.subs.take i)).length + k) y (by
    rw [parts_eq, h2, show 1 + (partsL (e.subs.take i)).length + k = ((partsL (e.subs.take i)).length + k) + 1 by omega, List.getElem?_cons_succ, List.append_assoc, List.getElem?_append_right (by omega), show (partsL (e.subs.take i)).length + k - (partsL (e.subs.take i)).length = k by omega,
      List.getElem?_append_left (List.getElem?_eq_some_iff.1 hy).1]
    exact hy)
  rw [show n + 1 + (partsL (e.subs.take i)).length + k = n + (1 + (partsL (e.subs.take i)).length + k) by omega]
  exact this
theorem n163 : (Tryz.f163.name == "runtime.NumGoroutine") = false := by kernel_rfl
theorem walk53 (yl m0 : Nat) (L : List Ex) (I : Nat → List Blk → Prop) (St : List Blk → Prop) (hlen : ∀ n h, I n h → h.length = m0) (hst : ∀ h, St h → h.length = m0)
    (hy : ∀ n x h r (K : AV → List Blk → Prop), L[n]? = some x → I n h → (∀ h' r', I (n + 1) h' → K (.b true) (h' ++ (r ++ r'))) → (∀ h' r', St h' → K (.b false) (h' ++ (r ++ r'))) → YCall Tryz.prog yl [x.enc] (h ++ r) K) :
    ∀ (e : Ex) (n : Nat) (h r : List Blk) (K : AV → List Blk → Prop), (∀ (k : Nat) y, (parts e)[k]? = some y → L[n + k]? = some y) → I n h →
      (∀ h' r', I (n + (parts e).length) h' → K (.b true) (h' ++ (r ++ r'))) → (∀ h' r', St h' → K (.b false) (h' ++ (r ++ r'))) → ACall Tryz.prog 163 [e.enc, .fn (.yield yl) [] []] (h ++ r) K := by
  intro e
  induction e using Ex.ind with
  | _ e ih =>
  intro n h r K hL hI hT hF
  refine acallK_of_vc tabOK Tryz.func163 n163 rfl (n := 23) rfl (rs := [.tmp 4]) rfl ?_
  simp only [go_sem, Nat.reduceAdd, Nat.reduceSub, Nat.reduceMul, Nat.reduceLT, Nat.reduceLeDiff, Nat.reduceEqDiff, Nat.reduceBEq, Nat.reduceBNe, Nat.reducePow, Int.reduceEq, Int.reduceNe, Int.reduceLT, Int.reduceLE, Int.reduceGT, Int.reduceGE, Int.reduceAdd, Int.reduceSub, Int.reduceNeg, Int.reduceMul, not_true_eq_false, not_false_eq_true, true_and, and_true, Int.reduceToNat]
  have h0 : L[n]? = some e := by have := hL 0 e (by rw [parts_eq]; rfl); simpa using this
  have hm := hlen _ _ hI
  refine hy n e h (r ++ [exBx e]) _ h0 hI (fun h1 r1 hI1 => ?_) (fun h1 r1 hS1 => ?_)
  · have hm1 := hlen _ _ hI1
    have hbox : (h1 ++ (r ++ exBx e :: r1))[h.length + r.length]? = some (.cells 49 [.i e.kind, .i e.n, .s e.name, .i e.op, .lst 1 (e.arms.map AV.s) none, .lst 6 (e.subs.map Ex.enc) none]) := by
      rw [List.getElem?_append_right (by omega), List.getElem?_append_right (by omega)]
      rw [show h.length + r.length - h1.length - r.length = 0 by omega]; rfl
    simp only [go_sem, Nat.reduceAdd, Nat.reduceSub, Nat.reduceMul, Nat.reduceLT, Nat.reduceLeDiff, Nat.reduceEqDiff, Nat.reduceBEq, Nat.reduceBNe, Nat.reducePow, Int.reduceEq, Int.reduceNe, Int.reduceLT, Int.reduceLE, Int.reduceGT, Int.reduceGE, Int.reduceAdd, Int.reduceSub, Int.reduceNeg, Int.reduceMul, not_true_eq_false, not_false_eq_true, true_and, and_true, Int.reduceToNat, hbox]
    intro _
    refine loop_fr [4, 6, 14, 15, 16, 17, 18, 19, 20, 21, 22] (fun m C hh => ∃ (i : Nat) (h' r' : List Blk), i ≤ e.subs.length ∧ m = e.subs.length - i ∧ I (n + 1 + (partsL (e.subs.take i)).length) h' ∧ C = [(14, .raw (.int .i64 (i : Nat)))] ∧ hh = h' ++ (r ++ exBx e :: r')) e.subs.length _ ⟨0, h1, r1, by omega, by omega, by simpa [partsL] using hI1, rfl, rfl⟩ (.cons rfl .nil) ?_
    rintro m C j hh ⟨i, h', r', hi, rfl, hI', rfl, rfl⟩
    simp only [go_sem, Nat.reduceAdd, Nat.reduceSub, Nat.reduceMul, Nat.reduceLT, Nat.reduceLeDiff, Nat.reduceEqDiff, Nat.reduceBEq, Nat.reduceBNe, Nat.reducePow, Int.reduceEq, Int.reduceNe, Int.reduceLT, Int.reduceLE, Int.reduceGT, Int.reduceGE, Int.reduceAdd, Int.reduceSub, Int.reduceNeg, Int.reduceMul, not_true_eq_false, not_false_eq_true, true_and, and_true, Int.reduceToNat]
    refine brK_dec (fun hlt => ?_) (fun hge => ?_)
    · simp only [go_sem, Nat.reduceAdd, Nat.reduceSub, Nat.reduceMul, Nat.reduceLT, Nat.reduceLeDiff, Nat.reduceEqDiff, Nat.reduceBEq, Nat.reduceBNe, Nat.reducePow, Int.reduceEq, Int.reduceNe, Int.reduceLT, Int.reduceLE, Int.reduceGT, Int.reduceGE, Int.reduceAdd, Int.reduceSub, Int.reduceNeg, Int.reduceMul, not_true_eq_false, not_false_eq_true, true_and, and_true, Int.reduceToNat]
      refine elemMap (by omega) (by omega) (fun x hx => ?_)
      have hx' : e.subs[i]? = some x := by simpa using hx
      simp only [go_sem, Nat.reduceAdd, Nat.reduceSub, Nat.reduceMul, Nat.reduceLT, Nat.reduceLeDiff, Nat.reduceEqDiff, Nat.reduceBEq, Nat.reduceBNe, Nat.reducePow, Int.reduceEq, Int.reduceNe, Int.reduceLT, Int.reduceLE, Int.reduceGT, Int.reduceGE, Int.reduceAdd, Int.reduceSub, Int.reduceNeg, Int.reduceMul, not_true_eq_false, not_false_eq_true, true_and, and_true, Int.reduceToNat]
      refine ih x (List.mem_of_getElem? hx') (n + 1 + (partsL (e.subs.take i)).length) h' (r ++ exBx e :: (r' ++ [exBx x])) _ (parts_sub hL hx') hI' (fun h2 r2 hI2 => ?_) (fun h2 r2 hS2 => ?_)
      · simp only [go_sem, Nat.reduceAdd, Nat.reduceSub, Nat.reduceMul, Nat.reduceLT, Nat.reduceLeDiff, Nat.reduceEqDiff, Nat.reduceBEq, Nat.reduceBNe, Nat.reducePow, Int.reduceEq, Int.reduceNe, Int.reduceLT, Int.reduceLE, Int.reduceGT, Int.reduceGE, Int.reduceAdd, Int.reduceSub, Int.reduceNeg, Int.reduceMul, not_true_eq_false, not_false_eq_true, true_and, and_true, Int.reduceToNat]
        exact loopFr _ (by omega) ⟨i + 1, h2, r' ++ (exBx x :: r2), by omega, rfl, by rw [parts_len hx', ← Nat.add_assoc]; exact hI2, rfl, by simp⟩ (.next rfl (by omega) .nil) rfl
      · simp only [go_sem, Nat.reduceAdd, Nat.reduceSub, Nat.reduceMul, Nat.reduceLT, Nat.reduceLeDiff, Nat.reduceEqDiff, Nat.reduceBEq, Nat.reduceBNe, Nat.reducePow, Int.reduceEq, Int.reduceNe, Int.reduceLT, Int.reduceLE, Int.reduceGT, Int.reduceGE, Int.reduceAdd, Int.reduceSub, Int.reduceNeg, Int.reduceMul, not_true_eq_false, not_false_eq_true, true_and, and_true, Int.reduceToNat]
        exact finK (r := .b false) rfl (by have := hF h2 (exBx e :: (r' ++ (exBx x :: r2))) hS2; simpa using this)
    · simp only [go_sem, Nat.reduceAdd, Nat.reduceSub, Nat.reduceMul, Nat.reduceLT, Nat.reduceLeDiff, Nat.reduceEqDiff, Nat.reduceBEq, Nat.reduceBNe, Nat.reducePow, Int.reduceEq, Int.reduceNe, Int.reduceLT, Int.reduceLE, Int.reduceGT, Int.reduceGE, Int.reduceAdd, Int.reduceSub, Int.reduceNeg, Int.reduceMul, not_true_eq_false, not_false_eq_true, true_and, and_true, Int.reduceToNat]
      have hie : i = e.subs.length := by omega
      subst hie
      rw [List.take_length] at hI'
      exact finK rfl (hT h' (exBx e :: r') (by rw [parts_eq, List.length_cons, show n + ((partsL e.subs).length + 1) = n + 1 + (partsL e.subs).length by omega]; exact hI'))
  · simp only [go_sem, Nat.reduceAdd, Nat.reduceSub, Nat.reduceMul, Nat.reduceLT, Nat.reduceLeDiff, Nat.reduceEqDiff, Nat.reduceBEq, Nat.reduceBNe, Nat.reducePow, Int.reduceEq, Int.reduceNe, Int.reduceLT, Int.reduceLE, Int.reduceGT, Int.reduceGE, Int.reduceAdd, Int.reduceSub, Int.reduceNeg, Int.reduceMul, not_true_eq_false, not_false_eq_true, true_and, and_true, Int.reduceToNat]
    exact finK rfl (hF h1 (exBx e :: r1) hS1)
theorem n109 : (Tryz.f109.name == "runtime.NumGoroutine") = false := by kernel_rfl
theorem n162 : (Tryz.f162.name == "runtime.NumGoroutine") = false := by kernel_rfl
theorem each28 (e : Ex) {h : List Blk} {K : AV → List Blk → Prop} (hK : K (.fn (.func 162) [] [.ptr h.length 0]) (h ++ [exBx e])) : ACall Tryz.prog 109 [e.enc] h K := by
  refine acallK_of_vc tabOK Tryz.func109 n109 rfl (n := 4) rfl (rs := [.tmp 2]) rfl ?_
  simp only [go_sem, Nat.reduceAdd, Nat.reduceSub, Nat.reduceMul, Nat.reduceLT, Nat.reduceLeDiff, Nat.reduceEqDiff, Nat.reduceBEq, Nat.reduceBNe, Nat.reducePow, Int.reduceEq, Int.reduceNe, Int.reduceLT, Int.reduceLE, Int.reduceGT, Int.reduceGE, Int.reduceAdd, Int.reduceSub, Int.reduceNeg, Int.reduceMul, not_true_eq_false, not_false_eq_true, true_and, and_true, Int.reduceToNat]
  exact finK rfl hK
theorem each52 (e : Ex) (yl m0 : Nat) (I : Nat → List Blk → Prop) (St : List Blk → Prop) (hlen : ∀ n h, I n h → h.length = m0) (hst : ∀ h, St h → h.length = m0)
    (hy : ∀ n x h r (K : AV → List Blk → Prop), (parts e)[n]? = some x → I n h → (∀ h' r', I (n + 1) h' → K (.b true) (h' ++ (r ++ r'))) → (∀ h' r', St h' → K (.b false) (h' ++ (r ++ r'))) → YCall Tryz.prog yl [x.enc] (h ++ r) K)
    {h : List Blk} {k : Nat} {K : AV → List Blk → Prop} (hk : h[k]? = some (exBx e)) (h0 : I 0 h) (hT : ∀ h' r', I (parts e).length h' → K (.tup []) (h' ++ r')) (hF : ∀ h' r', St h' → K (.tup []) (h' ++ r')) :
    ACall Tryz.prog 162 [.fn (.yield yl) [] [], .ptr k 0] h K := by
  have hk' : h[k]? = some (.cells 49 [.i e.kind, .i e.n, .s e.name, .i e.op, .lst 1 (e.arms.map AV.s) none, .lst 6 (e.subs.map Ex.enc) none]) := hk
  refine acallK_of_vc tabOK Tryz.func162 n162 rfl (n := 6) rfl (rs := []) rfl ?_
  simp only [go_sem, Nat.reduceAdd, Nat.reduceSub, Nat.reduceMul, Nat.reduceLT, Nat.reduceLeDiff, Nat.reduceEqDiff, Nat.reduceBEq, Nat.reduceBNe, Nat.reducePow, Int.reduceEq, Int.reduceNe, Int.reduceLT, Int.reduceLE, Int.reduceGT, Int.reduceGE, Int.reduceAdd, Int.reduceSub, Int.reduceNeg, Int.reduceMul, not_true_eq_false, not_false_eq_true, true_and, and_true, Int.reduceToNat, hk']
  have hw := walk53 yl m0 (parts e) I St hlen hst hy e 0 h []
  rw [List.append_nil] at hw
  refine hw _ (fun k y hy => by simpa using hy) h0 (fun h' r' hI' => ?_) (fun h' r' hS' => ?_)
  · simp only [go_sem, Nat.reduceAdd, Nat.reduceSub, Nat.reduceMul, Nat.reduceLT, Nat.reduceLeDiff, Nat.reduceEqDiff, Nat.reduceBEq, Nat.reduceBNe, Nat.reducePow, Int.reduceEq, Int.reduceNe, Int.reduceLT, Int.reduceLE, Int.reduceGT, Int.reduceGE, Int.reduceAdd, Int.reduceSub, Int.reduceNeg, Int.reduceMul, not_true_eq_false, not_false_eq_true, true_and, and_true, Int.reduceToNat]
    rw [Nat.zero_add] at hI'
    exact ⟨[], rfl, .tup [], .refl _, hT _ _ hI'⟩
  · simp only [go_sem, Nat.reduceAdd, Nat.reduceSub, Nat.reduceMul, Nat.reduceLT, Nat.reduceLeDiff, Nat.reduceEqDiff, Nat.reduceBEq, Nat.reduceBNe, Nat.reducePow, Int.reduceEq, Int.reduceNe, Int.reduceLT, Int.reduceLE, Int.reduceGT, Int.reduceGE, Int.reduceAdd, Int.reduceSub, Int.reduceNeg, Int.reduceMul, not_true_eq_false, not_false_eq_true, true_and, and_true, Int.reduceToNat]
    exact ⟨[], rfl, .tup [], .refl _, hF _ _ hS'⟩
end Go.Proofs.YtipcmpkihhfhcaaGreatDoor

namespace Go.Proofs.YtipcmpkihhfhcaaGreatDoor
open Go.Abs
set_option maxRecDepth 20000
set_option linter.unusedSimpArgs false
set_option linter.unusedVariables false
set_option maxHeartbeats 1000000
attribute [local irreducible] vc vcOps vcStep vcGuard prK hrK gK gsK brK callK ElemK SeqK BlockK ScopeK OpsK CallK LoopK LoopGo finPost ACall PCall PCallE BCall vqOps vqStep vqGuard qrK heK pcK gqK gqsK QOpsK qcallK DrawK
theorem acall_ghost {P : Program} {f : FuncId} {args args' : List AV} {h h' : List Blk} {K : AV → List Blk → Prop} (hg : Ghost args h args' h') (hc : ACall P f args' h' K) : ACall P f args h K := by
  unfold ACall Ghost at *
  intro S φ w vs hr ha
  obtain ⟨S1, φ1, k1, k2, k3⟩ := hg S φ w vs ha hr
  obtain ⟨h1, h2⟩ := hc S1 φ1 w vs k2 k1
  refine ⟨h1, Calls.mono h2 ?_⟩
  rintro e w' ⟨v, r, hh, S', φ', e1, e2, e3, e4, e5⟩
  exact ⟨v, r, hh, S', φ', e1, e2, e3, e4, k3.trans e5⟩
/-- A range over the parts of an expression. H: what lies ahead of the loop's record behind so many rounds, G: behind it; Inv: what holds then; Hs: where a round has returned. -/
theorem each_range (e : Ex) {ps : Array Tmp} {x y : Code} {s : List AV} {l : Nat} {Q : Post} (m k g : Nat) (Inv : Nat → Prop) (H G : Nat → List Blk) (Hs : List Blk → Prop) (hH : ∀ n, (H n).length = m) (hG : ∀ n, (G n).length = g) (hHs : ∀ h, Hs h → h.length = m) (hk : (H 0)[k]? = some (exBx e)) (hps : ps.size = 1) (hx : noR x = true) (hy : noR y = true) (h0 : Inv 0)
    (hbody : ∀ (n : Nat) (z : Ex) (r : List Blk) (K : AV → List Blk → Prop), (parts e)[n]? = some z → Inv n → (Inv (n + 1) → ∀ r', K (.b true) (H (n + 1) ++ (.lp l .ready none ps x y s :: (G (n + 1) ++ (r ++ r'))))) → (∀ h' r', Hs h' → K (.b false) (h' ++ (.lp l .done (some .ret) ps x y s :: (G n ++ (r ++ r'))))) →
      vc Tryz.prog ti x (roundA Tryz.prog ti l m ps x y s K) (setPs s ps.toList [z.enc]) (H n ++ (.lp l .ready none ps x y s :: (G n ++ r))))
    (hn : ∀ r, Inv (parts e).length → Q .normal s (H (parts e).length ++ (.dead :: (G (parts e).length ++ r)))) (hr : ∀ n h' r, Hs h' → Q .ret s (h' ++ (.dead :: (G n ++ r)))) :
    ACall Tryz.prog 162 [.fn (.yield l) [] [], .ptr k 0] (H 0 ++ (.lp l .ready none ps x y s :: G 0)) (fun _ h' => loopEnd Q s m h') := by
  refine each52 e l (m + 1 + g) (fun n h => Inv n ∧ h = H n ++ (.lp l .ready none ps x y s :: G n)) (fun h => ∃ n h', Hs h' ∧ h = h' ++ (.lp l .done (some .ret) ps x y s :: G n)) ?_ ?_ ?_ ?_ ⟨h0, rfl⟩ ?_ ?_
  · rintro n h ⟨_, rfl⟩; simp [hH, hG]; omega
  · rintro h ⟨n, h', hs, rfl⟩; simp [hHs h' hs, hG]; omega
  · rintro n z h r K hz ⟨hi, rfl⟩ hK1 hK2
    rw [List.append_assoc, List.cons_append]
    refine ycall_of_vc tabOK (k := m) (ps := ps) (x := x) (y := y) (s := s) ?_ (by simp [hps]) hx hy (hbody n z r K hz hi (fun hi' r' => ?_) (fun h' r' hs => ?_))
    · rw [List.getElem?_append_right (by rw [hH]; exact Nat.le_refl _), hH, Nat.sub_self]; rfl
    · have := hK1 _ r' ⟨hi', rfl⟩
      rwa [List.append_assoc, List.cons_append] at this
    · have := hK2 _ r' ⟨n, h', hs, rfl⟩
      rwa [List.append_assoc, List.cons_append] at this
  · rw [List.getElem?_append_left (List.getElem?_eq_some_iff.1 hk).1]; exact hk
  · rintro h' r' ⟨hi, rfl⟩
    have e1 : ((H (parts e).length ++ (Blk.lp l .ready none ps x y s :: G (parts e).length)) ++ r')[m]? = some (.lp l .ready none ps x y s) := by
      rw [List.append_assoc, List.getElem?_append_right (by rw [hH]; exact Nat.le_refl _), hH, Nat.sub_self]; rfl
    have e2 : ((H (parts e).length ++ (Blk.lp l .ready none ps x y s :: G (parts e).length)) ++ r').set m .dead = H (parts e).length ++ (.dead :: (G (parts e).length ++ r')) := by
      rw [List.append_assoc, List.set_append_right _ _ (by rw [hH]; exact Nat.le_refl _), hH, Nat.sub_self]; rfl
    unfold loopEnd
    rw [e1, e2]
    exact hn r' hi
  · rintro h r' ⟨n, h', hs, rfl⟩
    have e1 : ((h' ++ (Blk.lp l .done (some .ret) ps x y s :: G n)) ++ r')[m]? = some (.lp l .done (some .ret) ps x y s) := by
      rw [List.append_assoc, List.getElem?_append_right (by rw [hHs h' hs]; exact Nat.le_refl _), hHs h' hs, Nat.sub_self]; rfl
    have e2 : ((h' ++ (Blk.lp l .done (some .ret) ps x y s :: G n)) ++ r').set m .dead = h' ++ (.dead :: (G n ++ r')) := by
      rw [List.append_assoc, List.set_append_right _ _ (by rw [hHs h' hs]; exact Nat.le_refl _), hHs h' hs, Nat.sub_self]; rfl
    unfold loopEnd
    rw [e1, e2]
    exact hr n h' r' hs

theorem n107 : (Tryz.f107.name == "runtime.NumGoroutine") = false := by kernel_rfl
theorem size20 (e : Ex) (hb : (parts e).length ≤ 100000) : PCall Tryz.prog 107 [e.enc] (.i ((parts e).length : Nat)) := by
  refine pcall_of_vc tabOK Tryz.func107 n107 rfl (by repeat' first | exact pure_nil | refine pure_cons ?_ ?_ | exact .raw _ | exact pure_enc _ | exact pure_lst _ | exact pure_strs _ | exact pure_ints _ | exact DTy.pure _ | exact DTy.pures _ | exact DEnum.pure _ | exact DEnum.pures _ | exact DDecl.pure _ | exact DDecl.pures _ | exact DEq.pure _ | exact DEq.pures _ | exact DNode.pure _ | exact DNode.pures _ | exact DProg.pure _ | exact DProg.pures _ | exact DCond.pure _ | exact DCond.pures _ | exact DAtom.pure _ | exact DAtom.pures _ | exact DPlain.pure _ | exact DPlain.pures _ | exact DVar.pure _ | exact DVar.pures _ | exact DFlow.pure _ | exact DFlow.pures _ | exact DFlows.pure _ | exact DFlows.pures _ | exact DAsked.pure _ | exact DAsked.pures _ | exact DFault.pure _ | exact DFault.pures _ | exact DCell.pure _ | exact DCell.pures _ | exact DReply.pure _ | exact DReply.pures _ | exact DAsk.pure _ | exact DAsk.pures _ | exact DOp.pure _ | exact DOp.pures _ | exact pure_list (fun x => DDecl.pures x) _ | exact .fn _ _ _ pure_nil pure_nil | refine .agg _ ?_ | refine .tup _ ?_ | assumption) (by repeat' first | exact pure_nil | refine pure_cons ?_ ?_ | exact .raw _ | exact pure_enc _ | exact pure_lst _ | exact pure_strs _ | exact pure_ints _ | exact DTy.pure _ | exact DTy.pures _ | exact DEnum.pure _ | exact DEnum.pures _ | exact DDecl.pure _ | exact DDecl.pures _ | exact DEq.pure _ | exact DEq.pures _ | exact DNode.pure _ | exact DNode.pures _ | exact DProg.pure _ | exact DProg.pures _ | exact DCond.pure _ | exact DCond.pures _ | exact DAtom.pure _ | exact DAtom.pures _ | exact DPlain.pure _ | exact DPlain.pures _ | exact DVar.pure _ | exact DVar.pures _ | exact DFlow.pure _ | exact DFlow.pures _ | exact DFlows.pure _ | exact DFlows.pures _ | exact DAsked.pure _ | exact DAsked.pures _ | exact DFault.pure _ | exact DFault.pures _ | exact DCell.pure _ | exact DCell.pures _ | exact DReply.pure _ | exact DReply.pures _ | exact DAsk.pure _ | exact DAsk.pures _ | exact DOp.pure _ | exact DOp.pures _ | exact pure_list (fun x => DDecl.pures x) _ | exact .fn _ _ _ pure_nil pure_nil | refine .agg _ ?_ | refine .tup _ ?_ | assumption) (n := 10) rfl (rs := [.tmp 2]) rfl ?_
  simp only [go_sem, Nat.reduceAdd, Nat.reduceSub, Nat.reduceMul, Nat.reduceLT, Nat.reduceLeDiff, Nat.reduceEqDiff, Nat.reduceBEq, Nat.reduceBNe, Nat.reducePow, Int.reduceEq, Int.reduceNe, Int.reduceLT, Int.reduceLE, Int.reduceGT, Int.reduceGE, Int.reduceAdd, Int.reduceSub, Int.reduceNeg, Int.reduceMul, not_true_eq_false, not_false_eq_true, true_and, and_true, Int.reduceToNat]
  refine each28 e ?_
  simp only [go_sem, Nat.reduceAdd, Nat.reduceSub, Nat.reduceMul, Nat.reduceLT, Nat.reduceLeDiff, Nat.reduceEqDiff, Nat.reduceBEq, Nat.reduceBNe, Nat.reducePow, Int.reduceEq, Int.reduceNe, Int.reduceLT, Int.reduceLE, Int.reduceGT, Int.reduceGE, Int.reduceAdd, Int.reduceSub, Int.reduceNeg, Int.reduceMul, not_true_eq_false, not_false_eq_true, true_and, and_true, Int.reduceToNat]
  intro l
  refine each_range e 3 2 0 (fun _ => True) (fun n => [exBx e, .cells 3 [.i (n : Nat)], exBx e]) (fun _ => []) (fun _ => False) (fun _ => rfl) (fun _ => rfl) (fun _ h => h.elim) rfl rfl rfl rfl trivial (fun n z r K hz _ hK1 _ => ?_) (fun r _ => ?_) (fun _ _ _ h => h.elim)
  · have hn := (List.getElem?_eq_some_iff.1 hz).1
    simp only [go_sem, Nat.reduceAdd, Nat.reduceSub, Nat.reduceMul, Nat.reduceLT, Nat.reduceLeDiff, Nat.reduceEqDiff, Nat.reduceBEq, Nat.reduceBNe, Nat.reducePow, Int.reduceEq, Int.reduceNe, Int.reduceLT, Int.reduceLE, Int.reduceGT, Int.reduceGE, Int.reduceAdd, Int.reduceSub, Int.reduceNeg, Int.reduceMul, not_true_eq_false, not_false_eq_true, true_and, and_true, Int.reduceToNat, setPs, roundA]
    try refine ⟨rfl, ?_⟩
    try simp only [go_sem, Nat.reduceAdd, Nat.reduceSub, Nat.reduceMul, Nat.reduceLT, Nat.reduceLeDiff, Nat.reduceEqDiff, Nat.reduceBEq, Nat.reduceBNe, Nat.reducePow, Int.reduceEq, Int.reduceNe, Int.reduceLT, Int.reduceLE, Int.reduceGT, Int.reduceGE, Int.reduceAdd, Int.reduceSub, Int.reduceNeg, Int.reduceMul, not_true_eq_false, not_false_eq_true, true_and, and_true, Int.reduceToNat, roundB]
    have := hK1 trivial []
    rw [wrap_in _ (by omega) (by omega)]
    simpa using this
  · simp only [go_sem, Nat.reduceAdd, Nat.reduceSub, Nat.reduceMul, Nat.reduceLT, Nat.reduceLeDiff, Nat.reduceEqDiff, Nat.reduceBEq, Nat.reduceBNe, Nat.reducePow, Int.reduceEq, Int.reduceNe, Int.reduceLT, Int.reduceLE, Int.reduceGT, Int.reduceGE, Int.reduceAdd, Int.reduceSub, Int.reduceNeg, Int.reduceMul, not_true_eq_false, not_false_eq_true, true_and, and_true, Int.reduceToNat]
    exact ⟨_, rfl, false, .refl _⟩
end Go.Proofs.YtipcmpkihhfhcaaGreatDoor

namespace Go.Proofs.YtipcmpkihhfhcaaGreatDoor
open Go.Abs
set_option maxRecDepth 20000
set_option linter.unusedSimpArgs false
set_option linter.unusedVariables false
set_option maxHeartbeats 1000000
attribute [local irreducible] vc vcOps vcStep vcGuard prK hrK gK gsK brK callK ElemK SeqK BlockK ScopeK OpsK CallK LoopK LoopGo finPost ACall PCall PCallE BCall vqOps vqStep vqGuard qrK heK pcK gqK gqsK QOpsK qcallK DrawK
theorem n111 : (Tryz.f111.name == "runtime.NumGoroutine") = false := by kernel_rfl
theorem literal48 (e : Ex) : PCall Tryz.prog 111 [e.enc] (.b (litE e)) := by
  refine pcall_of_vc tabOK Tryz.func111 n111 rfl (by repeat' first | exact pure_nil | refine pure_cons ?_ ?_ | exact .raw _ | exact pure_enc _ | exact pure_lst _ | exact pure_strs _ | exact pure_ints _ | exact DTy.pure _ | exact DTy.pures _ | exact DEnum.pure _ | exact DEnum.pures _ | exact DDecl.pure _ | exact DDecl.pures _ | exact DEq.pure _ | exact DEq.pures _ | exact DNode.pure _ | exact DNode.pures _ | exact DProg.pure _ | exact DProg.pures _ | exact DCond.pure _ | exact DCond.pures _ | exact DAtom.pure _ | exact DAtom.pures _ | exact DPlain.pure _ | exact DPlain.pures _ | exact DVar.pure _ | exact DVar.pures _ | exact DFlow.pure _ | exact DFlow.pures _ | exact DFlows.pure _ | exact DFlows.pures _ | exact DAsked.pure _ | exact DAsked.pures _ | exact DFault.pure _ | exact DFault.pures _ | exact DCell.pure _ | exact DCell.pures _ | exact DReply.pure _ | exact DReply.pures _ | exact DAsk.pure _ | exact DAsk.pures _ | exact DOp.pure _ | exact DOp.pures _ | exact pure_list (fun x => DDecl.pures x) _ | exact .fn _ _ _ pure_nil pure_nil | refine .agg _ ?_ | refine .tup _ ?_ | assumption) (by repeat' first | exact pure_nil | refine pure_cons ?_ ?_ | exact .raw _ | exact pure_enc _ | exact pure_lst _ | exact pure_strs _ | exact pure_ints _ | exact DTy.pure _ | exact DTy.pures _ | exact DEnum.pure _ | exact DEnum.pures _ | exact DDecl.pure _ | exact DDecl.pures _ | exact DEq.pure _ | exact DEq.pures _ | exact DNode.pure _ | exact DNode.pures _ | exact DProg.pure _ | exact DProg.pures _ | exact DCond.pure _ | exact DCond.pures _ | exact DAtom.pure _ | exact DAtom.pures _ | exact DPlain.pure _ | exact DPlain.pures _ | exact DVar.pure _ | exact DVar.pures _ | exact DFlow.pure _ | exact DFlow.pures _ | exact DFlows.pure _ | exact DFlows.pures _ | exact DAsked.pure _ | exact DAsked.pures _ | exact DFault.pure _ | exact DFault.pures _ | exact DCell.pure _ | exact DCell.pures _ | exact DReply.pure _ | exact DReply.pures _ | exact DAsk.pure _ | exact DAsk.pures _ | exact DOp.pure _ | exact DOp.pures _ | exact pure_list (fun x => DDecl.pures x) _ | exact .fn _ _ _ pure_nil pure_nil | refine .agg _ ?_ | refine .tup _ ?_ | assumption) (n := 28) rfl (rs := [.tmp 2]) rfl ?_
  repeat' first
    | (exfalso; omega)
    | simp only [go_sem, Nat.reduceAdd, Nat.reduceSub, Nat.reduceMul, Nat.reduceLT, Nat.reduceLeDiff, Nat.reduceEqDiff, Nat.reduceBEq, Nat.reduceBNe, Nat.reducePow, Int.reduceEq, Int.reduceNe, Int.reduceLT, Int.reduceLE, Int.reduceGT, Int.reduceGE, Int.reduceAdd, Int.reduceSub, Int.reduceNeg, Int.reduceMul, not_true_eq_false, not_false_eq_true, true_and, and_true, Int.reduceToNat]
    | (intro _)
    | refine brK_dec (fun _ => ?_) (fun _ => ?_)
    | refine gK_dec (fun _ => ?_) (fun _ => ?_)
    | refine elemMap (by omega) (by omega) (fun x hx => ?_)
    | (refine finBq rfl ?_; have hk := k0_at hx; simp [litE, *]; done)
    | (refine finBq rfl ?_; simp [litE, *]; done)
    | (refine finBq rfl ?_; have h1 : ¬ e.subs.length = 1 := (by omega); simp [litE, *]; done)
    | (refine finBq rfl ?_; have h1 : e.subs.length = 1 := (by omega); have hk := k0_at hx; simp [litE, *]; done)
theorem n112 : (Tryz.f112.name == "runtime.NumGoroutine") = false := by kernel_rfl
theorem containsExR {l : List Ex} {p : Ex → Bool} {g : Nat} {first capt : List AV} {h : List Blk} {K : AV → List Blk → Prop} (hp : ∀ x ∈ l, ∀ K : AV → List Blk → Prop, K (.b (p x)) h → ACall Tryz.prog g (first ++ Ex.enc x :: capt) h K)
    (hK : K (.b (l.any p)) h) : ACall Tryz.prog 112 [.lst 6 (l.map Ex.enc) none, .fn (.func g) first capt] h K := by
  refine acall_of_vc tabOK Tryz.func112 n112 rfl (n := 9) rfl (rs := [.tmp 4]) rfl ?_
  simp only [go_sem, Nat.reduceAdd, Nat.reduceSub, Nat.reduceMul, Nat.reduceLT, Nat.reduceLeDiff, Nat.reduceEqDiff, Nat.reduceBEq, Nat.reduceBNe, Nat.reducePow, Int.reduceEq, Int.reduceNe, Int.reduceLT, Int.reduceLE, Int.reduceGT, Int.reduceGE, Int.reduceAdd, Int.reduceSub, Int.reduceNeg, Int.reduceMul, not_true_eq_false, not_false_eq_true, true_and, and_true, Int.reduceToNat]
  refine indexEx hp ?_
  simp only [go_sem, Nat.reduceAdd, Nat.reduceSub, Nat.reduceMul, Nat.reduceLT, Nat.reduceLeDiff, Nat.reduceEqDiff, Nat.reduceBEq, Nat.reduceBNe, Nat.reducePow, Int.reduceEq, Int.reduceNe, Int.reduceLT, Int.reduceLE, Int.reduceGT, Int.reduceGE, Int.reduceAdd, Int.reduceSub, Int.reduceNeg, Int.reduceMul, not_true_eq_false, not_false_eq_true, true_and, and_true, Int.reduceToNat]
  rw [idx_any]
  exact finH1 rfl (.raw _) hK
theorem n134 : (Tryz.f134.name == "runtime.NumGoroutine") = false := by kernel_rfl
theorem containsStrR {l : List ByteArray} {p : ByteArray → Bool} {g : Nat} {first capt : List AV} {h : List Blk} {K : AV → List Blk → Prop} (hp : ∀ x ∈ l, ∀ K : AV → List Blk → Prop, K (.b (p x)) h → ACall Tryz.prog g (first ++ AV.s x :: capt) h K)
    (hK : K (.b (l.any p)) h) : ACall Tryz.prog 134 [.lst 1 (l.map AV.s) none, .fn (.func g) first capt] h K := by
  refine acall_of_vc tabOK Tryz.func134 n134 rfl (n := 9) rfl (rs := [.tmp 4]) rfl ?_
  simp only [go_sem, Nat.reduceAdd, Nat.reduceSub, Nat.reduceMul, Nat.reduceLT, Nat.reduceLeDiff, Nat.reduceEqDiff, Nat.reduceBEq, Nat.reduceBNe, Nat.reducePow, Int.reduceEq, Int.reduceNe, Int.reduceLT, Int.reduceLE, Int.reduceGT, Int.reduceGE, Int.reduceAdd, Int.reduceSub, Int.reduceNeg, Int.reduceMul, not_true_eq_false, not_false_eq_true, true_and, and_true, Int.reduceToNat]
  refine indexStr hp ?_
  simp only [go_sem, Nat.reduceAdd, Nat.reduceSub, Nat.reduceMul, Nat.reduceLT, Nat.reduceLeDiff, Nat.reduceEqDiff, Nat.reduceBEq, Nat.reduceBNe, Nat.reducePow, Int.reduceEq, Int.reduceNe, Int.reduceLT, Int.reduceLE, Int.reduceGT, Int.reduceGE, Int.reduceAdd, Int.reduceSub, Int.reduceNeg, Int.reduceMul, not_true_eq_false, not_false_eq_true, true_and, and_true, Int.reduceToNat]
  rw [idx_any]
  exact finH1 rfl (.raw _) hK
theorem n113 : (Tryz.f113.name == "runtime.NumGoroutine") = false := by kernel_rfl
theorem n61 : (Tryz.f61.name == "runtime.NumGoroutine") = false := by kernel_rfl
theorem const18 (e : Ex) : PCall Tryz.prog 61 [e.enc] (.b (constE e)) := by
  refine pcall_of_vc tabOK Tryz.func61 n61 rfl (by repeat' first | exact pure_nil | refine pure_cons ?_ ?_ | exact .raw _ | exact pure_enc _ | exact pure_lst _ | exact pure_strs _ | exact pure_ints _ | exact DTy.pure _ | exact DTy.pures _ | exact DEnum.pure _ | exact DEnum.pures _ | exact DDecl.pure _ | exact DDecl.pures _ | exact DEq.pure _ | exact DEq.pures _ | exact DNode.pure _ | exact DNode.pures _ | exact DProg.pure _ | exact DProg.pures _ | exact DCond.pure _ | exact DCond.pures _ | exact DAtom.pure _ | exact DAtom.pures _ | exact DPlain.pure _ | exact DPlain.pures _ | exact DVar.pure _ | exact DVar.pures _ | exact DFlow.pure _ | exact DFlow.pures _ | exact DFlows.pure _ | exact DFlows.pures _ | exact DAsked.pure _ | exact DAsked.pures _ | exact DFault.pure _ | exact DFault.pures _ | exact DCell.pure _ | exact DCell.pures _ | exact DReply.pure _ | exact DReply.pures _ | exact DAsk.pure _ | exact DAsk.pures _ | exact DOp.pure _ | exact DOp.pures _ | exact pure_list (fun x => DDecl.pures x) _ | exact .fn _ _ _ pure_nil pure_nil | refine .agg _ ?_ | refine .tup _ ?_ | assumption) (by repeat' first | exact pure_nil | refine pure_cons ?_ ?_ | exact .raw _ | exact pure_enc _ | exact pure_lst _ | exact pure_strs _ | exact pure_ints _ | exact DTy.pure _ | exact DTy.pures _ | exact DEnum.pure _ | exact DEnum.pures _ | exact DDecl.pure _ | exact DDecl.pures _ | exact DEq.pure _ | exact DEq.pures _ | exact DNode.pure _ | exact DNode.pures _ | exact DProg.pure _ | exact DProg.pures _ | exact DCond.pure _ | exact DCond.pures _ | exact DAtom.pure _ | exact DAtom.pures _ | exact DPlain.pure _ | exact DPlain.pures _ | exact DVar.pure _ | exact DVar.pures _ | exact DFlow.pure _ | exact DFlow.pures _ | exact DFlows.pure _ | exact DFlows.pures _ | exact DAsked.pure _ | exact DAsked.pures _ | exact DFault.pure _ | exact DFault.pures _ | exact DCell.pure _ | exact DCell.pures _ | exact DReply.pure _ | exact DReply.pures _ | exact DAsk.pure _ | exact DAsk.pures _ | exact DOp.pure _ | exact DOp.pures _ | exact pure_list (fun x => DDecl.pures x) _ | exact .fn _ _ _ pure_nil pure_nil | refine .agg _ ?_ | refine .tup _ ?_ | assumption) (n := 12) rfl (rs := [.tmp 2]) rfl ?_
  simp only [go_sem, Nat.reduceAdd, Nat.reduceSub, Nat.reduceMul, Nat.reduceLT, Nat.reduceLeDiff, Nat.reduceEqDiff, Nat.reduceBEq, Nat.reduceBNe, Nat.reducePow, Int.reduceEq, Int.reduceNe, Int.reduceLT, Int.reduceLE, Int.reduceGT, Int.reduceGE, Int.reduceAdd, Int.reduceSub, Int.reduceNeg, Int.reduceMul, not_true_eq_false, not_false_eq_true, true_and, and_true, Int.reduceToNat]
  refine brK_dec (fun h14 => ?_) (fun h14 => ?_)
  · simp only [go_sem, Nat.reduceAdd, Nat.reduceSub, Nat.reduceMul, Nat.reduceLT, Nat.reduceLeDiff, Nat.reduceEqDiff, Nat.reduceBEq, Nat.reduceBNe, Nat.reducePow, Int.reduceEq, Int.reduceNe, Int.reduceLT, Int.reduceLE, Int.reduceGT, Int.reduceGE, Int.reduceAdd, Int.reduceSub, Int.reduceNeg, Int.reduceMul, not_true_eq_false, not_false_eq_true, true_and, and_true, Int.reduceToNat]
    refine PCall.call (literal48 e) ?_
    simp only [go_sem, Nat.reduceAdd, Nat.reduceSub, Nat.reduceMul, Nat.reduceLT, Nat.reduceLeDiff, Nat.reduceEqDiff, Nat.reduceBEq, Nat.reduceBNe, Nat.reducePow, Int.reduceEq, Int.reduceNe, Int.reduceLT, Int.reduceLE, Int.reduceGT, Int.reduceGE, Int.reduceAdd, Int.reduceSub, Int.reduceNeg, Int.reduceMul, not_true_eq_false, not_false_eq_true, true_and, and_true, Int.reduceToNat]
    exact finBq rfl (by simp [constE, h14])
  · have h14 : e.kind = 14 := Classical.not_not.1 h14
    simp only [go_sem, Nat.reduceAdd, Nat.reduceSub, Nat.reduceMul, Nat.reduceLT, Nat.reduceLeDiff, Nat.reduceEqDiff, Nat.reduceBEq, Nat.reduceBNe, Nat.reducePow, Int.reduceEq, Int.reduceNe, Int.reduceLT, Int.reduceLE, Int.reduceGT, Int.reduceGE, Int.reduceAdd, Int.reduceSub, Int.reduceNeg, Int.reduceMul, not_true_eq_false, not_false_eq_true, true_and, and_true, Int.reduceToNat]
    refine containsExR (p := fun x => !litE x) (fun x hx K hK => ?_) ?_
    · refine acall_of_vc tabOK Tryz.func113 n113 rfl (n := 6) rfl (rs := [.tmp 2]) rfl ?_
      simp only [go_sem, Nat.reduceAdd, Nat.reduceSub, Nat.reduceMul, Nat.reduceLT, Nat.reduceLeDiff, Nat.reduceEqDiff, Nat.reduceBEq, Nat.reduceBNe, Nat.reducePow, Int.reduceEq, Int.reduceNe, Int.reduceLT, Int.reduceLE, Int.reduceGT, Int.reduceGE, Int.reduceAdd, Int.reduceSub, Int.reduceNeg, Int.reduceMul, not_true_eq_false, not_false_eq_true, true_and, and_true, Int.reduceToNat]
      refine PCall.call (literal48 x) ?_
      simp only [go_sem, Nat.reduceAdd, Nat.reduceSub, Nat.reduceMul, Nat.reduceLT, Nat.reduceLeDiff, Nat.reduceEqDiff, Nat.reduceBEq, Nat.reduceBNe, Nat.reducePow, Int.reduceEq, Int.reduceNe, Int.reduceLT, Int.reduceLE, Int.reduceGT, Int.reduceGE, Int.reduceAdd, Int.reduceSub, Int.reduceNeg, Int.reduceMul, not_true_eq_false, not_false_eq_true, true_and, and_true, Int.reduceToNat]
      exact finH0 _ rfl (.raw _) hK
    simp only [go_sem, Nat.reduceAdd, Nat.reduceSub, Nat.reduceMul, Nat.reduceLT, Nat.reduceLeDiff, Nat.reduceEqDiff, Nat.reduceBEq, Nat.reduceBNe, Nat.reducePow, Int.reduceEq, Int.reduceNe, Int.reduceLT, Int.reduceLE, Int.reduceGT, Int.reduceGE, Int.reduceAdd, Int.reduceSub, Int.reduceNeg, Int.reduceMul, not_true_eq_false, not_false_eq_true, true_and, and_true, Int.reduceToNat]
    exact finBq rfl (by simp [constE, h14, List.all_eq_not_any_not])
theorem n166 : (Tryz.f166.name == "runtime.NumGoroutine") = false := by kernel_rfl
theorem arm71 (s : ByteArray) : PCall Tryz.prog 166 [.s s] (.b (armE s)) := by
  refine pcall_of_vc tabOK Tryz.func166 n166 rfl (by repeat' first | exact pure_nil | refine pure_cons ?_ ?_ | exact .raw _ | exact pure_enc _ | exact pure_lst _ | exact pure_strs _ | exact pure_ints _ | exact DTy.pure _ | exact DTy.pures _ | exact DEnum.pure _ | exact DEnum.pures _ | exact DDecl.pure _ | exact DDecl.pures _ | exact DEq.pure _ | exact DEq.pures _ | exact DNode.pure _ | exact DNode.pures _ | exact DProg.pure _ | exact DProg.pures _ | exact DCond.pure _ | exact DCond.pures _ | exact DAtom.pure _ | exact DAtom.pures _ | exact DPlain.pure _ | exact DPlain.pures _ | exact DVar.pure _ | exact DVar.pures _ | exact DFlow.pure _ | exact DFlow.pures _ | exact DFlows.pure _ | exact DFlows.pures _ | exact DAsked.pure _ | exact DAsked.pures _ | exact DFault.pure _ | exact DFault.pures _ | exact DCell.pure _ | exact DCell.pures _ | exact DReply.pure _ | exact DReply.pures _ | exact DAsk.pure _ | exact DAsk.pures _ | exact DOp.pure _ | exact DOp.pures _ | exact pure_list (fun x => DDecl.pures x) _ | exact .fn _ _ _ pure_nil pure_nil | refine .agg _ ?_ | refine .tup _ ?_ | assumption) (by repeat' first | exact pure_nil | refine pure_cons ?_ ?_ | exact .raw _ | exact pure_enc _ | exact pure_lst _ | exact pure_strs _ | exact pure_ints _ | exact DTy.pure _ | exact DTy.pures _ | exact DEnum.pure _ | exact DEnum.pures _ | exact DDecl.pure _ | exact DDecl.pures _ | exact DEq.pure _ | exact DEq.pures _ | exact DNode.pure _ | exact DNode.pures _ | exact DProg.pure _ | exact DProg.pures _ | exact DCond.pure _ | exact DCond.pures _ | exact DAtom.pure _ | exact DAtom.pures _ | exact DPlain.pure _ | exact DPlain.pures _ | exact DVar.pure _ | exact DVar.pures _ | exact DFlow.pure _ | exact DFlow.pures _ | exact DFlows.pure _ | exact DFlows.pures _ | exact DAsked.pure _ | exact DAsked.pures _ | exact DFault.pure _ | exact DFault.pures _ | exact DCell.pure _ | exact DCell.pures _ | exact DReply.pure _ | exact DReply.pures _ | exact DAsk.pure _ | exact DAsk.pures _ | exact DOp.pure _ | exact DOp.pures _ | exact pure_list (fun x => DDecl.pures x) _ | exact .fn _ _ _ pure_nil pure_nil | refine .agg _ ?_ | refine .tup _ ?_ | assumption) (n := 13) rfl (rs := [.tmp 2]) rfl ?_
  unfold armE
  repeat' first
    | exact finB rfl
    | exact finI rfl
    | exact finP rfl
    | exact absurd rfl (by assumption)
    | simp only [go_sem, Nat.reduceAdd, Nat.reduceSub, Nat.reduceMul, Nat.reduceLT, Nat.reduceLeDiff, Nat.reduceEqDiff, Nat.reduceBEq, Nat.reduceBNe, Nat.reducePow, Int.reduceEq, Int.reduceNe, Int.reduceLT, Int.reduceLE, Int.reduceGT, Int.reduceGE, Int.reduceAdd, Int.reduceSub, Int.reduceNeg, Int.reduceMul, not_true_eq_false, not_false_eq_true, true_and, and_true, Int.reduceToNat]
    | (intro _)
    | refine brK_dec (fun _ => ?_) (fun _ => ?_)
    | refine brK_split (fun hb_ => ?_) (fun hb_ => ?_)
    | refine gK_dec (fun _ => ?_) (fun _ => ?_)
    | refine gK_split (fun hb_ => ?_) (fun hb_ => ?_)
    | refine gqK_dec (fun _ => ?_) (fun _ => ?_)
    | refine ⟨by omega, ?_⟩
    | refine elemHave (by omega) (by assumption) ?_
    | refine elemMap (by omega) (by omega) (fun x hx => ?_)
    | refine drawK mo (by kernel_rfl) ?_
    | (refine PCall.call (high8 s) ?_; generalize highF s = q; cases q)
    | (exact finBq rfl (by simp [*]))
theorem n110 : (Tryz.f110.name == "runtime.NumGoroutine") = false := by kernel_rfl
theorem n165 : (Tryz.f165.name == "runtime.NumGoroutine") = false := by kernel_rfl
theorem part46 (e : Ex) (hn : e.name.size ≤ 1000000) : PCall Tryz.prog 110 [e.enc] (.b (partP e)) := by
  refine pcall_of_vc tabOK Tryz.func110 n110 rfl (by repeat' first | exact pure_nil | refine pure_cons ?_ ?_ | exact .raw _ | exact pure_enc _ | exact pure_lst _ | exact pure_strs _ | exact pure_ints _ | exact DTy.pure _ | exact DTy.pures _ | exact DEnum.pure _ | exact DEnum.pures _ | exact DDecl.pure _ | exact DDecl.pures _ | exact DEq.pure _ | exact DEq.pures _ | exact DNode.pure _ | exact DNode.pures _ | exact DProg.pure _ | exact DProg.pures _ | exact DCond.pure _ | exact DCond.pures _ | exact DAtom.pure _ | exact DAtom.pures _ | exact DPlain.pure _ | exact DPlain.pures _ | exact DVar.pure _ | exact DVar.pures _ | exact DFlow.pure _ | exact DFlow.pures _ | exact DFlows.pure _ | exact DFlows.pures _ | exact DAsked.pure _ | exact DAsked.pures _ | exact DFault.pure _ | exact DFault.pures _ | exact DCell.pure _ | exact DCell.pures _ | exact DReply.pure _ | exact DReply.pures _ | exact DAsk.pure _ | exact DAsk.pures _ | exact DOp.pure _ | exact DOp.pures _ | exact pure_list (fun x => DDecl.pures x) _ | exact .fn _ _ _ pure_nil pure_nil | refine .agg _ ?_ | refine .tup _ ?_ | assumption) (.raw _) (n := 79) rfl (rs := [.tmp 2]) rfl ?_
  have h2 : 1 ≤ (ofE e).1.least ∨ ¬ e.kind = 8 := by
    by_cases h8 : e.kind = 8
    · left; simp [ofE, nothingE, h8]
    · right; exact h8
  unfold partP
  simp only [go_sem, Nat.reduceAdd, Nat.reduceSub, Nat.reduceMul, Nat.reduceLT, Nat.reduceLeDiff, Nat.reduceEqDiff, Nat.reduceBEq, Nat.reduceBNe, Nat.reducePow, Int.reduceEq, Int.reduceNe, Int.reduceLT, Int.reduceLE, Int.reduceGT, Int.reduceGE, Int.reduceAdd, Int.reduceSub, Int.reduceNeg, Int.reduceMul, not_true_eq_false, not_false_eq_true, true_and, and_true, Int.reduceToNat]
  refine PCall.call (of68 e hn) ?_
  generalize ofE e = R at h2 ⊢
  obtain ⟨⟨x, y, z, a, b, c⟩, ok⟩ := R
  dsimp only at h2
  cases ok <;> cases x <;> cases y <;> cases z <;>
  repeat' first
    | (exfalso; omega)
    | simp only [go_sem, Nat.reduceAdd, Nat.reduceSub, Nat.reduceMul, Nat.reduceLT, Nat.reduceLeDiff, Nat.reduceEqDiff, Nat.reduceBEq, Nat.reduceBNe, Nat.reducePow, Int.reduceEq, Int.reduceNe, Int.reduceLT, Int.reduceLE, Int.reduceGT, Int.reduceGE, Int.reduceAdd, Int.reduceSub, Int.reduceNeg, Int.reduceMul, not_true_eq_false, not_false_eq_true, true_and, and_true, Int.reduceToNat]
    | (intro _)
    | refine brK_dec (fun _ => ?_) (fun _ => ?_)
    | refine gK_dec (fun _ => ?_) (fun _ => ?_)
    | refine brK_split (fun hb_ => ?_) (fun hb_ => ?_)
    | refine gK_split (fun hb_ => ?_) (fun hb_ => ?_)
    | (refine PCall.call (once12 e.arms) ?_; generalize ho : onceB e.arms = o; cases o)
    | (refine containsStrR (p := fun s => !armE s) (fun s hs K hK => ?_) ?_
       · refine acall_of_vc tabOK Tryz.func165 n165 rfl (n := 6) rfl (rs := [.tmp 2]) rfl ?_
         simp only [go_sem, Nat.reduceAdd, Nat.reduceSub, Nat.reduceMul, Nat.reduceLT, Nat.reduceLeDiff, Nat.reduceEqDiff, Nat.reduceBEq, Nat.reduceBNe, Nat.reducePow, Int.reduceEq, Int.reduceNe, Int.reduceLT, Int.reduceLE, Int.reduceGT, Int.reduceGE, Int.reduceAdd, Int.reduceSub, Int.reduceNeg, Int.reduceMul, not_true_eq_false, not_false_eq_true, true_and, and_true, Int.reduceToNat]
         refine PCall.call (arm71 s) ?_
         simp only [go_sem, Nat.reduceAdd, Nat.reduceSub, Nat.reduceMul, Nat.reduceLT, Nat.reduceLeDiff, Nat.reduceEqDiff, Nat.reduceBEq, Nat.reduceBNe, Nat.reducePow, Int.reduceEq, Int.reduceNe, Int.reduceLT, Int.reduceLE, Int.reduceGT, Int.reduceGE, Int.reduceAdd, Int.reduceSub, Int.reduceNeg, Int.reduceMul, not_true_eq_false, not_false_eq_true, true_and, and_true, Int.reduceToNat]
         exact finH0 _ rfl (.raw _) hK
       have hall : e.arms.all armE = !(e.arms.any fun s => !armE s) := List.all_eq_not_any_not
       rw [hall]
       generalize (e.arms.any fun s => !armE s) = q
       cases q)
    | refine elemMap (by omega) (by omega) (fun x hx => ?_)
    | (refine PCall.call (const18 _) ?_)
    | (refine finBq rfl ?_; simp [*]; done)
    | (refine finBq rfl ?_; simp [*]; omega)
    | (refine finBq rfl ?_; have hm : e.arms.length = 0 := (by omega); simp [*]; done)
    | (refine finBq rfl ?_; have f1 : a ≤ (e.subs.length : Int) := (by omega); have f2 : (e.subs.length : Int) ≤ b := (by omega); have f3 : (e.arms.length : Int) ≤ c := (by omega)
       rw [decide_eq_true f1, decide_eq_true f2, decide_eq_true f3]
       first
         | (have hm : ¬ e.arms.length = 0 := (by omega); rw [decide_eq_false hm]; first | (simp [*]; done) | (rw [head_at hx]; simp [*]; done))
         | (have hm : ¬ c > 0 := (by omega); rw [decide_eq_false hm]; first | (simp [*]; done) | (rw [head_at hx]; simp [*]; done)))
end Go.Proofs.YtipcmpkihhfhcaaGreatDoor

/-
  Fresh slices: a call's result that its caller may append to.
-/
namespace Go.Abs
open Go

theorem swap_sound {S S' : Addr → Prop} {φ φ' : Nat → Loc} {w w' : World} {h h1 junk : List Blk} {e : TypeId} {sz n k : Nat} (hr : R S φ h w) (hr' : R S' φ' (h1 ++ junk) w') (he : Ext S φ h w S' φ' (h1 ++ junk) w') (hc : Chg h.length h h1)
    (hk : (h1 ++ junk)[k]? = some (.tok e sz n)) (hkl : h.length ≤ k) :
    let φ'' : Nat → Loc := fun j => if j < h.length then φ' j else if j = h.length then φ' k else .no
    R S' φ'' (h1 ++ [.tok e sz n]) w' ∧ Ext S φ h w S' φ'' (h1 ++ [.tok e sz n]) w' := by
  intro φ''
  obtain ⟨hl, hat⟩ := hc.at
  have hf : ∀ j, j < h.length → φ'' j = φ' j := fun j hj => by simp only [φ'']; rw [if_pos hj]
  have hmid : φ'' h.length = φ' k := by simp [φ'']
  have hno : ∀ j, h.length < j → φ'' j = .no := fun j hj => by simp only [φ'']; rw [if_neg (by omega), if_neg (by omega)]
  have hle : ∀ j, (φ j).le (φ'' j) := by
    intro j
    rcases Nat.lt_or_ge j h.length with g | g
    · rw [hf j g]; exact he.loc j
    · rw [hr.fresh j g]; trivial
  have hin : ∀ (j : Nat) y, (h1 ++ [Blk.tok e sz n])[j]? = some y → (j < h.length ∧ h1[j]? = some y ∧ (h1 ++ junk)[j]? = some y) ∨ (j = h.length ∧ y = .tok e sz n) := by
    intro j y hj
    rcases Nat.lt_or_ge j h1.length with g | g
    · rw [List.getElem?_append_left g] at hj
      exact .inl ⟨by omega, hj, by rw [List.getElem?_append_left g]; exact hj⟩
    · rw [List.getElem?_append_right g] at hj
      have : j - h1.length = 0 := by
        rcases Nat.eq_zero_or_pos (j - h1.length) with q | q
        · exact q
        · rw [List.getElem?_eq_none (by simp; omega)] at hj; cases hj
      rw [this] at hj
      simp at hj
      exact .inr ⟨by omega, hj.symm⟩
  have hlow : ∀ (j : Nat) y, h1[j]? = some y → BlwBlk h.length y := by
    intro j y hj
    rcases hat j y hj with g | g
    · exact RB.blw (fun i hi => hr.fresh i hi) (hr.blk j _ g)
    · exact g
  have hown : ∀ b, Owns φ'' (h1 ++ [.tok e sz n]) b → Owns φ' (h1 ++ junk) b := by
    rintro b ⟨j, x, hj, hb⟩
    rcases hin j x hj with ⟨g1, _, g2⟩ | ⟨rfl, rfl⟩
    · exact ⟨j, x, g2, by rw [← hf j g1]; exact hb⟩
    · exact ⟨k, _, hk, by rw [← hmid]; exact hb⟩
  refine ⟨⟨fun j x hj => ?_, fun j j' x x' b hj hj' hb hb' => ?_, hr'.bnd, fun j hj => hno j (by simp at hj; omega)⟩, ⟨he.os, he.tape, he.output, he.size, he.keep, he.sub, he.cell, hle, he.new, fun b hb => he.own b (hown b hb)⟩⟩
  · rcases hin j x hj with ⟨g1, g3, g2⟩ | ⟨rfl, rfl⟩
    · exact RB.low hf g1 (hr'.blk j x g2) (hlow j x g3)
    · obtain ⟨u, q1, q2⟩ := hr'.blk k _ hk
      exact ⟨u, by rw [hmid]; exact q1, q2⟩
  · rcases hin j x hj with ⟨g1, _, g2⟩ | ⟨rfl, rfl⟩
    · rw [hf j g1] at hb
      rcases hin j' x' hj' with ⟨q1, _, q2⟩ | ⟨rfl, rfl⟩
      · rw [hf j' q1] at hb'
        exact hr'.inj j j' x x' b g2 q2 hb hb'
      · rw [hmid] at hb'
        have := hr'.inj j k x _ b g2 hk hb hb'
        omega
    · rw [hmid] at hb
      rcases hin j' x' hj' with ⟨q1, _, q2⟩ | ⟨rfl, rfl⟩
      · rw [hf j' q1] at hb'
        have := hr'.inj k j' _ x' b hk q2 hb hb'
        omega
      · rfl

section
variable {P : Program} {T : TypeId → TI} {s : List AV} {h : List Blk} {c : Code}

/-- What the end of a function must be whose result is a fresh slice, with its token at the caller's next place. -/
def FinT (T : TypeId → TI) (rs : List ResultVar) (h : List Blk) (e : TypeId) (sz : Nat) (l : List AV) (K : AV → List Blk → Prop) (s : List AV) (h' : List Blk) : Prop :=
  ∃ h1 junk k, resAV T s h' rs = some [.lst sz l (some k)] ∧ h' = h1 ++ junk ∧ Chg h.length h h1 ∧ h.length ≤ k ∧ h'[k]? = some (.tok e sz l.length) ∧ (∀ c ∈ flat l, Blw h.length c) ∧
    K (.lst sz l (some h.length)) (h1 ++ [.tok e sz l.length])

theorem acallT_of_vc (hT : TabOK P T) {f : FuncId} {fn : Func} (hf : P.funcs[f]? = some fn) (hname : (fn.name == "runtime.NumGoroutine") = false) (hb : fn.body = some c) {args : List AV} {K : AV → List Blk → Prop}
    {n : Nat} (hn : fn.ntmps = n) {rs : List ResultVar} (hrs : fn.results.toList = rs) {e : TypeId} {sz : Nat} {l : List AV}
    (hv : vc P T c (finPost (FinT T rs h e sz l K)) (args ++ List.replicate (n - args.length) (.tup [])) h) : ACall P f args h K := by
  intro S φ w vs hr hargs
  refine ⟨run_callFunc hf hname (by rw [hb]; rfl) vs w, ?_⟩
  have htmps : CAll S w φ (args ++ List.replicate (n - args.length) (.tup [])) (vs ++ Array.replicate (fn.ntmps - vs.size) undef) := by
    refine hargs.append ⟨by rw [Array.size_replicate, List.length_replicate, hn, hargs.1], fun i x v hx hv => ?_⟩
    rw [List.getElem?_replicate] at hx
    rw [Array.getElem?_replicate] at hv
    split at hx
    · split at hv
      · cases hx; cases hv; exact C.undef_
      · cases hv
    · cases hx
  refine calls_of_vc hT hf hb hv htmps hr ?_
  intro tmps s' h' S' φ' w' hG hs' hr' he
  revert hG
  rintro ⟨h1, junk, k, hl, rfl, hchg, hkl, hk, hbl, hKr⟩
  obtain ⟨k1, k2⟩ := swap_sound hr hr' he hchg hk hkl
  have g3 := results_plain hT hs' hr' (fn := fn) (a := { tmps := tmps, defers := [] }) (by rw [hrs]; exact hl)
  obtain ⟨v', e1, e2⟩ := g3
  refine ⟨v', e1, v', _, _, S', _, rfl, hKr, ?_, k1, k2⟩
  have hlow : ∀ j, j < h.length → (fun j => if j < h.length then φ' j else if j = h.length then φ' k else Loc.no) j = φ' j := fun j hj => by simp [hj]
  have e3 : C S' w' φ' (.lst sz l (some k)) v' := e2
  cases e3 with
  | lst _ _ _ a len cap u hlen hcap hmax hsz hm hc h1' ht =>
    exact .lst sz l _ a len cap u hlen hcap hmax hsz hm (fun j c hj => Blw.C hlow (hc j c hj) (hbl c (List.mem_of_getElem? hj))) h1' (by simpa [TokOK] using ht)
  | lstnil _ _ ht => exact .lstnil _ _ (by simpa [TokOK] using ht)

/-- A slot that holds no slice becomes an empty list with a token. -/
theorem ghost_tok (t : Nat) (e : TypeId) (sz : Nat) (ht : s[t]? = some (.raw (.slice none 0 0))) : Ghost s h (s.set t (.lst sz [] (some h.length))) (h ++ [.tok e sz 0]) := by
  intro S φ w vs hs hr
  obtain ⟨k1, k2⟩ := hr.push (l := .tok 0 (.slice none 0 0)) (x := .tok e sz 0) (S' := S) (w' := w) rfl rfl rfl (Nat.le_refl _) (fun _ _ => rfl) (fun _ h => h) (fun _ h => .inl h) hr.bnd
    ⟨_, upd_same _ _ _, .inl ⟨rfl, rfl⟩⟩ (fun b hb => by simp [blockOf] at hb)
  refine ⟨S, _, ?_, k1, k2⟩
  have hs' := k2.CAll hs
  obtain ⟨v, hv, hc⟩ := hs.at ht
  cases hc
  have := hs'.set t (C.lstnil (S := S) (w := w) sz (some h.length) ⟨_, _, upd_same _ _ _, Nat.le_refl _, fun _ => rfl⟩)
  have e : vs.setIfInBounds t (.slice none 0 0) = vs := by
    apply Array.ext
    · simp
    · intro i h1 h2
      by_cases ei : t = i
      · subst ei
        have hv' : vs[t] = .slice none 0 0 := by
          rw [Array.getElem?_eq_getElem h2] at hv
          exact Option.some.inj hv
        simp [hv']
      · simp [h2, ei]
  rw [e] at this
  exact this

theorem R.recell {S : Addr → Prop} {φ : Nat → Loc} {w : World} {k : Nat} {t : TypeId} {cs cs' : List AV} (r : R S φ h w) (hk : h[k]? = some (.cells t cs)) (hc : ∀ vs, CAll S w φ cs vs → CAll S w φ cs' vs) :
    R S φ (h.set k (.cells t cs')) w ∧ Ext S φ h w S φ (h.set k (.cells t cs')) w := by
  have hkl : k < h.length := by obtain ⟨a, _⟩ := List.getElem?_eq_some_iff.1 hk; exact a
  have hin : ∀ (j : Nat) x, (h.set k (.cells t cs'))[j]? = some x → (j = k ∧ x = .cells t cs') ∨ (j ≠ k ∧ h[j]? = some x) := by
    intro j x hj
    rw [List.getElem?_set] at hj
    split at hj
    · rename_i e
      subst e
      cases hj
      exact .inl ⟨rfl, rfl⟩
    · exact .inr ⟨fun e => by subst e; contradiction, hj⟩
  have hback : ∀ (j : Nat) x b, (h.set k (.cells t cs'))[j]? = some x → blockOf (φ j) x = some b → ∃ y, h[j]? = some y ∧ blockOf (φ j) y = some b := by
    intro j x b hj hb
    rcases hin j x hj with ⟨rfl, rfl⟩ | ⟨_, g⟩
    · refine ⟨_, hk, ?_⟩
      cases hl : φ j <;> rw [hl] at hb <;> simp [blockOf] at hb ⊢ <;> exact hb
    · exact ⟨x, g, hb⟩
  refine ⟨⟨fun j x hj => ?_, fun j j' x x' b hj hj' hb hb' => ?_, r.bnd, fun j hj => r.fresh j (by simpa using hj)⟩, ⟨rfl, rfl, rfl, Nat.le_refl _, fun _ _ _ => rfl, fun _ h => h, fun _ _ => rfl, fun _ => Loc.le_refl _, fun _ h => .inl h, ?_⟩⟩
  · rcases hin j x hj with ⟨rfl, rfl⟩ | ⟨_, g⟩
    · obtain ⟨b, vs, h1, h2, h3, h4, h5⟩ := r.blk j _ hk
      exact ⟨b, vs, h1, h2, hc vs h3, h4, h5⟩
    · exact r.blk j x g
  · obtain ⟨y, g1, g2⟩ := hback j x b hj hb
    obtain ⟨y', g3, g4⟩ := hback j' x' b hj' hb'
    exact r.inj j j' y y' b g1 g3 g2 g4
  · rintro b ⟨j, x, hj, hb⟩
    obtain ⟨y, g1, g2⟩ := hback j x b hj hb
    exact .inl ⟨j, y, g1, g2⟩

theorem CAll.nil_tok {S : Addr → Prop} {φ : Nat → Loc} {w : World} {m i : Nat} {cs : List AV} {vs : Array Value} (sz : Nat) (hs : CAll S w φ cs vs) (ht : cs[i]? = some (.raw (.slice none 0 0))) (hm : TokOK φ (some m) 0 (.slice none 0 0)) : CAll S w φ (cs.set i (.lst sz [] (some m))) vs := by
  obtain ⟨v, hv, hc⟩ := hs.at ht
  cases hc
  have := hs.set i (C.lstnil (S := S) (w := w) sz (some m) hm)
  have e : vs.setIfInBounds i (.slice none 0 0) = vs := by
    apply Array.ext
    · simp
    · intro j h1 h2
      by_cases ei : i = j
      · subst ei
        have hv' : vs[i] = .slice none 0 0 := by
          rw [Array.getElem?_eq_getElem h2] at hv
          exact Option.some.inj hv
        simp [hv']
      · simp [h2, ei]
  rw [e] at this
  exact this

/-- A cell that holds no slice comes to hold an empty list with a token. -/
theorem ghost_cell (k i : Nat) (e : TypeId) (sz : Nat) {t : TypeId} {cs : List AV} (hk : h[k]? = some (.cells t cs)) (ht : cs[i]? = some (.raw (.slice none 0 0))) :
    Ghost s h s ((h ++ [Blk.tok e sz 0]).set k (Blk.cells t (cs.set i (.lst sz [] (some h.length))))) := by
  intro S φ w vs hs hr
  obtain ⟨k1, k2⟩ := hr.push (l := .tok 0 (.slice none 0 0)) (x := .tok e sz 0) (S' := S) (w' := w) rfl rfl rfl (Nat.le_refl _) (fun _ _ => rfl) (fun _ h => h) (fun _ h => .inl h) hr.bnd
    ⟨_, upd_same _ _ _, .inl ⟨rfl, rfl⟩⟩ (fun b hb => by simp [blockOf] at hb)
  obtain ⟨q1, q2⟩ := k1.recell (k := k) (t := t) (cs := cs) (cs' := cs.set i (.lst sz [] (some h.length)))
    (by rw [List.getElem?_append_left (by obtain ⟨a, _⟩ := List.getElem?_eq_some_iff.1 hk; exact a)]; exact hk)
    (fun vs hc => hc.nil_tok sz ht ⟨_, _, upd_same _ _ _, Nat.le_refl _, fun _ => rfl⟩)
  exact ⟨S, _, q2.CAll (k2.CAll hs), q1, k2.trans q2⟩

/-- A contract in the empty heap whose result is a fresh slice, in any heap. -/
theorem tcall {f : FuncId} {args : List AV} {e : TypeId} {sz : Nat} {l : List AV} {K : AV → List Blk → Prop} (hv : ∀ KK : AV → List Blk → Prop, KK (.lst sz l (some 0)) [.tok e sz l.length] → ACall P f args [] KK)
    (pa : ∀ x ∈ args, Pure x) (pl : ∀ c ∈ flat l, Pure c) (hK : K (.lst sz l (some h.length)) (h ++ [.tok e sz l.length])) : ACall P f args h K := by
  intro S φ w vs hr hargs
  obtain ⟨henter, hcalls⟩ := hv (fun r h' => r = .lst sz l (some 0) ∧ h' = [.tok e sz l.length]) ⟨rfl, rfl⟩ S (fun _ => .no) w vs (R.nil hr.bnd) (hargs.pure _ pa)
  refine ⟨henter, Calls.mono hcalls ?_⟩
  rintro e' w' ⟨v, r, h', S', φ', rfl, ⟨rfl, rfl⟩, hc, hr', he⟩
  obtain ⟨u, q1, q2⟩ := hr'.blk 0 _ rfl
  obtain ⟨k1, k2⟩ := hr.push (l := φ' 0) (x := .tok e sz l.length) he.os he.tape he.output he.size (fun b hb => he.keep b hb no_owns) he.sub (fun a ha => (he.new a ha).imp_right (fun x => x.resolve_right no_owns)) hr'.bnd
    ⟨u, by rw [upd_same, q1], q2⟩ (fun b hb => (he.own b ⟨0, _, rfl, hb⟩).resolve_left no_owns)
  refine ⟨v, _, _, S', _, rfl, hK, ?_, k1, k2⟩
  cases hc with
  | lst _ _ _ a len cap u hlen hcap hmax hsz hm hc h1' ht =>
    exact .lst sz l _ a len cap u hlen hcap hmax hsz hm (fun j c hj => (hc j c hj).pure _ (pl c (List.mem_of_getElem? hj))) h1' (by simpa [TokOK, upd_same] using ht)
  | lstnil _ _ ht => exact .lstnil _ _ (by simpa [TokOK, upd_same] using ht)

theorem finTk {rs : List ResultVar} {e : TypeId} {sz : Nat} {l l0 : List AV} {k n : Nat} {h' : List Blk} {KK : AV → List Blk → Prop} (hk0 : KK (.lst sz l (some 0)) [.tok e sz l.length]) (hl : resAV T s h' rs = some [.lst sz l0 (some k)]) (hll : l0 = l) (hk : h'[k]? = some (.tok e sz n)) (hn : n = l.length)
    (hb : ∀ c ∈ flat l, Go.Abs.Pure c) : FinT T rs [] e sz l KK s h' := by
  subst hll hn
  exact ⟨[], h', k, hl, rfl, .refl _ _, Nat.zero_le _, hk, fun c hc => Blw.pure (hb c hc), hk0⟩
attribute [irreducible] FinT
end
end Go.Abs

namespace Go.Proofs.YtipcmpkihhfhcaaGreatDoor
open Go.Abs
set_option maxRecDepth 20000
set_option linter.unusedSimpArgs false
set_option linter.unusedVariables false
set_option maxHeartbeats 1000000
attribute [local irreducible] vc vcOps vcStep vcGuard prK hrK gK gsK brK callK ElemK SeqK BlockK ScopeK OpsK CallK LoopK LoopGo finPost ACall PCall PCallE BCall vqOps vqStep vqGuard qrK heK pcK gqK gqsK QOpsK qcallK DrawK
theorem n108 : (Tryz.f108.name == "runtime.NumGoroutine") = false := by kernel_rfl
theorem depth22 : ∀ (e : Ex), (parts e).length ≤ 100000 → PCall Tryz.prog 108 [e.enc] (.i (depthE e : Nat)) := by
  intro e
  induction e using Ex.ind with
  | _ e ih =>
  intro hl
  refine pcall_of_vc tabOK Tryz.func108 n108 rfl (by repeat' first | exact pure_nil | refine pure_cons ?_ ?_ | exact .raw _ | exact pure_enc _ | exact pure_lst _ | exact pure_strs _ | exact pure_ints _ | exact DTy.pure _ | exact DTy.pures _ | exact DEnum.pure _ | exact DEnum.pures _ | exact DDecl.pure _ | exact DDecl.pures _ | exact DEq.pure _ | exact DEq.pures _ | exact DNode.pure _ | exact DNode.pures _ | exact DProg.pure _ | exact DProg.pures _ | exact DCond.pure _ | exact DCond.pures _ | exact DAtom.pure _ | exact DAtom.pures _ | exact DPlain.pure _ | exact DPlain.pures _ | exact DVar.pure _ | exact DVar.pures _ | exact DFlow.pure _ | exact DFlow.pures _ | exact DFlows.pure _ | exact DFlows.pures _ | exact DAsked.pure _ | exact DAsked.pures _ | exact DFault.pure _ | exact DFault.pures _ | exact DCell.pure _ | exact DCell.pures _ | exact DReply.pure _ | exact DReply.pures _ | exact DAsk.pure _ | exact DAsk.pures _ | exact DOp.pure _ | exact DOp.pures _ | exact pure_list (fun x => DDecl.pures x) _ | exact .fn _ _ _ pure_nil pure_nil | refine .agg _ ?_ | refine .tup _ ?_ | assumption) (by repeat' first | exact pure_nil | refine pure_cons ?_ ?_ | exact .raw _ | exact pure_enc _ | exact pure_lst _ | exact pure_strs _ | exact pure_ints _ | exact DTy.pure _ | exact DTy.pures _ | exact DEnum.pure _ | exact DEnum.pures _ | exact DDecl.pure _ | exact DDecl.pures _ | exact DEq.pure _ | exact DEq.pures _ | exact DNode.pure _ | exact DNode.pures _ | exact DProg.pure _ | exact DProg.pures _ | exact DCond.pure _ | exact DCond.pures _ | exact DAtom.pure _ | exact DAtom.pures _ | exact DPlain.pure _ | exact DPlain.pures _ | exact DVar.pure _ | exact DVar.pures _ | exact DFlow.pure _ | exact DFlow.pures _ | exact DFlows.pure _ | exact DFlows.pures _ | exact DAsked.pure _ | exact DAsked.pures _ | exact DFault.pure _ | exact DFault.pures _ | exact DCell.pure _ | exact DCell.pures _ | exact DReply.pure _ | exact DReply.pures _ | exact DAsk.pure _ | exact DAsk.pures _ | exact DOp.pure _ | exact DOp.pures _ | exact pure_list (fun x => DDecl.pures x) _ | exact .fn _ _ _ pure_nil pure_nil | refine .agg _ ?_ | refine .tup _ ?_ | assumption) (n := 20) rfl (rs := [.tmp 2]) rfl ?_
  simp only [go_sem, Nat.reduceAdd, Nat.reduceSub, Nat.reduceMul, Nat.reduceLT, Nat.reduceLeDiff, Nat.reduceEqDiff, Nat.reduceBEq, Nat.reduceBNe, Nat.reducePow, Int.reduceEq, Int.reduceNe, Int.reduceLT, Int.reduceLE, Int.reduceGT, Int.reduceGE, Int.reduceAdd, Int.reduceSub, Int.reduceNeg, Int.reduceMul, not_true_eq_false, not_false_eq_true, true_and, and_true, Int.reduceToNat]
  intro _
  refine loop_frX [3, 5, 9, 10, 11, 12, 13, 14, 15, 16, 17] (fun m C => ∃ i : Nat, i ≤ e.subs.length ∧ m = e.subs.length - i ∧ C = [(9, .raw (.int .i64 (i : Nat))), (3, .raw (.int .i64 (depthL (e.subs.take i) : Nat)))]) e.subs.length _ ⟨0, by omega, by omega, rfl⟩ (.cons rfl (.cons (by simp [depthL]) .nil)) ?_
  rintro m C j r ⟨i, hi, rfl, rfl⟩
  simp only [go_sem, Nat.reduceAdd, Nat.reduceSub, Nat.reduceMul, Nat.reduceLT, Nat.reduceLeDiff, Nat.reduceEqDiff, Nat.reduceBEq, Nat.reduceBNe, Nat.reducePow, Int.reduceEq, Int.reduceNe, Int.reduceLT, Int.reduceLE, Int.reduceGT, Int.reduceGE, Int.reduceAdd, Int.reduceSub, Int.reduceNeg, Int.reduceMul, not_true_eq_false, not_false_eq_true, true_and, and_true, Int.reduceToNat]
  refine brK_dec (fun hlt => ?_) (fun hge => ?_)
  · simp only [go_sem, Nat.reduceAdd, Nat.reduceSub, Nat.reduceMul, Nat.reduceLT, Nat.reduceLeDiff, Nat.reduceEqDiff, Nat.reduceBEq, Nat.reduceBNe, Nat.reducePow, Int.reduceEq, Int.reduceNe, Int.reduceLT, Int.reduceLE, Int.reduceGT, Int.reduceGE, Int.reduceAdd, Int.reduceSub, Int.reduceNeg, Int.reduceMul, not_true_eq_false, not_false_eq_true, true_and, and_true, Int.reduceToNat]
    refine elemMap (by omega) (by omega) (fun x hx => ?_)
    have hx' : e.subs[i]? = some x := by simpa using hx
    simp only [go_sem, Nat.reduceAdd, Nat.reduceSub, Nat.reduceMul, Nat.reduceLT, Nat.reduceLeDiff, Nat.reduceEqDiff, Nat.reduceBEq, Nat.reduceBNe, Nat.reducePow, Int.reduceEq, Int.reduceNe, Int.reduceLT, Int.reduceLE, Int.reduceGT, Int.reduceGE, Int.reduceAdd, Int.reduceSub, Int.reduceNeg, Int.reduceMul, not_true_eq_false, not_false_eq_true, true_and, and_true, Int.reduceToNat]
    refine PCall.call (ih x (List.mem_of_getElem? hx') (sub_small (List.mem_of_getElem? hx') hl)) ?_
    simp only [go_sem, Nat.reduceAdd, Nat.reduceSub, Nat.reduceMul, Nat.reduceLT, Nat.reduceLeDiff, Nat.reduceEqDiff, Nat.reduceBEq, Nat.reduceBNe, Nat.reducePow, Int.reduceEq, Int.reduceNe, Int.reduceLT, Int.reduceLE, Int.reduceGT, Int.reduceGE, Int.reduceAdd, Int.reduceSub, Int.reduceNeg, Int.reduceMul, not_true_eq_false, not_false_eq_true, true_and, and_true, Int.reduceToNat, max_step hx']
    exact loopFrX _ (by omega) _ ⟨i + 1, by omega, rfl, rfl⟩ (.next rfl (by omega) (.cons rfl .nil)) rfl (by first | rfl | (simp only [List.append_assoc, List.cons_append, List.nil_append]; rfl))
  · have hie : i = e.subs.length := by omega
    subst hie
    have hd := depth_le e
    rw [depthE_eq] at hd ⊢
    rw [List.take_length]
    simp only [go_sem, Nat.reduceAdd, Nat.reduceSub, Nat.reduceMul, Nat.reduceLT, Nat.reduceLeDiff, Nat.reduceEqDiff, Nat.reduceBEq, Nat.reduceBNe, Nat.reducePow, Int.reduceEq, Int.reduceNe, Int.reduceLT, Int.reduceLE, Int.reduceGT, Int.reduceGE, Int.reduceAdd, Int.reduceSub, Int.reduceNeg, Int.reduceMul, not_true_eq_false, not_false_eq_true, true_and, and_true, Int.reduceToNat]
    rw [wrap_in _ (by omega) (by omega)]
    exact ⟨_, rfl, false, .refl _⟩
theorem n60 : (Tryz.f60.name == "runtime.NumGoroutine") = false := by kernel_rfl
theorem right16 (e : Ex) (ho : okE e) : PCall Tryz.prog 60 [e.enc] (.b (rightE e)) := by
  have hb : (parts e).length ≤ 100000 := by have := ho.1; omega
  refine pcall_of_vc tabOK Tryz.func60 n60 rfl (by repeat' first | exact pure_nil | refine pure_cons ?_ ?_ | exact .raw _ | exact pure_enc _ | exact pure_lst _ | exact pure_strs _ | exact pure_ints _ | exact DTy.pure _ | exact DTy.pures _ | exact DEnum.pure _ | exact DEnum.pures _ | exact DDecl.pure _ | exact DDecl.pures _ | exact DEq.pure _ | exact DEq.pures _ | exact DNode.pure _ | exact DNode.pures _ | exact DProg.pure _ | exact DProg.pures _ | exact DCond.pure _ | exact DCond.pures _ | exact DAtom.pure _ | exact DAtom.pures _ | exact DPlain.pure _ | exact DPlain.pures _ | exact DVar.pure _ | exact DVar.pures _ | exact DFlow.pure _ | exact DFlow.pures _ | exact DFlows.pure _ | exact DFlows.pures _ | exact DAsked.pure _ | exact DAsked.pures _ | exact DFault.pure _ | exact DFault.pures _ | exact DCell.pure _ | exact DCell.pures _ | exact DReply.pure _ | exact DReply.pures _ | exact DAsk.pure _ | exact DAsk.pures _ | exact DOp.pure _ | exact DOp.pures _ | exact pure_list (fun x => DDecl.pures x) _ | exact .fn _ _ _ pure_nil pure_nil | refine .agg _ ?_ | refine .tup _ ?_ | assumption) (.raw _) (n := 18) rfl (rs := [.cell 2 4]) rfl ?_
  unfold rightE
  simp only [go_sem, Nat.reduceAdd, Nat.reduceSub, Nat.reduceMul, Nat.reduceLT, Nat.reduceLeDiff, Nat.reduceEqDiff, Nat.reduceBEq, Nat.reduceBNe, Nat.reducePow, Int.reduceEq, Int.reduceNe, Int.reduceLT, Int.reduceLE, Int.reduceGT, Int.reduceGE, Int.reduceAdd, Int.reduceSub, Int.reduceNeg, Int.reduceMul, not_true_eq_false, not_false_eq_true, true_and, and_true, Int.reduceToNat]
  refine PCall.call (size20 e hb) ?_
  by_cases h1 : (parts e).length ≤ 60 ∧ depthE e ≤ 12
  · rw [decide_eq_true h1.1, decide_eq_true h1.2]
    simp only [go_sem, Nat.reduceAdd, Nat.reduceSub, Nat.reduceMul, Nat.reduceLT, Nat.reduceLeDiff, Nat.reduceEqDiff, Nat.reduceBEq, Nat.reduceBNe, Nat.reducePow, Int.reduceEq, Int.reduceNe, Int.reduceLT, Int.reduceLE, Int.reduceGT, Int.reduceGE, Int.reduceAdd, Int.reduceSub, Int.reduceNeg, Int.reduceMul, not_true_eq_false, not_false_eq_true, true_and, and_true, Int.reduceToNat]
    refine gK_dec (fun _ => by exfalso; omega) (fun _ => ?_)
    simp only [go_sem, Nat.reduceAdd, Nat.reduceSub, Nat.reduceMul, Nat.reduceLT, Nat.reduceLeDiff, Nat.reduceEqDiff, Nat.reduceBEq, Nat.reduceBNe, Nat.reducePow, Int.reduceEq, Int.reduceNe, Int.reduceLT, Int.reduceLE, Int.reduceGT, Int.reduceGE, Int.reduceAdd, Int.reduceSub, Int.reduceNeg, Int.reduceMul, not_true_eq_false, not_false_eq_true, true_and, and_true, Int.reduceToNat]
    refine PCall.call (depth22 e hb) ?_
    simp only [go_sem, Nat.reduceAdd, Nat.reduceSub, Nat.reduceMul, Nat.reduceLT, Nat.reduceLeDiff, Nat.reduceEqDiff, Nat.reduceBEq, Nat.reduceBNe, Nat.reducePow, Int.reduceEq, Int.reduceNe, Int.reduceLT, Int.reduceLE, Int.reduceGT, Int.reduceGE, Int.reduceAdd, Int.reduceSub, Int.reduceNeg, Int.reduceMul, not_true_eq_false, not_false_eq_true, true_and, and_true, Int.reduceToNat]
    refine brK_dec (fun _ => by exfalso; omega) (fun _ => ?_)
    simp only [go_sem, Nat.reduceAdd, Nat.reduceSub, Nat.reduceMul, Nat.reduceLT, Nat.reduceLeDiff, Nat.reduceEqDiff, Nat.reduceBEq, Nat.reduceBNe, Nat.reducePow, Int.reduceEq, Int.reduceNe, Int.reduceLT, Int.reduceLE, Int.reduceGT, Int.reduceGE, Int.reduceAdd, Int.reduceSub, Int.reduceNeg, Int.reduceMul, not_true_eq_false, not_false_eq_true, true_and, and_true, Int.reduceToNat]
    refine each28 e ?_
    simp only [go_sem, Nat.reduceAdd, Nat.reduceSub, Nat.reduceMul, Nat.reduceLT, Nat.reduceLeDiff, Nat.reduceEqDiff, Nat.reduceBEq, Nat.reduceBNe, Nat.reducePow, Int.reduceEq, Int.reduceNe, Int.reduceLT, Int.reduceLE, Int.reduceGT, Int.reduceGE, Int.reduceAdd, Int.reduceSub, Int.reduceNeg, Int.reduceMul, not_true_eq_false, not_false_eq_true, true_and, and_true, Int.reduceToNat]
    intro l
    refine each_range e 3 2 0 (fun n => ∀ y ∈ (parts e).take n, partE y = true) (fun n => [exBx e, .cells 4 [.b false], exBx e]) (fun _ => []) (fun h => (parts e).all partE = false ∧ h = [exBx e, .cells 4 [.b false], exBx e]) (fun _ => rfl) (fun _ => rfl) (fun _ h => by rw [h.2]; rfl) rfl rfl rfl rfl (by simp) (fun n z r K hz hi hK1 hK2 => ?_) (fun r hi => ?_) (fun n h' r hs => ?_)
    · have hzm := List.mem_of_getElem? hz
      have hoz := ho.2 z hzm
      simp only [go_sem, Nat.reduceAdd, Nat.reduceSub, Nat.reduceMul, Nat.reduceLT, Nat.reduceLeDiff, Nat.reduceEqDiff, Nat.reduceBEq, Nat.reduceBNe, Nat.reducePow, Int.reduceEq, Int.reduceNe, Int.reduceLT, Int.reduceLE, Int.reduceGT, Int.reduceGE, Int.reduceAdd, Int.reduceSub, Int.reduceNeg, Int.reduceMul, not_true_eq_false, not_false_eq_true, true_and, and_true, Int.reduceToNat, setPs, roundA]
      try refine ⟨rfl, ?_⟩
      try simp only [go_sem, Nat.reduceAdd, Nat.reduceSub, Nat.reduceMul, Nat.reduceLT, Nat.reduceLeDiff, Nat.reduceEqDiff, Nat.reduceBEq, Nat.reduceBNe, Nat.reducePow, Int.reduceEq, Int.reduceNe, Int.reduceLT, Int.reduceLE, Int.reduceGT, Int.reduceGE, Int.reduceAdd, Int.reduceSub, Int.reduceNeg, Int.reduceMul, not_true_eq_false, not_false_eq_true, true_and, and_true, Int.reduceToNat]
      refine PCall.call (part46 z (by omega)) ?_
      rw [part_same]
      cases hp : partE z with
      | true =>
        have hk := hK1 (take_all hi hz hp) [exBx z]
        simp only [go_sem, Nat.reduceAdd, Nat.reduceSub, Nat.reduceMul, Nat.reduceLT, Nat.reduceLeDiff, Nat.reduceEqDiff, Nat.reduceBEq, Nat.reduceBNe, Nat.reducePow, Int.reduceEq, Int.reduceNe, Int.reduceLT, Int.reduceLE, Int.reduceGT, Int.reduceGE, Int.reduceAdd, Int.reduceSub, Int.reduceNeg, Int.reduceMul, not_true_eq_false, not_false_eq_true, true_and, and_true, Int.reduceToNat, roundB]
        first | exact hk | (simpa using hk) | (refine ⟨rfl, ?_⟩; simpa using hk)
      | false =>
        have hk := hK2 [exBx e, .cells 4 [.b false], exBx e] [exBx z] ⟨List.all_eq_false.2 ⟨z, hzm, by simp [hp]⟩, rfl⟩
        simp only [go_sem, Nat.reduceAdd, Nat.reduceSub, Nat.reduceMul, Nat.reduceLT, Nat.reduceLeDiff, Nat.reduceEqDiff, Nat.reduceBEq, Nat.reduceBNe, Nat.reducePow, Int.reduceEq, Int.reduceNe, Int.reduceLT, Int.reduceLE, Int.reduceGT, Int.reduceGE, Int.reduceAdd, Int.reduceSub, Int.reduceNeg, Int.reduceMul, not_true_eq_false, not_false_eq_true, true_and, and_true, Int.reduceToNat, roundB]
        first | exact hk | (simpa using hk) | (refine ⟨rfl, ?_⟩; simpa using hk)
    · rw [List.take_length] at hi
      rw [List.all_eq_true.2 hi]
      simp only [go_sem, Nat.reduceAdd, Nat.reduceSub, Nat.reduceMul, Nat.reduceLT, Nat.reduceLeDiff, Nat.reduceEqDiff, Nat.reduceBEq, Nat.reduceBNe, Nat.reducePow, Int.reduceEq, Int.reduceNe, Int.reduceLT, Int.reduceLE, Int.reduceGT, Int.reduceGE, Int.reduceAdd, Int.reduceSub, Int.reduceNeg, Int.reduceMul, not_true_eq_false, not_false_eq_true, true_and, and_true, Int.reduceToNat]
      exact ⟨_, rfl, false, .refl _⟩
    · obtain ⟨hs, rfl⟩ := hs
      simp only [go_sem, Nat.reduceAdd, Nat.reduceSub, Nat.reduceMul, Nat.reduceLT, Nat.reduceLeDiff, Nat.reduceEqDiff, Nat.reduceBEq, Nat.reduceBNe, Nat.reducePow, Int.reduceEq, Int.reduceNe, Int.reduceLT, Int.reduceLE, Int.reduceGT, Int.reduceGE, Int.reduceAdd, Int.reduceSub, Int.reduceNeg, Int.reduceMul, not_true_eq_false, not_false_eq_true, true_and, and_true, Int.reduceToNat]
      rw [hs]
      exact ⟨_, rfl, false, .refl _⟩
  · have hf : (decide ((parts e).length ≤ 60) && decide (depthE e ≤ 12)) = false := by
      by_cases q : (parts e).length ≤ 60
      · have : ¬ depthE e ≤ 12 := fun q' => h1 ⟨q, q'⟩
        simp [this]
      · simp [q]
    rw [hf, Bool.false_and]
    repeat' first
      | (exfalso; exact h1 ⟨by omega, by omega⟩)
      | simp only [go_sem, Nat.reduceAdd, Nat.reduceSub, Nat.reduceMul, Nat.reduceLT, Nat.reduceLeDiff, Nat.reduceEqDiff, Nat.reduceBEq, Nat.reduceBNe, Nat.reducePow, Int.reduceEq, Int.reduceNe, Int.reduceLT, Int.reduceLE, Int.reduceGT, Int.reduceGE, Int.reduceAdd, Int.reduceSub, Int.reduceNeg, Int.reduceMul, not_true_eq_false, not_false_eq_true, true_and, and_true, Int.reduceToNat]
      | refine brK_dec (fun _ => ?_) (fun _ => ?_)
      | refine gK_dec (fun _ => ?_) (fun _ => ?_)
      | refine PCall.call (depth22 e hb) ?_
      | exact ⟨_, rfl, false, .refl _⟩
end Go.Proofs.YtipcmpkihhfhcaaGreatDoor

namespace Go.Proofs.YtipcmpkihhfhcaaGreatDoor
open Go.Abs
set_option maxRecDepth 20000
set_option linter.unusedSimpArgs false
set_option linter.unusedVariables false
set_option maxHeartbeats 1000000
attribute [local irreducible] vc vcOps vcStep vcGuard prK hrK gK gsK brK callK ElemK SeqK BlockK ScopeK OpsK CallK LoopK LoopGo finPost ACall PCall PCallE BCall vqOps vqStep vqGuard qrK heK pcK gqK gqsK QOpsK qcallK DrawK
theorem n175 : (Tryz.f175.name == "runtime.NumGoroutine") = false := by kernel_rfl
/-- slices.IndexFunc: the first place at which the function answers true; it is left where it is: memory stays. -/
theorem indexEn {l : List DEnum} {p : DEnum → Bool} {g : Nat} {first capt : List AV} {h : List Blk} {K : AV → List Blk → Prop} (hp : ∀ x ∈ l, ∀ K : AV → List Blk → Prop, K (.b (p x)) h → ACall Tryz.prog g (first ++ DEnum.enc x :: capt) h K)
    (hK : K (.i (idxOf p l)) h) : ACall Tryz.prog 175 [.lst 2 (l.map (DEnum.enc)) none, .fn (.func g) first capt] h K := by
  refine acall_of_vc tabOK Tryz.func175 n175 rfl (n := 19) rfl (rs := [.tmp 4]) rfl ?_
  simp only [go_sem, Nat.reduceAdd, Nat.reduceSub, Nat.reduceMul, Nat.reduceLT, Nat.reduceLeDiff, Nat.reduceEqDiff, Nat.reduceBEq, Nat.reduceBNe, Nat.reducePow, Int.reduceEq, Int.reduceNe, Int.reduceLT, Int.reduceLE, Int.reduceGT, Int.reduceGE, Int.reduceAdd, Int.reduceSub, Int.reduceNeg, Int.reduceMul, not_true_eq_false, not_false_eq_true, true_and, and_true, Int.reduceToNat]
  intro hlen
  refine loop_frH [5, 8, 9, 10, 11, 12, 13, 14, 15, 16, 18] (fun n C => ∃ (i : Nat), i ≤ l.length ∧ n = l.length - i ∧ (∀ x ∈ l.take i, p x = false) ∧ C = [(8, .raw (.int .i64 (i : Nat)))]) l.length _ ⟨0, by omega, by omega, by simp, rfl⟩ (.cons rfl .nil) ?_
  rintro n C j ⟨i, hi, rfl, hp0, rfl⟩
  simp only [go_sem, Nat.reduceAdd, Nat.reduceSub, Nat.reduceMul, Nat.reduceLT, Nat.reduceLeDiff, Nat.reduceEqDiff, Nat.reduceBEq, Nat.reduceBNe, Nat.reducePow, Int.reduceEq, Int.reduceNe, Int.reduceLT, Int.reduceLE, Int.reduceGT, Int.reduceGE, Int.reduceAdd, Int.reduceSub, Int.reduceNeg, Int.reduceMul, not_true_eq_false, not_false_eq_true, true_and, and_true, Int.reduceToNat]
  refine brK_dec (fun hlt => ?_) (fun hge => ?_)
  · simp only [go_sem, Nat.reduceAdd, Nat.reduceSub, Nat.reduceMul, Nat.reduceLT, Nat.reduceLeDiff, Nat.reduceEqDiff, Nat.reduceBEq, Nat.reduceBNe, Nat.reducePow, Int.reduceEq, Int.reduceNe, Int.reduceLT, Int.reduceLE, Int.reduceGT, Int.reduceGE, Int.reduceAdd, Int.reduceSub, Int.reduceNeg, Int.reduceMul, not_true_eq_false, not_false_eq_true, true_and, and_true, Int.reduceToNat]
    refine elemMap (by omega) (by omega) (fun x hx => ?_)
    simp only [go_sem, Nat.reduceAdd, Nat.reduceSub, Nat.reduceMul, Nat.reduceLT, Nat.reduceLeDiff, Nat.reduceEqDiff, Nat.reduceBEq, Nat.reduceBNe, Nat.reducePow, Int.reduceEq, Int.reduceNe, Int.reduceLT, Int.reduceLE, Int.reduceGT, Int.reduceGE, Int.reduceAdd, Int.reduceSub, Int.reduceNeg, Int.reduceMul, not_true_eq_false, not_false_eq_true, true_and, and_true, Int.reduceToNat]
    refine hp x (List.mem_of_getElem? hx) _ ?_
    simp only [go_sem, Nat.reduceAdd, Nat.reduceSub, Nat.reduceMul, Nat.reduceLT, Nat.reduceLeDiff, Nat.reduceEqDiff, Nat.reduceBEq, Nat.reduceBNe, Nat.reducePow, Int.reduceEq, Int.reduceNe, Int.reduceLT, Int.reduceLE, Int.reduceGT, Int.reduceGE, Int.reduceAdd, Int.reduceSub, Int.reduceNeg, Int.reduceMul, not_true_eq_false, not_false_eq_true, true_and, and_true, Int.reduceToNat]
    cases hb : p x with
    | true =>
      simp only [go_sem, Nat.reduceAdd, Nat.reduceSub, Nat.reduceMul, Nat.reduceLT, Nat.reduceLeDiff, Nat.reduceEqDiff, Nat.reduceBEq, Nat.reduceBNe, Nat.reducePow, Int.reduceEq, Int.reduceNe, Int.reduceLT, Int.reduceLE, Int.reduceGT, Int.reduceGE, Int.reduceAdd, Int.reduceSub, Int.reduceNeg, Int.reduceMul, not_true_eq_false, not_false_eq_true, true_and, and_true, Int.reduceToNat]
      rw [idxOf_at hp0 hx hb] at hK
      exact finH1 rfl (.raw _) hK
    | false =>
      simp only [go_sem, Nat.reduceAdd, Nat.reduceSub, Nat.reduceMul, Nat.reduceLT, Nat.reduceLeDiff, Nat.reduceEqDiff, Nat.reduceBEq, Nat.reduceBNe, Nat.reducePow, Int.reduceEq, Int.reduceNe, Int.reduceLT, Int.reduceLE, Int.reduceGT, Int.reduceGE, Int.reduceAdd, Int.reduceSub, Int.reduceNeg, Int.reduceMul, not_true_eq_false, not_false_eq_true, true_and, and_true, Int.reduceToNat]
      exact loopFrH (l.length - (i + 1)) (by omega) ⟨i + 1, by omega, rfl, take_all hp0 (by rw [Int.toNat_natCast] at hx; exact hx) hb, rfl⟩ (.next rfl (by omega) .nil) rfl
  · simp only [go_sem, Nat.reduceAdd, Nat.reduceSub, Nat.reduceMul, Nat.reduceLT, Nat.reduceLeDiff, Nat.reduceEqDiff, Nat.reduceBEq, Nat.reduceBNe, Nat.reducePow, Int.reduceEq, Int.reduceNe, Int.reduceLT, Int.reduceLE, Int.reduceGT, Int.reduceGE, Int.reduceAdd, Int.reduceSub, Int.reduceNeg, Int.reduceMul, not_true_eq_false, not_false_eq_true, true_and, and_true, Int.reduceToNat]
    rw [idxOf_none (take_full hp0 (by omega))] at hK
    exact finH1 rfl (.raw _) hK

theorem n123 : (Tryz.f123.name == "runtime.NumGoroutine") = false := by kernel_rfl
theorem containsEn {l : List DEnum} {p : DEnum → Bool} {g : Nat} {first capt : List AV} {h : List Blk} {K : AV → List Blk → Prop} (hp : ∀ x ∈ l, ∀ K : AV → List Blk → Prop, K (.b (p x)) h → ACall Tryz.prog g (first ++ DEnum.enc x :: capt) h K)
    (hK : K (.b (l.any p)) h) : ACall Tryz.prog 123 [.lst 2 (l.map (DEnum.enc)) none, .fn (.func g) first capt] h K := by
  refine acall_of_vc tabOK Tryz.func123 n123 rfl (n := 9) rfl (rs := [.tmp 4]) rfl ?_
  simp only [go_sem, Nat.reduceAdd, Nat.reduceSub, Nat.reduceMul, Nat.reduceLT, Nat.reduceLeDiff, Nat.reduceEqDiff, Nat.reduceBEq, Nat.reduceBNe, Nat.reducePow, Int.reduceEq, Int.reduceNe, Int.reduceLT, Int.reduceLE, Int.reduceGT, Int.reduceGE, Int.reduceAdd, Int.reduceSub, Int.reduceNeg, Int.reduceMul, not_true_eq_false, not_false_eq_true, true_and, and_true, Int.reduceToNat]
  refine indexEn hp ?_
  simp only [go_sem, Nat.reduceAdd, Nat.reduceSub, Nat.reduceMul, Nat.reduceLT, Nat.reduceLeDiff, Nat.reduceEqDiff, Nat.reduceBEq, Nat.reduceBNe, Nat.reducePow, Int.reduceEq, Int.reduceNe, Int.reduceLT, Int.reduceLE, Int.reduceGT, Int.reduceGE, Int.reduceAdd, Int.reduceSub, Int.reduceNeg, Int.reduceMul, not_true_eq_false, not_false_eq_true, true_and, and_true, Int.reduceToNat]
  rw [idx_any]
  exact finH1 rfl (.raw _) hK

theorem n82 : (Tryz.f82.name == "runtime.NumGoroutine") = false := by kernel_rfl
theorem containsDe {l : List DDecl} {p : DDecl → Bool} {g : Nat} {first capt : List AV} {h : List Blk} {K : AV → List Blk → Prop} (hp : ∀ x ∈ l, ∀ K : AV → List Blk → Prop, K (.b (p x)) h → ACall Tryz.prog g (first ++ DDecl.enc x :: capt) h K)
    (hK : K (.b (l.any p)) h) : ACall Tryz.prog 82 [.lst 6 (l.map (DDecl.enc)) none, .fn (.func g) first capt] h K := by
  refine acall_of_vc tabOK Tryz.func82 n82 rfl (n := 9) rfl (rs := [.tmp 4]) rfl ?_
  simp only [go_sem, Nat.reduceAdd, Nat.reduceSub, Nat.reduceMul, Nat.reduceLT, Nat.reduceLeDiff, Nat.reduceEqDiff, Nat.reduceBEq, Nat.reduceBNe, Nat.reducePow, Int.reduceEq, Int.reduceNe, Int.reduceLT, Int.reduceLE, Int.reduceGT, Int.reduceGE, Int.reduceAdd, Int.reduceSub, Int.reduceNeg, Int.reduceMul, not_true_eq_false, not_false_eq_true, true_and, and_true, Int.reduceToNat]
  refine indexDecl hp ?_
  simp only [go_sem, Nat.reduceAdd, Nat.reduceSub, Nat.reduceMul, Nat.reduceLT, Nat.reduceLeDiff, Nat.reduceEqDiff, Nat.reduceBEq, Nat.reduceBNe, Nat.reducePow, Int.reduceEq, Int.reduceNe, Int.reduceLT, Int.reduceLE, Int.reduceGT, Int.reduceGE, Int.reduceAdd, Int.reduceSub, Int.reduceNeg, Int.reduceMul, not_true_eq_false, not_false_eq_true, true_and, and_true, Int.reduceToNat]
  rw [idx_any]
  exact finH1 rfl (.raw _) hK

theorem n78 : (Tryz.f78.name == "runtime.NumGoroutine") = false := by kernel_rfl
theorem containsNo {l : List DNode} {p : DNode → Bool} {g : Nat} {first capt : List AV} {h : List Blk} {K : AV → List Blk → Prop} (hp : ∀ x ∈ l, ∀ K : AV → List Blk → Prop, K (.b (p x)) h → ACall Tryz.prog g (first ++ DNode.enc x :: capt) h K)
    (hK : K (.b (l.any p)) h) : ACall Tryz.prog 78 [.lst 5 (l.map (DNode.enc)) none, .fn (.func g) first capt] h K := by
  refine acall_of_vc tabOK Tryz.func78 n78 rfl (n := 9) rfl (rs := [.tmp 4]) rfl ?_
  simp only [go_sem, Nat.reduceAdd, Nat.reduceSub, Nat.reduceMul, Nat.reduceLT, Nat.reduceLeDiff, Nat.reduceEqDiff, Nat.reduceBEq, Nat.reduceBNe, Nat.reducePow, Int.reduceEq, Int.reduceNe, Int.reduceLT, Int.reduceLE, Int.reduceGT, Int.reduceGE, Int.reduceAdd, Int.reduceSub, Int.reduceNeg, Int.reduceMul, not_true_eq_false, not_false_eq_true, true_and, and_true, Int.reduceToNat]
  refine indexNode hp ?_
  simp only [go_sem, Nat.reduceAdd, Nat.reduceSub, Nat.reduceMul, Nat.reduceLT, Nat.reduceLeDiff, Nat.reduceEqDiff, Nat.reduceBEq, Nat.reduceBNe, Nat.reducePow, Int.reduceEq, Int.reduceNe, Int.reduceLT, Int.reduceLE, Int.reduceGT, Int.reduceGE, Int.reduceAdd, Int.reduceSub, Int.reduceNeg, Int.reduceMul, not_true_eq_false, not_false_eq_true, true_and, and_true, Int.reduceToNat]
  rw [idx_any]
  exact finH1 rfl (.raw _) hK

theorem finHb {T : TypeId → TI} {s : List AV} {h : List Blk} {rs : List ResultVar} {K : AV → List Blk → Prop} {b c : Bool} (junk : List Blk) (hl : resAV T s (h ++ junk) rs = some [.b b]) (hK : K (.b c) h) (he : b = c) : FinH T rs h K s (h ++ junk) := finH0 junk hl (.raw _) (he ▸ hK)
theorem n124 : (Tryz.f124.name == "runtime.NumGoroutine") = false := by kernel_rfl
theorem n74 : (Tryz.f74.name == "runtime.NumGoroutine") = false := by kernel_rfl
theorem great74 (l : List DEnum) : PCall Tryz.prog 74 [.lst 2 (l.map DEnum.enc) none] (.b (greatE l)) := by
  refine pcall_of_vc tabOK Tryz.func74 n74 rfl (by repeat' first | exact pure_nil | refine pure_cons ?_ ?_ | exact .raw _ | exact pure_enc _ | exact pure_lst _ | exact pure_strs _ | exact pure_ints _ | exact DTy.pure _ | exact DTy.pures _ | exact DEnum.pure _ | exact DEnum.pures _ | exact DDecl.pure _ | exact DDecl.pures _ | exact DEq.pure _ | exact DEq.pures _ | exact DNode.pure _ | exact DNode.pures _ | exact DProg.pure _ | exact DProg.pures _ | exact DCond.pure _ | exact DCond.pures _ | exact DAtom.pure _ | exact DAtom.pures _ | exact DPlain.pure _ | exact DPlain.pures _ | exact DVar.pure _ | exact DVar.pures _ | exact DFlow.pure _ | exact DFlow.pures _ | exact DFlows.pure _ | exact DFlows.pures _ | exact DAsked.pure _ | exact DAsked.pures _ | exact DFault.pure _ | exact DFault.pures _ | exact DCell.pure _ | exact DCell.pures _ | exact DReply.pure _ | exact DReply.pures _ | exact DAsk.pure _ | exact DAsk.pures _ | exact DOp.pure _ | exact DOp.pures _ | exact pure_list (fun x => DDecl.pures x) _ | exact .fn _ _ _ pure_nil pure_nil | refine .agg _ ?_ | refine .tup _ ?_ | assumption) (by repeat' first | exact pure_nil | refine pure_cons ?_ ?_ | exact .raw _ | exact pure_enc _ | exact pure_lst _ | exact pure_strs _ | exact pure_ints _ | exact DTy.pure _ | exact DTy.pures _ | exact DEnum.pure _ | exact DEnum.pures _ | exact DDecl.pure _ | exact DDecl.pures _ | exact DEq.pure _ | exact DEq.pures _ | exact DNode.pure _ | exact DNode.pures _ | exact DProg.pure _ | exact DProg.pures _ | exact DCond.pure _ | exact DCond.pures _ | exact DAtom.pure _ | exact DAtom.pures _ | exact DPlain.pure _ | exact DPlain.pures _ | exact DVar.pure _ | exact DVar.pures _ | exact DFlow.pure _ | exact DFlow.pures _ | exact DFlows.pure _ | exact DFlows.pures _ | exact DAsked.pure _ | exact DAsked.pures _ | exact DFault.pure _ | exact DFault.pures _ | exact DCell.pure _ | exact DCell.pures _ | exact DReply.pure _ | exact DReply.pures _ | exact DAsk.pure _ | exact DAsk.pures _ | exact DOp.pure _ | exact DOp.pures _ | exact pure_list (fun x => DDecl.pures x) _ | exact .fn _ _ _ pure_nil pure_nil | refine .agg _ ?_ | refine .tup _ ?_ | assumption) (n := 10) rfl (rs := [.tmp 2]) rfl ?_
  repeat' first
    | (exfalso; omega)
    | simp only [go_sem, Nat.reduceAdd, Nat.reduceSub, Nat.reduceMul, Nat.reduceLT, Nat.reduceLeDiff, Nat.reduceEqDiff, Nat.reduceBEq, Nat.reduceBNe, Nat.reducePow, Int.reduceEq, Int.reduceNe, Int.reduceLT, Int.reduceLE, Int.reduceGT, Int.reduceGE, Int.reduceAdd, Int.reduceSub, Int.reduceNeg, Int.reduceMul, not_true_eq_false, not_false_eq_true, true_and, and_true, Int.reduceToNat]
    | (intro _)
    | refine gK_dec (fun _ => ?_) (fun _ => ?_)
    | (refine containsEn (p := fun e => decide (e.Ctors.length > 6)) (fun x hx K hK => ?_) ?_
       · refine acall_of_vc tabOK Tryz.func124 n124 rfl (n := 7) rfl (rs := [.tmp 2]) rfl ?_
         simp only [go_sem, Nat.reduceAdd, Nat.reduceSub, Nat.reduceMul, Nat.reduceLT, Nat.reduceLeDiff, Nat.reduceEqDiff, Nat.reduceBEq, Nat.reduceBNe, Nat.reducePow, Int.reduceEq, Int.reduceNe, Int.reduceLT, Int.reduceLE, Int.reduceGT, Int.reduceGE, Int.reduceAdd, Int.reduceSub, Int.reduceNeg, Int.reduceMul, not_true_eq_false, not_false_eq_true, true_and, and_true, Int.reduceToNat]
         (try intro _)
         refine finHb _ rfl hK ?_
         exact decide_eq_decide.2 (by omega))
    | (refine finBq rfl ?_; unfold greatE; (try rw [decide_eq_true (p := l.length > 4) (by omega)]); (try rw [decide_eq_false (p := l.length > 4) (by omega)]); simp; done)
theorem n132 : (Tryz.f132.name == "runtime.NumGoroutine") = false := by kernel_rfl
theorem rightTyP (l : List DEnum) (t : DTy) : PCall Tryz.prog 132 [.lst 2 (l.map DEnum.enc) none, t.enc] (.b (rightTyF l.length t)) := by
  refine pcall_of_vc tabOK Tryz.func132 n132 rfl (by repeat' first | exact pure_nil | refine pure_cons ?_ ?_ | exact .raw _ | exact pure_enc _ | exact pure_lst _ | exact pure_strs _ | exact pure_ints _ | exact DTy.pure _ | exact DTy.pures _ | exact DEnum.pure _ | exact DEnum.pures _ | exact DDecl.pure _ | exact DDecl.pures _ | exact DEq.pure _ | exact DEq.pures _ | exact DNode.pure _ | exact DNode.pures _ | exact DProg.pure _ | exact DProg.pures _ | exact DCond.pure _ | exact DCond.pures _ | exact DAtom.pure _ | exact DAtom.pures _ | exact DPlain.pure _ | exact DPlain.pures _ | exact DVar.pure _ | exact DVar.pures _ | exact DFlow.pure _ | exact DFlow.pures _ | exact DFlows.pure _ | exact DFlows.pures _ | exact DAsked.pure _ | exact DAsked.pures _ | exact DFault.pure _ | exact DFault.pures _ | exact DCell.pure _ | exact DCell.pures _ | exact DReply.pure _ | exact DReply.pures _ | exact DAsk.pure _ | exact DAsk.pures _ | exact DOp.pure _ | exact DOp.pures _ | exact pure_list (fun x => DDecl.pures x) _ | exact .fn _ _ _ pure_nil pure_nil | refine .agg _ ?_ | refine .tup _ ?_ | assumption) (by repeat' first | exact pure_nil | refine pure_cons ?_ ?_ | exact .raw _ | exact pure_enc _ | exact pure_lst _ | exact pure_strs _ | exact pure_ints _ | exact DTy.pure _ | exact DTy.pures _ | exact DEnum.pure _ | exact DEnum.pures _ | exact DDecl.pure _ | exact DDecl.pures _ | exact DEq.pure _ | exact DEq.pures _ | exact DNode.pure _ | exact DNode.pures _ | exact DProg.pure _ | exact DProg.pures _ | exact DCond.pure _ | exact DCond.pures _ | exact DAtom.pure _ | exact DAtom.pures _ | exact DPlain.pure _ | exact DPlain.pures _ | exact DVar.pure _ | exact DVar.pures _ | exact DFlow.pure _ | exact DFlow.pures _ | exact DFlows.pure _ | exact DFlows.pures _ | exact DAsked.pure _ | exact DAsked.pures _ | exact DFault.pure _ | exact DFault.pures _ | exact DCell.pure _ | exact DCell.pures _ | exact DReply.pure _ | exact DReply.pures _ | exact DAsk.pure _ | exact DAsk.pures _ | exact DOp.pure _ | exact DOp.pures _ | exact pure_list (fun x => DDecl.pures x) _ | exact .fn _ _ _ pure_nil pure_nil | refine .agg _ ?_ | refine .tup _ ?_ | assumption) (n := 33) rfl (rs := [.tmp 4]) rfl ?_
  repeat' first
    | exact finB rfl
    | exact finI rfl
    | exact finP rfl
    | exact absurd rfl (by assumption)
    | simp only [go_sem, Nat.reduceAdd, Nat.reduceSub, Nat.reduceMul, Nat.reduceLT, Nat.reduceLeDiff, Nat.reduceEqDiff, Nat.reduceBEq, Nat.reduceBNe, Nat.reducePow, Int.reduceEq, Int.reduceNe, Int.reduceLT, Int.reduceLE, Int.reduceGT, Int.reduceGE, Int.reduceAdd, Int.reduceSub, Int.reduceNeg, Int.reduceMul, not_true_eq_false, not_false_eq_true, true_and, and_true, Int.reduceToNat]
    | (intro _)
    | refine brK_dec (fun _ => ?_) (fun _ => ?_)
    | refine brK_any ?_ ?_
    | refine gK_dec (fun _ => ?_) (fun _ => ?_)
    | refine gK_any ?_ ?_
    | refine gqK_dec (fun _ => ?_) (fun _ => ?_)
    | refine ⟨by omega, ?_⟩
    | refine elemHave (by omega) (by assumption) ?_
    | refine elemMap (by omega) (by omega) (fun x hx => ?_)
    | refine drawK mo (by kernel_rfl) ?_
    | (exfalso; omega)
    | (refine finBq rfl ?_; unfold rightTyF; exact (decide_eq_true (by omega)).symm)
    | (refine finBq rfl ?_; unfold rightTyF; exact (decide_eq_false (by omega)).symm)
    | (refine finBq rfl ?_; unfold rightTyF; exact decide_eq_decide.2 (by omega))
theorem n133 : (Tryz.f133.name == "runtime.NumGoroutine") = false := by kernel_rfl
theorem armP (s : ByteArray) : PCall Tryz.prog 133 [.s s] (.b (armE s)) := by
  refine pcall_of_vc tabOK Tryz.func133 n133 rfl (by repeat' first | exact pure_nil | refine pure_cons ?_ ?_ | exact .raw _ | exact pure_enc _ | exact pure_lst _ | exact pure_strs _ | exact pure_ints _ | exact DTy.pure _ | exact DTy.pures _ | exact DEnum.pure _ | exact DEnum.pures _ | exact DDecl.pure _ | exact DDecl.pures _ | exact DEq.pure _ | exact DEq.pures _ | exact DNode.pure _ | exact DNode.pures _ | exact DProg.pure _ | exact DProg.pures _ | exact DCond.pure _ | exact DCond.pures _ | exact DAtom.pure _ | exact DAtom.pures _ | exact DPlain.pure _ | exact DPlain.pures _ | exact DVar.pure _ | exact DVar.pures _ | exact DFlow.pure _ | exact DFlow.pures _ | exact DFlows.pure _ | exact DFlows.pures _ | exact DAsked.pure _ | exact DAsked.pures _ | exact DFault.pure _ | exact DFault.pures _ | exact DCell.pure _ | exact DCell.pures _ | exact DReply.pure _ | exact DReply.pures _ | exact DAsk.pure _ | exact DAsk.pures _ | exact DOp.pure _ | exact DOp.pures _ | exact pure_list (fun x => DDecl.pures x) _ | exact .fn _ _ _ pure_nil pure_nil | refine .agg _ ?_ | refine .tup _ ?_ | assumption) (by repeat' first | exact pure_nil | refine pure_cons ?_ ?_ | exact .raw _ | exact pure_enc _ | exact pure_lst _ | exact pure_strs _ | exact pure_ints _ | exact DTy.pure _ | exact DTy.pures _ | exact DEnum.pure _ | exact DEnum.pures _ | exact DDecl.pure _ | exact DDecl.pures _ | exact DEq.pure _ | exact DEq.pures _ | exact DNode.pure _ | exact DNode.pures _ | exact DProg.pure _ | exact DProg.pures _ | exact DCond.pure _ | exact DCond.pures _ | exact DAtom.pure _ | exact DAtom.pures _ | exact DPlain.pure _ | exact DPlain.pures _ | exact DVar.pure _ | exact DVar.pures _ | exact DFlow.pure _ | exact DFlow.pures _ | exact DFlows.pure _ | exact DFlows.pures _ | exact DAsked.pure _ | exact DAsked.pures _ | exact DFault.pure _ | exact DFault.pures _ | exact DCell.pure _ | exact DCell.pures _ | exact DReply.pure _ | exact DReply.pures _ | exact DAsk.pure _ | exact DAsk.pures _ | exact DOp.pure _ | exact DOp.pures _ | exact pure_list (fun x => DDecl.pures x) _ | exact .fn _ _ _ pure_nil pure_nil | refine .agg _ ?_ | refine .tup _ ?_ | assumption) (n := 13) rfl (rs := [.tmp 2]) rfl ?_
  unfold armE
  repeat' first
    | exact finB rfl
    | exact finI rfl
    | exact finP rfl
    | exact absurd rfl (by assumption)
    | simp only [go_sem, Nat.reduceAdd, Nat.reduceSub, Nat.reduceMul, Nat.reduceLT, Nat.reduceLeDiff, Nat.reduceEqDiff, Nat.reduceBEq, Nat.reduceBNe, Nat.reducePow, Int.reduceEq, Int.reduceNe, Int.reduceLT, Int.reduceLE, Int.reduceGT, Int.reduceGE, Int.reduceAdd, Int.reduceSub, Int.reduceNeg, Int.reduceMul, not_true_eq_false, not_false_eq_true, true_and, and_true, Int.reduceToNat]
    | (intro _)
    | refine brK_dec (fun _ => ?_) (fun _ => ?_)
    | refine brK_split (fun hb_ => ?_) (fun hb_ => ?_)
    | refine gK_dec (fun _ => ?_) (fun _ => ?_)
    | refine gK_split (fun hb_ => ?_) (fun hb_ => ?_)
    | refine gqK_dec (fun _ => ?_) (fun _ => ?_)
    | refine ⟨by omega, ?_⟩
    | refine elemHave (by omega) (by assumption) ?_
    | refine elemMap (by omega) (by omega) (fun x hx => ?_)
    | refine drawK mo (by kernel_rfl) ?_
    | (refine PCall.call (high8 s) ?_; generalize highF s = q; cases q)
    | (exact finBq rfl (by simp [*]))
theorem n79 : (Tryz.f79.name == "runtime.NumGoroutine") = false := by kernel_rfl
theorem n131 : (Tryz.f131.name == "runtime.NumGoroutine") = false := by kernel_rfl
theorem declared131 (L : List DEnum) (d : DDecl) {k : Nat} {h : List Blk} {K : AV → List Blk → Prop} (hk : h[k]? = some (.cells 22 [.lst 2 (L.map DEnum.enc) none])) (hK : K (.b (declaredF L.length d)) h) : ACall Tryz.prog 131 [d.enc, .ptr k 0] h K := by
  have hkl := (List.getElem?_eq_some_iff.1 hk).1
  have hk1 : ∀ r, (h ++ r)[k]? = some (.cells 22 [.lst 2 (L.map DEnum.enc) none]) := fun r => by rw [List.getElem?_append_left hkl]; exact hk
  refine acall_of_vc tabOK Tryz.func131 n131 rfl (n := 35) rfl (rs := [.tmp 3]) rfl ?_
  repeat' first
    | simp only [go_sem, Nat.reduceAdd, Nat.reduceSub, Nat.reduceMul, Nat.reduceLT, Nat.reduceLeDiff, Nat.reduceEqDiff, Nat.reduceBEq, Nat.reduceBNe, Nat.reducePow, Int.reduceEq, Int.reduceNe, Int.reduceLT, Int.reduceLE, Int.reduceGT, Int.reduceGE, Int.reduceAdd, Int.reduceSub, Int.reduceNeg, Int.reduceMul, not_true_eq_false, not_false_eq_true, true_and, and_true, Int.reduceToNat, hk1]
    | refine brK_dec (fun _ => ?_) (fun _ => ?_)
    | refine gK_dec (fun _ => ?_) (fun _ => ?_)
    | refine brK_split (fun hb_ => ?_) (fun hb_ => ?_)
    | refine gK_split (fun hb_ => ?_) (fun hb_ => ?_)
    | ((fail_if_success (clear h1)); refine PCall.call (low6 d.Name) ?_; generalize h1 : lowF d.Name = q; cases q)
    | (refine PCall.call (low6 d.On) ?_; generalize h2 : lowF d.On = q; cases q)
    | (refine PCall.call (rightTyP L d.Ty) ?_; generalize h3 : rightTyF L.length d.Ty = q; cases q)
    | (refine PCall.call (armP d.Ctor) ?_; generalize h4 : armE d.Ctor = q; cases q)
    | (refine finHb _ rfl hK ?_; first | (simp only [declaredF, bareF, h1, h2, h3, h4]; simp [*]; done) | (simp only [declaredF, bareF, h1, h2, h3]; simp [*]; done) | (simp only [declaredF, bareF, h1, h3]; simp [*]; done) | (simp only [declaredF, bareF, h1]; simp [*]; done))
theorem n135 : (Tryz.f135.name == "runtime.NumGoroutine") = false := by kernel_rfl
theorem n83 : (Tryz.f83.name == "runtime.NumGoroutine") = false := by kernel_rfl
theorem equationP (q : DEq) (hq : okEq q) : PCall Tryz.prog 83 [q.enc] (.b (eqF q)) := by
  refine pcall_of_vc tabOK Tryz.func83 n83 rfl (by repeat' first | exact pure_nil | refine pure_cons ?_ ?_ | exact .raw _ | exact pure_enc _ | exact pure_lst _ | exact pure_strs _ | exact pure_ints _ | exact DTy.pure _ | exact DTy.pures _ | exact DEnum.pure _ | exact DEnum.pures _ | exact DDecl.pure _ | exact DDecl.pures _ | exact DEq.pure _ | exact DEq.pures _ | exact DNode.pure _ | exact DNode.pures _ | exact DProg.pure _ | exact DProg.pures _ | exact DCond.pure _ | exact DCond.pures _ | exact DAtom.pure _ | exact DAtom.pures _ | exact DPlain.pure _ | exact DPlain.pures _ | exact DVar.pure _ | exact DVar.pures _ | exact DFlow.pure _ | exact DFlow.pures _ | exact DFlows.pure _ | exact DFlows.pures _ | exact DAsked.pure _ | exact DAsked.pures _ | exact DFault.pure _ | exact DFault.pures _ | exact DCell.pure _ | exact DCell.pures _ | exact DReply.pure _ | exact DReply.pures _ | exact DAsk.pure _ | exact DAsk.pures _ | exact DOp.pure _ | exact DOp.pures _ | exact pure_list (fun x => DDecl.pures x) _ | exact .fn _ _ _ pure_nil pure_nil | refine .agg _ ?_ | refine .tup _ ?_ | assumption) (by repeat' first | exact pure_nil | refine pure_cons ?_ ?_ | exact .raw _ | exact pure_enc _ | exact pure_lst _ | exact pure_strs _ | exact pure_ints _ | exact DTy.pure _ | exact DTy.pures _ | exact DEnum.pure _ | exact DEnum.pures _ | exact DDecl.pure _ | exact DDecl.pures _ | exact DEq.pure _ | exact DEq.pures _ | exact DNode.pure _ | exact DNode.pures _ | exact DProg.pure _ | exact DProg.pures _ | exact DCond.pure _ | exact DCond.pures _ | exact DAtom.pure _ | exact DAtom.pures _ | exact DPlain.pure _ | exact DPlain.pures _ | exact DVar.pure _ | exact DVar.pures _ | exact DFlow.pure _ | exact DFlow.pures _ | exact DFlows.pure _ | exact DFlows.pures _ | exact DAsked.pure _ | exact DAsked.pures _ | exact DFault.pure _ | exact DFault.pures _ | exact DCell.pure _ | exact DCell.pures _ | exact DReply.pure _ | exact DReply.pures _ | exact DAsk.pure _ | exact DAsk.pures _ | exact DOp.pure _ | exact DOp.pures _ | exact pure_list (fun x => DDecl.pures x) _ | exact .fn _ _ _ pure_nil pure_nil | refine .agg _ ?_ | refine .tup _ ?_ | assumption) (n := 29) rfl (rs := [.tmp 2]) rfl ?_
  unfold eqF
  have hall : q.Names.all lowF = !(q.Names.any fun s => !lowF s) := List.all_eq_not_any_not
  rw [hall]
  repeat' first
    | (exfalso; omega)
    | simp only [go_sem, Nat.reduceAdd, Nat.reduceSub, Nat.reduceMul, Nat.reduceLT, Nat.reduceLeDiff, Nat.reduceEqDiff, Nat.reduceBEq, Nat.reduceBNe, Nat.reducePow, Int.reduceEq, Int.reduceNe, Int.reduceLT, Int.reduceLE, Int.reduceGT, Int.reduceGE, Int.reduceAdd, Int.reduceSub, Int.reduceNeg, Int.reduceMul, not_true_eq_false, not_false_eq_true, true_and, and_true, Int.reduceToNat]
    | (intro _)
    | refine brK_dec (fun _ => ?_) (fun _ => ?_)
    | refine gK_dec (fun _ => ?_) (fun _ => ?_)
    | refine brK_split (fun hb_ => ?_) (fun hb_ => ?_)
    | refine gK_split (fun hb_ => ?_) (fun hb_ => ?_)
    | (refine PCall.call (right16 q.E hq.2.1) ?_; generalize rightE q.E = b; cases b)
    | (refine containsStrR (p := fun s => !lowF s) (fun s hs K hK => ?_) ?_
       · refine acall_of_vc tabOK Tryz.func135 n135 rfl (n := 6) rfl (rs := [.tmp 2]) rfl ?_
         simp only [go_sem, Nat.reduceAdd, Nat.reduceSub, Nat.reduceMul, Nat.reduceLT, Nat.reduceLeDiff, Nat.reduceEqDiff, Nat.reduceBEq, Nat.reduceBNe, Nat.reducePow, Int.reduceEq, Int.reduceNe, Int.reduceLT, Int.reduceLE, Int.reduceGT, Int.reduceGE, Int.reduceAdd, Int.reduceSub, Int.reduceNeg, Int.reduceMul, not_true_eq_false, not_false_eq_true, true_and, and_true, Int.reduceToNat]
         refine PCall.call (low6 s) ?_
         simp only [go_sem, Nat.reduceAdd, Nat.reduceSub, Nat.reduceMul, Nat.reduceLT, Nat.reduceLeDiff, Nat.reduceEqDiff, Nat.reduceBEq, Nat.reduceBNe, Nat.reducePow, Int.reduceEq, Int.reduceNe, Int.reduceLT, Int.reduceLE, Int.reduceGT, Int.reduceGE, Int.reduceAdd, Int.reduceSub, Int.reduceNeg, Int.reduceMul, not_true_eq_false, not_false_eq_true, true_and, and_true, Int.reduceToNat]
         exact finH0 _ rfl (.raw _) hK
       generalize (q.Names.any fun s => !lowF s) = b
       cases b)
    | (refine finBq rfl ?_; (try rw [decide_eq_true (p := 0 < q.Names.length) (by omega)]); (try rw [decide_eq_false (p := 0 < q.Names.length) (by omega)]); (try rw [decide_eq_true (p := q.Names.length ≤ 1) (by omega)]); (try rw [decide_eq_false (p := q.Names.length ≤ 1) (by omega)]); (try rw [decide_eq_true (p := q.E.kind = 13) (by omega)]); (try rw [decide_eq_false (p := q.E.kind = 13) (by omega)]); simp [*]; done)
theorem n81 : (Tryz.f81.name == "runtime.NumGoroutine") = false := by kernel_rfl
theorem bareP {l : List DDecl} {h : List Blk} {K : AV → List Blk → Prop} (hK : K (.b (l.any fun d => !(decide (d.On = ⟨#[]⟩)))) h) : ACall Tryz.prog 82 [.lst 6 (l.map DDecl.enc) none, .fn (.func 81) [] []] h K := by
  refine containsDe (p := fun d => !(decide (d.On = ⟨#[]⟩))) (fun x hx K hK => ?_) hK
  refine acall_of_vc tabOK Tryz.func81 n81 rfl (n := 6) rfl (rs := [.tmp 2]) rfl ?_
  simp only [go_sem, Nat.reduceAdd, Nat.reduceSub, Nat.reduceMul, Nat.reduceLT, Nat.reduceLeDiff, Nat.reduceEqDiff, Nat.reduceBEq, Nat.reduceBNe, Nat.reducePow, Int.reduceEq, Int.reduceNe, Int.reduceLT, Int.reduceLE, Int.reduceGT, Int.reduceGE, Int.reduceAdd, Int.reduceSub, Int.reduceNeg, Int.reduceMul, not_true_eq_false, not_false_eq_true, true_and, and_true, Int.reduceToNat]
  refine finHb _ rfl hK ?_
  simp
end Go.Proofs.YtipcmpkihhfhcaaGreatDoor

namespace Go.Proofs.YtipcmpkihhfhcaaGreatDoor
open Go.Abs
set_option maxRecDepth 20000
set_option linter.unusedSimpArgs false
set_option linter.unusedVariables false
set_option maxHeartbeats 1000000
attribute [local irreducible] vc vcOps vcStep vcGuard prK hrK gK gsK brK callK ElemK SeqK BlockK ScopeK OpsK CallK LoopK LoopGo finPost ACall PCall PCallE BCall vqOps vqStep vqGuard qrK heK pcK gqK gqsK QOpsK qcallK DrawK
abbrev plc (p : DProg) (at_ : Int) (m : Nat) : Blk := .cells 113 [.lst 2 (p.Enums.map DEnum.enc) none, .lst 5 (p.Nodes.map DNode.enc) none, .i at_, .map m]
abbrev HS (A : List Blk) (p : DProg) (at_ : Int) (c : Nat) (f : Value → Option AV) (r : List Blk) : List Blk := A ++ .mp .str c f :: .cells 113 [.lst 2 (p.Enums.map DEnum.enc) none, .lst 5 (p.Nodes.map DNode.enc) none, .i at_, .map A.length] :: r
theorem finKb {T : TypeId → TI} {s : List AV} {h : List Blk} {rs : List ResultVar} {K : AV → List Blk → Prop} {b c : Bool} (hl : resAV T s h rs = some [.b b]) (e : c = b) (hK : K (.b c) h) : FinK T rs K s h := by
  subst e
  exact finK hl hK
theorem HS_app {A r r' : List Blk} {p : DProg} {at_ : Int} {c : Nat} {f : Value → Option AV} : HS A p at_ c f (r ++ r') = HS A p at_ c f r ++ r' := by simp
section
variable {A r : List Blk} {p : DProg} {at_ : Int} {c : Nat} {f : Value → Option AV} {n : DNode} {D : List ByteArray} {K : AV → List Blk → Prop}
theorem n138 : (Tryz.f138.name == "runtime.NumGoroutine") = false := by kernel_rfl
theorem is138 (hM : MapN f (knF n D)) (s : ByteArray) (hK : ∀ r', K (.b (isF n s)) (HS A p at_ c f (r ++ r'))) : ACall Tryz.prog 138 [.ptr (A.length + 1) 0, .s s] (HS A p at_ c f r) K := by
  have hMx := hM s
  have his := kn_is n D s
  have hk := hK []
  rw [List.append_nil] at hk
  rw [← his] at hk
  refine acallK_of_vc tabOK Tryz.func138 n138 rfl (n := 12) rfl (rs := [.tmp 4]) rfl ?_
  simp only [go_sem, Nat.reduceAdd, Nat.reduceSub, Nat.reduceMul, Nat.reduceLT, Nat.reduceLeDiff, Nat.reduceEqDiff, Nat.reduceBEq, Nat.reduceBNe, Nat.reducePow, Int.reduceEq, Int.reduceNe, Int.reduceLT, Int.reduceLE, Int.reduceGT, Int.reduceGE, Int.reduceAdd, Int.reduceSub, Int.reduceNeg, Int.reduceMul, not_true_eq_false, not_false_eq_true, true_and, and_true, Int.reduceToNat, hMx]
  refine finK (r := .b (decide (0 < knF n D s))) ?_ hk
  have e : decide (((knF n D s : Nat) : Int) > 0) = decide (0 < knF n D s) := decide_eq_decide.2 (by omega)
  rw [e]
  rfl
theorem n139 : (Tryz.f139.name == "runtime.NumGoroutine") = false := by kernel_rfl
theorem arm139 (s : ByteArray) (hK : ∀ r', K (.b (armOk p.Enums s)) (HS A p at_ c f (r ++ r'))) : ACall Tryz.prog 139 [.ptr (A.length + 1) 0, .s s] (HS A p at_ c f r) K := by
  refine acallK_of_vc tabOK Tryz.func139 n139 rfl (n := 20) rfl (rs := [.tmp 4]) rfl ?_
  simp only [go_sem, Nat.reduceAdd, Nat.reduceSub, Nat.reduceMul, Nat.reduceLT, Nat.reduceLeDiff, Nat.reduceEqDiff, Nat.reduceBEq, Nat.reduceBNe, Nat.reducePow, Int.reduceEq, Int.reduceNe, Int.reduceLT, Int.reduceLE, Int.reduceGT, Int.reduceGE, Int.reduceAdd, Int.reduceSub, Int.reduceNeg, Int.reduceMul, not_true_eq_false, not_false_eq_true, true_and, and_true, Int.reduceToNat]
  refine PCall.call (arm146 p.Enums s) ?_
  unfold armOk at hK
  generalize armF p.Enums s = q at hK
  obtain ⟨t, v, ok⟩ := q
  simp only [go_sem, Nat.reduceAdd, Nat.reduceSub, Nat.reduceMul, Nat.reduceLT, Nat.reduceLeDiff, Nat.reduceEqDiff, Nat.reduceBEq, Nat.reduceBNe, Nat.reducePow, Int.reduceEq, Int.reduceNe, Int.reduceLT, Int.reduceLE, Int.reduceGT, Int.reduceGE, Int.reduceAdd, Int.reduceSub, Int.reduceNeg, Int.reduceMul, not_true_eq_false, not_false_eq_true, true_and, and_true, Int.reduceToNat]
  refine finK (r := .b ok) rfl ?_
  have hk := hK [.cells 42 [.i t.Kind, .i t.Enum, .i t.Len]]
  simpa using hk
theorem n140 : (Tryz.f140.name == "runtime.NumGoroutine") = false := by kernel_rfl
theorem define140 (hM : MapN f (knF n D)) (s : ByteArray) (h5 : isF n s = false → ∀ r', K (.i 5) (HS A p at_ c f (r ++ r'))) (h6 : isF n s = true → (inF n s = true ∨ s ∈ D) → ∀ r', K (.i 6) (HS A p at_ c f (r ++ r')))
    (h0 : isF n s = true → inF n s = false → s ∉ D → ∀ c' f' r', MapN f' (knF n (D ++ [s])) → K (.i 0) (HS A p at_ c' f' (r ++ r'))) : ACall Tryz.prog 140 [.ptr (A.length + 1) 0, .s s] (HS A p at_ c f r) K := by
  have hMx := hM s
  refine acallK_of_vc tabOK Tryz.func140 n140 rfl (n := 21) rfl (rs := [.tmp 4]) rfl ?_
  simp only [go_sem, Nat.reduceAdd, Nat.reduceSub, Nat.reduceMul, Nat.reduceLT, Nat.reduceLeDiff, Nat.reduceEqDiff, Nat.reduceBEq, Nat.reduceBNe, Nat.reducePow, Int.reduceEq, Int.reduceNe, Int.reduceLT, Int.reduceLE, Int.reduceGT, Int.reduceGE, Int.reduceAdd, Int.reduceSub, Int.reduceNeg, Int.reduceMul, not_true_eq_false, not_false_eq_true, true_and, and_true, Int.reduceToNat]
  refine is138 hM s (fun r1 => ?_)
  cases hi : isF n s with
  | false =>
    simp only [go_sem, Nat.reduceAdd, Nat.reduceSub, Nat.reduceMul, Nat.reduceLT, Nat.reduceLeDiff, Nat.reduceEqDiff, Nat.reduceBEq, Nat.reduceBNe, Nat.reducePow, Int.reduceEq, Int.reduceNe, Int.reduceLT, Int.reduceLE, Int.reduceGT, Int.reduceGE, Int.reduceAdd, Int.reduceSub, Int.reduceNeg, Int.reduceMul, not_true_eq_false, not_false_eq_true, true_and, and_true, Int.reduceToNat]
    exact finK (r := .i 5) rfl (h5 hi r1)
  | true =>
    simp only [go_sem, Nat.reduceAdd, Nat.reduceSub, Nat.reduceMul, Nat.reduceLT, Nat.reduceLeDiff, Nat.reduceEqDiff, Nat.reduceBEq, Nat.reduceBNe, Nat.reducePow, Int.reduceEq, Int.reduceNe, Int.reduceLT, Int.reduceLE, Int.reduceGT, Int.reduceGE, Int.reduceAdd, Int.reduceSub, Int.reduceNeg, Int.reduceMul, not_true_eq_false, not_false_eq_true, true_and, and_true, Int.reduceToNat, hMx]
    have hfr := kn_free (D := D) hi
    refine brK_dec (fun hq => ?_) (fun hq => ?_)
    · simp only [go_sem, Nat.reduceAdd, Nat.reduceSub, Nat.reduceMul, Nat.reduceLT, Nat.reduceLeDiff, Nat.reduceEqDiff, Nat.reduceBEq, Nat.reduceBNe, Nat.reducePow, Int.reduceEq, Int.reduceNe, Int.reduceLT, Int.reduceLE, Int.reduceGT, Int.reduceGE, Int.reduceAdd, Int.reduceSub, Int.reduceNeg, Int.reduceMul, not_true_eq_false, not_false_eq_true, true_and, and_true, Int.reduceToNat]
      refine finK (r := .i 6) rfl (h6 hi ?_ r1)
      by_cases hz : inF n s = true ∨ s ∈ D
      · exact hz
      · exact absurd (by have := hfr.2 hz; omega) hq
    · have hz : knF n D s = 2 := by omega
      have hnz := hfr.1 hz
      obtain ⟨k1, k2⟩ := kn_put hz
      simp only [go_sem, Nat.reduceAdd, Nat.reduceSub, Nat.reduceMul, Nat.reduceLT, Nat.reduceLeDiff, Nat.reduceEqDiff, Nat.reduceBEq, Nat.reduceBNe, Nat.reducePow, Int.reduceEq, Int.reduceNe, Int.reduceLT, Int.reduceLE, Int.reduceGT, Int.reduceGE, Int.reduceAdd, Int.reduceSub, Int.reduceNeg, Int.reduceMul, not_true_eq_false, not_false_eq_true, true_and, and_true, Int.reduceToNat]
      refine finK (r := .i 0) rfl (h0 hi (by cases hh : inF n s; rfl; exact absurd (.inl hh) hnz) (fun hm => hnz (.inr hm)) _ _ r1 ?_)
      exact hM.put s 3 (knF n (D ++ [s])) k1 k2
theorem n88 : (Tryz.f88.name == "runtime.NumGoroutine") = false := by kernel_rfl
theorem clocked88 (hM : MapN f (knF n D)) (d : DDecl) (hK : ∀ r', K (.b (clockedF p.Enums n d)) (HS A p at_ c f (r ++ r'))) : ACall Tryz.prog 88 [.ptr (A.length + 1) 0, d.enc] (HS A p at_ c f r) K := by
  unfold clockedF at hK
  refine acallK_of_vc tabOK Tryz.func88 n88 rfl (n := 20) rfl (rs := [.tmp 4]) rfl ?_
  repeat' first
    | simp only [go_sem, Nat.reduceAdd, Nat.reduceSub, Nat.reduceMul, Nat.reduceLT, Nat.reduceLeDiff, Nat.reduceEqDiff, Nat.reduceBEq, Nat.reduceBNe, Nat.reducePow, Int.reduceEq, Int.reduceNe, Int.reduceLT, Int.reduceLE, Int.reduceGT, Int.reduceGE, Int.reduceAdd, Int.reduceSub, Int.reduceNeg, Int.reduceMul, not_true_eq_false, not_false_eq_true, true_and, and_true, Int.reduceToNat]
    | refine gK_dec (fun _ => ?_) (fun _ => ?_)
    | refine gK_split (fun _ => ?_) (fun _ => ?_)
    | ((fail_if_success (clear hi)); refine is138 hM d.On (fun r1 => ?_); generalize hi : isF n d.On = i at hK ⊢; cases i)
    | (refine arm139 d.Ctor (fun r2 => ?_); generalize armOk p.Enums d.Ctor = i at hK ⊢; cases i)
    | exact finKb rfl (by simp [*]) (hK _)
theorem n87 : (Tryz.f87.name == "runtime.NumGoroutine") = false := by kernel_rfl
theorem node87 {j : Nat} (hj : p.Nodes[j]? = some n) (hK : ∀ r', K n.enc (HS A p (j : Int) c f (r ++ r'))) : ACall Tryz.prog 87 [.ptr (A.length + 1) 0] (HS A p (j : Int) c f r) K := by
  refine acallK_of_vc tabOK Tryz.func87 n87 rfl (n := 14) rfl (rs := [.cell 2 38]) rfl ?_
  simp only [go_sem, Nat.reduceAdd, Nat.reduceSub, Nat.reduceMul, Nat.reduceLT, Nat.reduceLeDiff, Nat.reduceEqDiff, Nat.reduceBEq, Nat.reduceBNe, Nat.reducePow, Int.reduceEq, Int.reduceNe, Int.reduceLT, Int.reduceLE, Int.reduceGT, Int.reduceGE, Int.reduceAdd, Int.reduceSub, Int.reduceNeg, Int.reduceMul, not_true_eq_false, not_false_eq_true, true_and, and_true, Int.reduceToNat]
  refine drawZ mo (by kernel_rfl) rfl ?_
  simp only [List.dropLast_cons_cons, List.dropLast_singleton, List.getLast_cons_cons, List.getLast_singleton]
  repeat' first
    | simp only [go_sem, Nat.reduceAdd, Nat.reduceSub, Nat.reduceMul, Nat.reduceLT, Nat.reduceLeDiff, Nat.reduceEqDiff, Nat.reduceBEq, Nat.reduceBNe, Nat.reducePow, Int.reduceEq, Int.reduceNe, Int.reduceLT, Int.reduceLE, Int.reduceGT, Int.reduceGE, Int.reduceAdd, Int.reduceSub, Int.reduceNeg, Int.reduceMul, not_true_eq_false, not_false_eq_true, true_and, and_true, Int.reduceToNat]
    | refine elemHave (by omega) hj ?_
  refine ⟨[n.enc], ?_, n.enc, .refl _, hK _⟩
  rw [DNode.enc_eq]
  simp only [go_sem, Nat.reduceAdd, Nat.reduceSub, Nat.reduceMul, Nat.reduceLT, Nat.reduceLeDiff, Nat.reduceEqDiff, Nat.reduceBEq, Nat.reduceBNe, Nat.reducePow, Int.reduceEq, Int.reduceNe, Int.reduceLT, Int.reduceLE, Int.reduceGT, Int.reduceGE, Int.reduceAdd, Int.reduceSub, Int.reduceNeg, Int.reduceMul, not_true_eq_false, not_false_eq_true, true_and, and_true, Int.reduceToNat]
theorem n178 : (Tryz.f178.name == "runtime.NumGoroutine") = false := by kernel_rfl
theorem leads178 (s : ByteArray) {h : List Blk} {k : Nat} (hk : h[k]? = some (.cells 76 [.ptr (A.length + 1) 0])) (hh : ∃ r, h = HS A p at_ c f r) (hK : K (.b (!(armOk p.Enums s))) h) : ACall Tryz.prog 178 [.s s, .ptr k 0] h K := by
  obtain ⟨r, rfl⟩ := hh
  refine acall_of_vc tabOK Tryz.func178 n178 rfl (n := 8) rfl (rs := [.tmp 3]) rfl ?_
  simp only [go_sem, Nat.reduceAdd, Nat.reduceSub, Nat.reduceMul, Nat.reduceLT, Nat.reduceLeDiff, Nat.reduceEqDiff, Nat.reduceBEq, Nat.reduceBNe, Nat.reducePow, Int.reduceEq, Int.reduceNe, Int.reduceLT, Int.reduceLE, Int.reduceGT, Int.reduceGE, Int.reduceAdd, Int.reduceSub, Int.reduceNeg, Int.reduceMul, not_true_eq_false, not_false_eq_true, true_and, and_true, Int.reduceToNat, hk]
  refine arm139 s (fun r' => ?_)
  simp only [go_sem, Nat.reduceAdd, Nat.reduceSub, Nat.reduceMul, Nat.reduceLT, Nat.reduceLeDiff, Nat.reduceEqDiff, Nat.reduceBEq, Nat.reduceBNe, Nat.reducePow, Int.reduceEq, Int.reduceNe, Int.reduceLT, Int.reduceLE, Int.reduceGT, Int.reduceGE, Int.reduceAdd, Int.reduceSub, Int.reduceNeg, Int.reduceMul, not_true_eq_false, not_false_eq_true, true_and, and_true, Int.reduceToNat]
  rw [HS_app]
  exact finH0 r' rfl (.raw _) hK
theorem n141 : (Tryz.f141.name == "runtime.NumGoroutine") = false := by kernel_rfl
theorem leads141 (hM : MapN f (knF n D)) (e : Ex) (hK : ∀ r', K (.b (leadsF p at_ n e)) (HS A p at_ c f (r ++ r'))) : ACall Tryz.prog 141 [.ptr (A.length + 1) 0, e.enc] (HS A p at_ c f r) K := by
  have hall : e.arms.all (armOk p.Enums) = !(e.arms.any fun s => !(armOk p.Enums s)) := List.all_eq_not_any_not
  unfold leadsF at hK
  rw [hall] at hK
  refine acallK_of_vc tabOK Tryz.func141 n141 rfl (n := 47) rfl (rs := [.tmp 4]) rfl ?_
  simp only [go_sem, Nat.reduceAdd, Nat.reduceSub, Nat.reduceMul, Nat.reduceLT, Nat.reduceLeDiff, Nat.reduceEqDiff, Nat.reduceBEq, Nat.reduceBNe, Nat.reducePow, Int.reduceEq, Int.reduceNe, Int.reduceLT, Int.reduceLE, Int.reduceGT, Int.reduceGE, Int.reduceAdd, Int.reduceSub, Int.reduceNeg, Int.reduceMul, not_true_eq_false, not_false_eq_true, true_and, and_true, Int.reduceToNat]
  refine containsStrR (p := fun s => !(armOk p.Enums s)) (fun s hs K hK => leads178 s (by simp only [go_sem, Nat.reduceAdd, Nat.reduceSub, Nat.reduceMul, Nat.reduceLT, Nat.reduceLeDiff, Nat.reduceEqDiff, Nat.reduceBEq, Nat.reduceBNe, Nat.reducePow, Int.reduceEq, Int.reduceNe, Int.reduceLT, Int.reduceLE, Int.reduceGT, Int.reduceGE, Int.reduceAdd, Int.reduceSub, Int.reduceNeg, Int.reduceMul, not_true_eq_false, not_false_eq_true, true_and, and_true, Int.reduceToNat]) ⟨_, rfl⟩ hK) ?_
  generalize (e.arms.any fun s => !(armOk p.Enums s)) = b at hK ⊢
  cases b
  all_goals
    repeat' first
      | (exfalso; omega)
      | simp only [go_sem, Nat.reduceAdd, Nat.reduceSub, Nat.reduceMul, Nat.reduceLT, Nat.reduceLeDiff, Nat.reduceEqDiff, Nat.reduceBEq, Nat.reduceBNe, Nat.reducePow, Int.reduceEq, Int.reduceNe, Int.reduceLT, Int.reduceLE, Int.reduceGT, Int.reduceGE, Int.reduceAdd, Int.reduceSub, Int.reduceNeg, Int.reduceMul, not_true_eq_false, not_false_eq_true, true_and, and_true, Int.reduceToNat]
      | refine brK_dec (fun _ => ?_) (fun _ => ?_)
      | refine gK_dec (fun _ => ?_) (fun _ => ?_)
      | (refine is138 hM e.name (fun r1 => ?_))
      | (refine arm139 e.name (fun r1 => ?_))
      | (refine drawZ mo (by kernel_rfl) rfl ?_; simp only [List.dropLast_cons_cons, List.dropLast_singleton, List.getLast_cons_cons, List.getLast_singleton])
      | (refine pcK_of (find23 p e.name) ?_)
      | exact finKb rfl (by simp [*]) (hK _)
end
end Go.Proofs.YtipcmpkihhfhcaaGreatDoor

namespace Go.Proofs.YtipcmpkihhfhcaaGreatDoor
open Go.Abs
set_option maxRecDepth 20000
set_option linter.unusedSimpArgs false
set_option linter.unusedVariables false
set_option maxHeartbeats 1000000
attribute [local irreducible] vc vcOps vcStep vcGuard prK hrK gK gsK brK callK ElemK SeqK BlockK ScopeK OpsK CallK LoopK LoopGo finPost ACall PCall PCallE BCall vqOps vqStep vqGuard qrK heK pcK gqK gqsK QOpsK qcallK DrawK
theorem eqErr_names {p : DProg} {a : Int} {n : DNode} {D : List ByteArray} {q : DEq} {E : Int} (h : namesErr n D q.Names = E) (hE : ¬ E = 0) : eqErr p a n D q = E := by
  subst h
  unfold eqErr
  rw [if_neg hE]
theorem eqErr_parts {p : DProg} {a : Int} {n : DNode} {D : List ByteArray} {q : DEq} (h : namesErr n D q.Names = 0) : eqErr p a n D q = if (parts q.E).all (leadsF p a n) = true then 0 else 5 := by
  unfold eqErr
  rw [if_pos h]
theorem snoc6 {α : Type} (A r r' : List α) (a b c d e w z : α) : A ++ a :: b :: (r ++ c :: d :: e :: (r' ++ [w, z])) = (A ++ a :: b :: (r ++ c :: d :: e :: (r' ++ [w]))) ++ [z] := by simp
section
variable {A r : List Blk} {p : DProg} {at_ : Int} {c : Nat} {f : Value → Option AV} {n : DNode} {D : List ByteArray} {K : AV → List Blk → Prop}
theorem n89 : (Tryz.f89.name == "runtime.NumGoroutine") = false := by kernel_rfl
theorem eq89 (hM : MapN f (knF n D)) (q : DEq) (hq : okEq q) (hK : ∀ c' f' r', (eqErr p at_ n D q = 0 → MapN f' (knF n (D ++ q.Names))) → K (.i (eqErr p at_ n D q)) (HS A p at_ c' f' (r ++ r'))) :
    ACall Tryz.prog 89 [.ptr (A.length + 1) 0, q.enc] (HS A p at_ c f r) K := by
  refine acallK_of_vc tabOK Tryz.func89 n89 rfl (n := 31) rfl (rs := [.cell 4 29]) rfl ?_
  simp only [go_sem, Nat.reduceAdd, Nat.reduceSub, Nat.reduceMul, Nat.reduceLT, Nat.reduceLeDiff, Nat.reduceEqDiff, Nat.reduceBEq, Nat.reduceBNe, Nat.reducePow, Int.reduceEq, Int.reduceNe, Int.reduceLT, Int.reduceLE, Int.reduceGT, Int.reduceGE, Int.reduceAdd, Int.reduceSub, Int.reduceNeg, Int.reduceMul, not_true_eq_false, not_false_eq_true, true_and, and_true, Int.reduceToNat]
  intro _
  generalize hE : namesErr n D q.Names = E
  refine loop_fr [6, 7, 12, 13, 14, 15, 16, 17, 18, 19, 20, 21, 22] (fun m C hh => ∃ (i c' : Nat) (f' : Value → Option AV) (r' : List Blk), i ≤ q.Names.length ∧ m = q.Names.length - i ∧ MapN f' (knF n (D ++ q.Names.take i)) ∧ namesErr n (D ++ q.Names.take i) (q.Names.drop i) = E ∧ C = [(12, .raw (.int .i64 (i : Nat)))] ∧
    hh = HS A p at_ c' f' (r ++ .cells 76 [.ptr (A.length + 1) 0] :: .cells 51 [.lst 1 (q.Names.map AV.s) none, .i q.E.kind, .i q.E.n, .s q.E.name, .i q.E.op, .lst 1 (q.E.arms.map AV.s) none, .lst 6 (q.E.subs.map Ex.enc) none] :: .cells 29 [.i 0] :: r')) q.Names.length _ ⟨0, c, f, [], by omega, by omega, by simpa using hM, by simpa using hE, rfl, rfl⟩ (.cons rfl .nil) ?_
  rintro m C j hh ⟨i, c', f', r', hi, rfl, hM', hE', rfl, rfl⟩
  simp only [go_sem, Nat.reduceAdd, Nat.reduceSub, Nat.reduceMul, Nat.reduceLT, Nat.reduceLeDiff, Nat.reduceEqDiff, Nat.reduceBEq, Nat.reduceBNe, Nat.reducePow, Int.reduceEq, Int.reduceNe, Int.reduceLT, Int.reduceLE, Int.reduceGT, Int.reduceGE, Int.reduceAdd, Int.reduceSub, Int.reduceNeg, Int.reduceMul, not_true_eq_false, not_false_eq_true, true_and, and_true, Int.reduceToNat]
  refine brK_dec (fun hlt => ?_) (fun hge => ?_)
  · simp only [go_sem, Nat.reduceAdd, Nat.reduceSub, Nat.reduceMul, Nat.reduceLT, Nat.reduceLeDiff, Nat.reduceEqDiff, Nat.reduceBEq, Nat.reduceBNe, Nat.reducePow, Int.reduceEq, Int.reduceNe, Int.reduceLT, Int.reduceLE, Int.reduceGT, Int.reduceGE, Int.reduceAdd, Int.reduceSub, Int.reduceNeg, Int.reduceMul, not_true_eq_false, not_false_eq_true, true_and, and_true, Int.reduceToNat]
    refine elemMap (by omega) (by omega) (fun x hx => ?_)
    simp only [go_sem, Nat.reduceAdd, Nat.reduceSub, Nat.reduceMul, Nat.reduceLT, Nat.reduceLeDiff, Nat.reduceEqDiff, Nat.reduceBEq, Nat.reduceBNe, Nat.reducePow, Int.reduceEq, Int.reduceNe, Int.reduceLT, Int.reduceLE, Int.reduceGT, Int.reduceGE, Int.reduceAdd, Int.reduceSub, Int.reduceNeg, Int.reduceMul, not_true_eq_false, not_false_eq_true, true_and, and_true, Int.reduceToNat]
    refine define140 hM' x (fun h5 r1 => ?_) (fun h6 h7 r1 => ?_) (fun h1 h2 h3 c1 f1 r1 hM1 => ?_)
    · have e5 := names_5 hE' hx h5
      have ee : eqErr p at_ n D q = 5 := by rw [eqErr_names hE (by omega), e5]
      rw [ee] at hK
      simp only [go_sem, Nat.reduceAdd, Nat.reduceSub, Nat.reduceMul, Nat.reduceLT, Nat.reduceLeDiff, Nat.reduceEqDiff, Nat.reduceBEq, Nat.reduceBNe, Nat.reducePow, Int.reduceEq, Int.reduceNe, Int.reduceLT, Int.reduceLE, Int.reduceGT, Int.reduceGE, Int.reduceAdd, Int.reduceSub, Int.reduceNeg, Int.reduceMul, not_true_eq_false, not_false_eq_true, true_and, and_true, Int.reduceToNat]
      refine ⟨[.i 5], by simp only [go_sem, Nat.reduceAdd, Nat.reduceSub, Nat.reduceMul, Nat.reduceLT, Nat.reduceLeDiff, Nat.reduceEqDiff, Nat.reduceBEq, Nat.reduceBNe, Nat.reducePow, Int.reduceEq, Int.reduceNe, Int.reduceLT, Int.reduceLE, Int.reduceGT, Int.reduceGE, Int.reduceAdd, Int.reduceSub, Int.reduceNeg, Int.reduceMul, not_true_eq_false, not_false_eq_true, true_and, and_true, Int.reduceToNat], .i 5, .refl _, hK _ _ _ (fun h => by omega)⟩
    · have e6 := names_6 hE' hx h6 h7
      have ee : eqErr p at_ n D q = 6 := by rw [eqErr_names hE (by omega), e6]
      rw [ee] at hK
      simp only [go_sem, Nat.reduceAdd, Nat.reduceSub, Nat.reduceMul, Nat.reduceLT, Nat.reduceLeDiff, Nat.reduceEqDiff, Nat.reduceBEq, Nat.reduceBNe, Nat.reducePow, Int.reduceEq, Int.reduceNe, Int.reduceLT, Int.reduceLE, Int.reduceGT, Int.reduceGE, Int.reduceAdd, Int.reduceSub, Int.reduceNeg, Int.reduceMul, not_true_eq_false, not_false_eq_true, true_and, and_true, Int.reduceToNat]
      refine ⟨[.i 6], by simp only [go_sem, Nat.reduceAdd, Nat.reduceSub, Nat.reduceMul, Nat.reduceLT, Nat.reduceLeDiff, Nat.reduceEqDiff, Nat.reduceBEq, Nat.reduceBNe, Nat.reducePow, Int.reduceEq, Int.reduceNe, Int.reduceLT, Int.reduceLE, Int.reduceGT, Int.reduceGE, Int.reduceAdd, Int.reduceSub, Int.reduceNeg, Int.reduceMul, not_true_eq_false, not_false_eq_true, true_and, and_true, Int.reduceToNat], .i 6, .refl _, hK _ _ _ (fun h => by omega)⟩
    · have hE1 := names_next hE' hx h1 h2 h3
      have hst : D ++ q.Names.take (i + 1) = D ++ q.Names.take i ++ [x] := by
        rw [Int.toNat_natCast] at hx
        obtain ⟨hi, rfl⟩ := List.getElem?_eq_some_iff.1 hx
        rw [List.take_succ_eq_append_getElem hi, List.append_assoc]
      simp only [go_sem, Nat.reduceAdd, Nat.reduceSub, Nat.reduceMul, Nat.reduceLT, Nat.reduceLeDiff, Nat.reduceEqDiff, Nat.reduceBEq, Nat.reduceBNe, Nat.reducePow, Int.reduceEq, Int.reduceNe, Int.reduceLT, Int.reduceLE, Int.reduceGT, Int.reduceGE, Int.reduceAdd, Int.reduceSub, Int.reduceNeg, Int.reduceMul, not_true_eq_false, not_false_eq_true, true_and, and_true, Int.reduceToNat]
      exact loopFr _ (by omega) ⟨i + 1, c1, f1, _, by omega, rfl, by rw [hst]; exact hM1, hE1, rfl, rfl⟩ (.next rfl (by omega) .nil) rfl
  · simp only [go_sem, Nat.reduceAdd, Nat.reduceSub, Nat.reduceMul, Nat.reduceLT, Nat.reduceLeDiff, Nat.reduceEqDiff, Nat.reduceBEq, Nat.reduceBNe, Nat.reducePow, Int.reduceEq, Int.reduceNe, Int.reduceLT, Int.reduceLE, Int.reduceGT, Int.reduceGE, Int.reduceAdd, Int.reduceSub, Int.reduceNeg, Int.reduceMul, not_true_eq_false, not_false_eq_true, true_and, and_true, Int.reduceToNat]
    have e0 := names_0 hE' (by omega)
    rw [List.take_of_length_le (by omega)] at hM'
    rw [e0] at hE
    rw [eqErr_parts hE] at hK
    refine each28 q.E ?_
    simp only [go_sem, Nat.reduceAdd, Nat.reduceSub, Nat.reduceMul, Nat.reduceLT, Nat.reduceLeDiff, Nat.reduceEqDiff, Nat.reduceBEq, Nat.reduceBNe, Nat.reducePow, Int.reduceEq, Int.reduceNe, Int.reduceLT, Int.reduceLE, Int.reduceGT, Int.reduceGE, Int.reduceAdd, Int.reduceSub, Int.reduceNeg, Int.reduceMul, not_true_eq_false, not_false_eq_true, true_and, and_true, Int.reduceToNat]
    intro l
    rw [snoc6]
    refine each_range q.E (A.length + (r.length + (r'.length + 1 + 1 + 1 + 1) + 1 + 1)) (A.length + (r.length + (r'.length + 1 + 1 + 1) + 1 + 1)) 0 (fun k => ∀ y ∈ (parts q.E).take k, leadsF p at_ n y = true) (fun _ => A ++ .mp .str c' f' :: .cells 113 [.lst 2 (p.Enums.map DEnum.enc) none, .lst 5 (p.Nodes.map DNode.enc) none, .i at_, .map A.length] :: (r ++ .cells 76 [.ptr (A.length + 1) 0] :: .cells 51 [.lst 1 (q.Names.map AV.s) none, .i q.E.kind, .i q.E.n, .s q.E.name, .i q.E.op, .lst 1 (q.E.arms.map AV.s) none, .lst 6 (q.E.subs.map Ex.enc) none] :: .cells 29 [.i 0] :: (r' ++ [exBx q.E]))) (fun _ => [])
      (fun h => (parts q.E).all (leadsF p at_ n) = false ∧ h = A ++ .mp .str c' f' :: .cells 113 [.lst 2 (p.Enums.map DEnum.enc) none, .lst 5 (p.Nodes.map DNode.enc) none, .i at_, .map A.length] :: (r ++ .cells 76 [.ptr (A.length + 1) 0] :: .cells 51 [.lst 1 (q.Names.map AV.s) none, .i q.E.kind, .i q.E.n, .s q.E.name, .i q.E.op, .lst 1 (q.E.arms.map AV.s) none, .lst 6 (q.E.subs.map Ex.enc) none] :: .cells 29 [.i 5] :: (r' ++ [exBx q.E]))) ?_ (fun _ => rfl) ?_ ?_ rfl rfl rfl (by simp) (fun k z r1 K hz hi hK1 hK2 => ?_) (fun r1 hi => ?_) (fun k h' r1 hs => ?_)
    · intro _; simp
    · rintro h ⟨_, rfl⟩; simp
    · simp only [go_sem, Nat.reduceAdd, Nat.reduceSub, Nat.reduceMul, Nat.reduceLT, Nat.reduceLeDiff, Nat.reduceEqDiff, Nat.reduceBEq, Nat.reduceBNe, Nat.reducePow, Int.reduceEq, Int.reduceNe, Int.reduceLT, Int.reduceLE, Int.reduceGT, Int.reduceGE, Int.reduceAdd, Int.reduceSub, Int.reduceNeg, Int.reduceMul, not_true_eq_false, not_false_eq_true, true_and, and_true, Int.reduceToNat]
    · simp only [go_sem, Nat.reduceAdd, Nat.reduceSub, Nat.reduceMul, Nat.reduceLT, Nat.reduceLeDiff, Nat.reduceEqDiff, Nat.reduceBEq, Nat.reduceBNe, Nat.reducePow, Int.reduceEq, Int.reduceNe, Int.reduceLT, Int.reduceLE, Int.reduceGT, Int.reduceGE, Int.reduceAdd, Int.reduceSub, Int.reduceNeg, Int.reduceMul, not_true_eq_false, not_false_eq_true, true_and, and_true, Int.reduceToNat, setPs, roundA]
      refine leads141 hM' z (fun r2 => ?_)
      cases hl : leadsF p at_ n z with
      | true =>
        have hk := hK1 (take_all hi hz hl) (exBx z :: r2)
        simp only [go_sem, Nat.reduceAdd, Nat.reduceSub, Nat.reduceMul, Nat.reduceLT, Nat.reduceLeDiff, Nat.reduceEqDiff, Nat.reduceBEq, Nat.reduceBNe, Nat.reducePow, Int.reduceEq, Int.reduceNe, Int.reduceLT, Int.reduceLE, Int.reduceGT, Int.reduceGE, Int.reduceAdd, Int.reduceSub, Int.reduceNeg, Int.reduceMul, not_true_eq_false, not_false_eq_true, true_and, and_true, Int.reduceToNat, roundB]
        simpa using hk
      | false =>
        have hk := hK2 _ (exBx z :: r2) ⟨List.all_eq_false.2 ⟨z, List.mem_of_getElem? hz, by simp [hl]⟩, rfl⟩
        simp only [go_sem, Nat.reduceAdd, Nat.reduceSub, Nat.reduceMul, Nat.reduceLT, Nat.reduceLeDiff, Nat.reduceEqDiff, Nat.reduceBEq, Nat.reduceBNe, Nat.reducePow, Int.reduceEq, Int.reduceNe, Int.reduceLT, Int.reduceLE, Int.reduceGT, Int.reduceGE, Int.reduceAdd, Int.reduceSub, Int.reduceNeg, Int.reduceMul, not_true_eq_false, not_false_eq_true, true_and, and_true, Int.reduceToNat, roundB]
        simpa using hk
    · rw [List.take_length] at hi
      rw [List.all_eq_true.2 hi] at hK
      simp only [go_sem, Nat.reduceAdd, Nat.reduceSub, Nat.reduceMul, Nat.reduceLT, Nat.reduceLeDiff, Nat.reduceEqDiff, Nat.reduceBEq, Nat.reduceBNe, Nat.reducePow, Int.reduceEq, Int.reduceNe, Int.reduceLT, Int.reduceLE, Int.reduceGT, Int.reduceGE, Int.reduceAdd, Int.reduceSub, Int.reduceNeg, Int.reduceMul, not_true_eq_false, not_false_eq_true, true_and, and_true, Int.reduceToNat]
      refine ⟨[.i 0], by simp only [go_sem, Nat.reduceAdd, Nat.reduceSub, Nat.reduceMul, Nat.reduceLT, Nat.reduceLeDiff, Nat.reduceEqDiff, Nat.reduceBEq, Nat.reduceBNe, Nat.reducePow, Int.reduceEq, Int.reduceNe, Int.reduceLT, Int.reduceLE, Int.reduceGT, Int.reduceGE, Int.reduceAdd, Int.reduceSub, Int.reduceNeg, Int.reduceMul, not_true_eq_false, not_false_eq_true, true_and, and_true, Int.reduceToNat], .i 0, .refl _, ?_⟩
      have hk := fun z => hK c' f' z (fun _ => hM')
      simp only [if_true] at hk
      exact hk _
    · obtain ⟨hs, rfl⟩ := hs
      rw [hs] at hK
      simp only [go_sem, Nat.reduceAdd, Nat.reduceSub, Nat.reduceMul, Nat.reduceLT, Nat.reduceLeDiff, Nat.reduceEqDiff, Nat.reduceBEq, Nat.reduceBNe, Nat.reducePow, Int.reduceEq, Int.reduceNe, Int.reduceLT, Int.reduceLE, Int.reduceGT, Int.reduceGE, Int.reduceAdd, Int.reduceSub, Int.reduceNeg, Int.reduceMul, not_true_eq_false, not_false_eq_true, true_and, and_true, Int.reduceToNat]
      refine ⟨[.i 5], by simp only [go_sem, Nat.reduceAdd, Nat.reduceSub, Nat.reduceMul, Nat.reduceLT, Nat.reduceLeDiff, Nat.reduceEqDiff, Nat.reduceBEq, Nat.reduceBNe, Nat.reducePow, Int.reduceEq, Int.reduceNe, Int.reduceLT, Int.reduceLE, Int.reduceGT, Int.reduceGE, Int.reduceAdd, Int.reduceSub, Int.reduceNeg, Int.reduceMul, not_true_eq_false, not_false_eq_true, true_and, and_true, Int.reduceToNat], .i 5, .refl _, ?_⟩
      have hk := fun z => hK c' f' z (fun h => by simp at h)
      simp only [Bool.false_eq_true, if_false] at hk
      exact hk _
end
end Go.Proofs.YtipcmpkihhfhcaaGreatDoor

namespace Go.Proofs.YtipcmpkihhfhcaaGreatDoor
open Go.Abs
set_option maxRecDepth 20000
set_option linter.unusedSimpArgs false
set_option linter.unusedVariables false
set_option maxHeartbeats 1000000
attribute [local irreducible] vc vcOps vcStep vcGuard prK hrK gK gsK brK callK ElemK SeqK BlockK ScopeK OpsK CallK LoopK LoopGo finPost ACall PCall PCallE BCall vqOps vqStep vqGuard qrK heK pcK gqK gqsK QOpsK qcallK DrawK
theorem fault_err {p : DProg} {a : Int} {n : DNode} (h : ¬ (allV n).all (clockedF p.Enums n) = true) : nodeFault p a n = ⟨a, -1, 5⟩ := by unfold nodeFault; rw [if_neg h]
theorem fault_eq {p : DProg} {a : Int} {n : DNode} {e : Int × Int} (h : (allV n).all (clockedF p.Enums n) = true) (he : eqsErr p a n 0 [] n.Eqs = e) (h2 : ¬ e.2 = 0) : nodeFault p a n = ⟨a, e.1, e.2⟩ := by unfold nodeFault; rw [if_pos h, he, if_neg h2]
theorem fault_def {p : DProg} {a : Int} {n : DNode} {e : Int × Int} (h : (allV n).all (clockedF p.Enums n) = true) (he : eqsErr p a n 0 [] n.Eqs = e) (h2 : e.2 = 0) : nodeFault p a n = if allDef n = true then ⟨0, 0, 0⟩ else ⟨a, -1, 5⟩ := by unfold nodeFault; rw [if_pos h, he, if_pos h2]
theorem eqsErr_in {p : DProg} {a : Int} {n : DNode} : ∀ {l : List DEq} {i : Nat} {D : List ByteArray}, (eqsErr p a n i D l).2 = 0 → ∀ s ∈ l.flatMap DEq.Names, inF n s = false
  | [], _, _, _ => by simp
  | q :: r, i, D, h => by
    rw [eqsErr] at h
    split at h
    · rename_i h0
      intro s hs
      rw [List.flatMap_cons] at hs
      rcases List.mem_append.1 hs with hs | hs
      · have hn : namesErr n D q.Names = 0 := by
          unfold eqErr at h0
          split at h0
          · assumption
          · assumption
        exact namesErr_in hn s hs
      · exact eqsErr_in h s hs
    · rename_i h0
      exact absurd h h0
abbrev trK : Tr := (.two 0 (.two 1 (.two 2 (.two 3 (.one 4 (.one 5 (.one 6 (.one 7 .nil)))) 4 (.two 3 (.one 5 (.one 6 (.one 7 .nil))) 5 (.one 3 (.one 6 (.one 7 .nil))))) 4 (.two 2 (.two 3 (.one 5 (.one 6 (.one 7 .nil))) 5 (.one 3 (.one 6 (.one 7 .nil)))) 5 (.one 2 (.one 3 (.one 6 (.one 7 .nil)))))) 4 (.two 1 (.two 2 (.two 3 (.one 5 (.one 6 (.one 7 .nil))) 5 (.one 3 (.one 6 (.one 7 .nil)))) 5 (.one 2 (.one 3 (.one 6 (.one 7 .nil))))) 5 (.one 1 (.one 2 (.one 3 (.one 6 (.one 7 .nil))))))) 4 (.two 0 (.two 1 (.two 2 (.two 3 (.one 5 (.one 6 (.one 7 .nil))) 5 (.one 3 (.one 6 (.one 7 .nil)))) 5 (.one 2 (.one 3 (.one 6 (.one 7 .nil))))) 5 (.one 1 (.one 2 (.one 3 (.one 6 (.one 7 .nil)))))) 5 (.one 0 (.one 1 (.one 2 (.one 3 (.one 6 (.one 7 .nil))))))))
section
variable {A r : List Blk} {p : DProg} {c : Nat} {f : Value → Option AV} {n : DNode} {K : AV → List Blk → Prop}
theorem n49 : (Tryz.f49.name == "runtime.NumGoroutine") = false := by kernel_rfl
theorem check49 {j : Nat} (hj : p.Nodes[j]? = some n) (hn : okNode n) (hM : MapN f (knF n [])) (hK : ∀ c' f' r', K (nodeFault p (j : Int) n).enc (HS A p (j : Int) c' f' (r ++ r'))) : ACall Tryz.prog 49 [.ptr (A.length + 1) 0] (HS A p (j : Int) c f r) K := by
  have hh1 := hn.1.1
  have hh2 := hn.2.1.1
  have hh3 := hn.2.2.1.1
  have hh4 := hn.2.2.2.1
  have hal : (allV n).length ≤ 60 := by simp [allV]; omega
  have hfl : [n.Ins, n.Outs, n.Vars].flatten.length = (allV n).length := rfl
  refine acallK_of_vc tabOK Tryz.func49 n49 rfl (n := 83) rfl (rs := [.cell 2 33]) rfl ?_
  simp only [go_sem, Nat.reduceAdd, Nat.reduceSub, Nat.reduceMul, Nat.reduceLT, Nat.reduceLeDiff, Nat.reduceEqDiff, Nat.reduceBEq, Nat.reduceBNe, Nat.reducePow, Int.reduceEq, Int.reduceNe, Int.reduceLT, Int.reduceLE, Int.reduceGT, Int.reduceGE, Int.reduceAdd, Int.reduceSub, Int.reduceNeg, Int.reduceMul, not_true_eq_false, not_false_eq_true, true_and, and_true, Int.reduceToNat]
  refine node87 hj (fun r1 => ?_)
  simp only [go_sem, Nat.reduceAdd, Nat.reduceSub, Nat.reduceMul, Nat.reduceLT, Nat.reduceLeDiff, Nat.reduceEqDiff, Nat.reduceBEq, Nat.reduceBNe, Nat.reducePow, Int.reduceEq, Int.reduceNe, Int.reduceLT, Int.reduceLE, Int.reduceGT, Int.reduceGE, Int.reduceAdd, Int.reduceSub, Int.reduceNeg, Int.reduceMul, not_true_eq_false, not_false_eq_true, true_and, and_true, Int.reduceToNat]
  refine PCall.callW (concatD [n.Ins, n.Outs, n.Vars] (by show (allV n).length ≤ _; omega)) ⟨.tok _ _ _, trivial⟩ ?_
  simp only [go_sem, Nat.reduceAdd, Nat.reduceSub, Nat.reduceMul, Nat.reduceLT, Nat.reduceLeDiff, Nat.reduceEqDiff, Nat.reduceBEq, Nat.reduceBNe, Nat.reducePow, Int.reduceEq, Int.reduceNe, Int.reduceLT, Int.reduceLE, Int.reduceGT, Int.reduceGE, Int.reduceAdd, Int.reduceSub, Int.reduceNeg, Int.reduceMul, not_true_eq_false, not_false_eq_true, true_and, and_true, Int.reduceToNat]
  intro _
  refine loop_frX [6, 27, 28, 29, 30, 31, 32, 33, 34, 35, 36, 37] (fun m C => ∃ i : Nat, i ≤ (allV n).length ∧ m = (allV n).length - i ∧ (∀ d ∈ (allV n).take i, clockedF p.Enums n d = true) ∧ C = [(27, .raw (.int .i64 (i : Nat)))]) (allV n).length _ ⟨0, by omega, by omega, by simp, rfl⟩ (.cons rfl .nil) ?_
  rintro m C ja r2 ⟨i, hi, rfl, hp, rfl⟩
  simp only [go_sem, Nat.reduceAdd, Nat.reduceSub, Nat.reduceMul, Nat.reduceLT, Nat.reduceLeDiff, Nat.reduceEqDiff, Nat.reduceBEq, Nat.reduceBNe, Nat.reducePow, Int.reduceEq, Int.reduceNe, Int.reduceLT, Int.reduceLE, Int.reduceGT, Int.reduceGE, Int.reduceAdd, Int.reduceSub, Int.reduceNeg, Int.reduceMul, not_true_eq_false, not_false_eq_true, true_and, and_true, Int.reduceToNat]
  refine brK_dec (fun hlt => ?_) (fun hge => ?_)
  · simp only [go_sem, Nat.reduceAdd, Nat.reduceSub, Nat.reduceMul, Nat.reduceLT, Nat.reduceLeDiff, Nat.reduceEqDiff, Nat.reduceBEq, Nat.reduceBNe, Nat.reducePow, Int.reduceEq, Int.reduceNe, Int.reduceLT, Int.reduceLE, Int.reduceGT, Int.reduceGE, Int.reduceAdd, Int.reduceSub, Int.reduceNeg, Int.reduceMul, not_true_eq_false, not_false_eq_true, true_and, and_true, Int.reduceToNat]
    refine elemMap (by omega) (by omega) (fun d hd => ?_)
    simp only [go_sem, Nat.reduceAdd, Nat.reduceSub, Nat.reduceMul, Nat.reduceLT, Nat.reduceLeDiff, Nat.reduceEqDiff, Nat.reduceBEq, Nat.reduceBNe, Nat.reducePow, Int.reduceEq, Int.reduceNe, Int.reduceLT, Int.reduceLE, Int.reduceGT, Int.reduceGE, Int.reduceAdd, Int.reduceSub, Int.reduceNeg, Int.reduceMul, not_true_eq_false, not_false_eq_true, true_and, and_true, Int.reduceToNat]
    refine clocked88 hM d (fun r3 => ?_)
    cases hdx : clockedF p.Enums n d with
    | true =>
      simp only [go_sem, Nat.reduceAdd, Nat.reduceSub, Nat.reduceMul, Nat.reduceLT, Nat.reduceLeDiff, Nat.reduceEqDiff, Nat.reduceBEq, Nat.reduceBNe, Nat.reducePow, Int.reduceEq, Int.reduceNe, Int.reduceLT, Int.reduceLE, Int.reduceGT, Int.reduceGE, Int.reduceAdd, Int.reduceSub, Int.reduceNeg, Int.reduceMul, not_true_eq_false, not_false_eq_true, true_and, and_true, Int.reduceToNat]
      exact loopFrX _ (by omega) _ ⟨i + 1, by omega, rfl, take_all hp (by simpa using hd) hdx, rfl⟩ (.next rfl (by omega) .nil) rfl (by first | rfl | (simp only [List.append_assoc, List.cons_append, List.nil_append]; rfl))
    | false =>
      have hf := fault_err (p := p) (a := (j : Int)) (n := n) (by rw [List.all_eq_false.2 ⟨d, List.mem_of_getElem? hd, by simp [hdx]⟩]; simp)
      rw [hf, DFault.enc_eq] at hK
      simp only [go_sem, Nat.reduceAdd, Nat.reduceSub, Nat.reduceMul, Nat.reduceLT, Nat.reduceLeDiff, Nat.reduceEqDiff, Nat.reduceBEq, Nat.reduceBNe, Nat.reducePow, Int.reduceEq, Int.reduceNe, Int.reduceLT, Int.reduceLE, Int.reduceGT, Int.reduceGE, Int.reduceAdd, Int.reduceSub, Int.reduceNeg, Int.reduceMul, not_true_eq_false, not_false_eq_true, true_and, and_true, Int.reduceToNat]
      exact ⟨[.agg [.i (j : Int), .i (-1), .i 5]], by simp only [go_sem, Nat.reduceAdd, Nat.reduceSub, Nat.reduceMul, Nat.reduceLT, Nat.reduceLeDiff, Nat.reduceEqDiff, Nat.reduceBEq, Nat.reduceBNe, Nat.reducePow, Int.reduceEq, Int.reduceNe, Int.reduceLT, Int.reduceLE, Int.reduceGT, Int.reduceGE, Int.reduceAdd, Int.reduceSub, Int.reduceNeg, Int.reduceMul, not_true_eq_false, not_false_eq_true, true_and, and_true, Int.reduceToNat], _, .refl _, hK _ _ _⟩
  · have hcl : (allV n).all (clockedF p.Enums n) = true := List.all_eq_true.2 (take_full hp (by omega))
    simp only [go_sem, Nat.reduceAdd, Nat.reduceSub, Nat.reduceMul, Nat.reduceLT, Nat.reduceLeDiff, Nat.reduceEqDiff, Nat.reduceBEq, Nat.reduceBNe, Nat.reducePow, Int.reduceEq, Int.reduceNe, Int.reduceLT, Int.reduceLE, Int.reduceGT, Int.reduceGE, Int.reduceAdd, Int.reduceSub, Int.reduceNeg, Int.reduceMul, not_true_eq_false, not_false_eq_true, true_and, and_true, Int.reduceToNat]
    intro _
    generalize hE : eqsErr p (j : Int) n 0 [] n.Eqs = E
    refine loop_fr [7, 8, 41, 42, 43, 44, 45, 46, 47, 48, 49, 50, 51, 52, 53, 54, 55] (fun m C hh => ∃ (i c' : Nat) (f' : Value → Option AV) (r' : List Blk), i ≤ n.Eqs.length ∧ m = n.Eqs.length - i ∧ MapN f' (knF n ((n.Eqs.take i).flatMap DEq.Names)) ∧ eqsErr p (j : Int) n i ((n.Eqs.take i).flatMap DEq.Names) (n.Eqs.drop i) = E ∧ C = [(41, .raw (.int .i64 (i : Nat)))] ∧
      hh = HS A p (j : Int) c' f' (r ++ .cells 33 [.i 0, .i 0, .i 0] :: .cells 33 [.i (j : Int), .i (-1), .i 0] :: (r1 ++ .cells 38 [.s n.Name, .lst 6 (n.Ins.map DDecl.enc) none, .lst 6 (n.Outs.map DDecl.enc) none, .lst 6 (n.Vars.map DDecl.enc) none, .lst 7 (n.Eqs.map DEq.enc) none] :: r'))) n.Eqs.length _ ⟨0, c, f, _, by omega, by omega, by simpa using hM, by simpa using hE, rfl, by first | rfl | (simp only [List.append_assoc, List.cons_append, List.nil_append]; rfl)⟩ (.cons rfl .nil) ?_
    rintro m C jb hh ⟨i, c', f', r', hi, rfl, hM', hE', rfl, rfl⟩
    simp only [go_sem, Nat.reduceAdd, Nat.reduceSub, Nat.reduceMul, Nat.reduceLT, Nat.reduceLeDiff, Nat.reduceEqDiff, Nat.reduceBEq, Nat.reduceBNe, Nat.reducePow, Int.reduceEq, Int.reduceNe, Int.reduceLT, Int.reduceLE, Int.reduceGT, Int.reduceGE, Int.reduceAdd, Int.reduceSub, Int.reduceNeg, Int.reduceMul, not_true_eq_false, not_false_eq_true, true_and, and_true, Int.reduceToNat]
    refine brK_dec (fun hlt => ?_) (fun hge => ?_)
    · simp only [go_sem, Nat.reduceAdd, Nat.reduceSub, Nat.reduceMul, Nat.reduceLT, Nat.reduceLeDiff, Nat.reduceEqDiff, Nat.reduceBEq, Nat.reduceBNe, Nat.reducePow, Int.reduceEq, Int.reduceNe, Int.reduceLT, Int.reduceLE, Int.reduceGT, Int.reduceGE, Int.reduceAdd, Int.reduceSub, Int.reduceNeg, Int.reduceMul, not_true_eq_false, not_false_eq_true, true_and, and_true, Int.reduceToNat]
      refine elemMap (by omega) (by omega) (fun x hx => ?_)
      simp only [go_sem, Nat.reduceAdd, Nat.reduceSub, Nat.reduceMul, Nat.reduceLT, Nat.reduceLeDiff, Nat.reduceEqDiff, Nat.reduceBEq, Nat.reduceBNe, Nat.reducePow, Int.reduceEq, Int.reduceNe, Int.reduceLT, Int.reduceLE, Int.reduceGT, Int.reduceGE, Int.reduceAdd, Int.reduceSub, Int.reduceNeg, Int.reduceMul, not_true_eq_false, not_false_eq_true, true_and, and_true, Int.reduceToNat]
      refine eq89 hM' x (hn.2.2.2.2.2 _ (List.mem_of_getElem? hx)) (fun c1 f1 r3 hM1 => ?_)
      have hv := eqErr_vals p (j : Int) n ((n.Eqs.take i).flatMap DEq.Names) x
      by_cases he : eqErr p (j : Int) n ((n.Eqs.take i).flatMap DEq.Names) x = 0
      · have hM2 := hM1 he
        have hE1 := eqs_next hE' hx he
        have hst := flatMap_next DEq.Names (l := n.Eqs) (by simpa using hx)
        rw [he]
        simp only [go_sem, Nat.reduceAdd, Nat.reduceSub, Nat.reduceMul, Nat.reduceLT, Nat.reduceLeDiff, Nat.reduceEqDiff, Nat.reduceBEq, Nat.reduceBNe, Nat.reducePow, Int.reduceEq, Int.reduceNe, Int.reduceLT, Int.reduceLE, Int.reduceGT, Int.reduceGE, Int.reduceAdd, Int.reduceSub, Int.reduceNeg, Int.reduceMul, not_true_eq_false, not_false_eq_true, true_and, and_true, Int.reduceToNat]
        exact loopFr _ (by omega) ⟨i + 1, c1, f1, _, by omega, rfl, by rw [hst]; exact hM2, hE1, rfl, rfl⟩ (.next rfl (by omega) .nil) rfl
      · have hE1 := eqs_at hE' hx he
        have hf := fault_eq hcl hE (by rw [hE1]; exact he)
        rw [hf, hE1, DFault.enc_eq] at hK
        generalize eqErr p (j : Int) n ((n.Eqs.take i).flatMap DEq.Names) x = ee at hK he hv
        simp only [go_sem, Nat.reduceAdd, Nat.reduceSub, Nat.reduceMul, Nat.reduceLT, Nat.reduceLeDiff, Nat.reduceEqDiff, Nat.reduceBEq, Nat.reduceBNe, Nat.reducePow, Int.reduceEq, Int.reduceNe, Int.reduceLT, Int.reduceLE, Int.reduceGT, Int.reduceGE, Int.reduceAdd, Int.reduceSub, Int.reduceNeg, Int.reduceMul, not_true_eq_false, not_false_eq_true, true_and, and_true, Int.reduceToNat]
        refine brK_dec (fun hq => ?_) (fun hq => ?_)
        · simp only [go_sem, Nat.reduceAdd, Nat.reduceSub, Nat.reduceMul, Nat.reduceLT, Nat.reduceLeDiff, Nat.reduceEqDiff, Nat.reduceBEq, Nat.reduceBNe, Nat.reducePow, Int.reduceEq, Int.reduceNe, Int.reduceLT, Int.reduceLE, Int.reduceGT, Int.reduceGE, Int.reduceAdd, Int.reduceSub, Int.reduceNeg, Int.reduceMul, not_true_eq_false, not_false_eq_true, true_and, and_true, Int.reduceToNat]
          refine brK_dec (fun _ => ?_) (fun hq2 => absurd hq hq2)
          simp only [go_sem, Nat.reduceAdd, Nat.reduceSub, Nat.reduceMul, Nat.reduceLT, Nat.reduceLeDiff, Nat.reduceEqDiff, Nat.reduceBEq, Nat.reduceBNe, Nat.reducePow, Int.reduceEq, Int.reduceNe, Int.reduceLT, Int.reduceLE, Int.reduceGT, Int.reduceGE, Int.reduceAdd, Int.reduceSub, Int.reduceNeg, Int.reduceMul, not_true_eq_false, not_false_eq_true, true_and, and_true, Int.reduceToNat]
          exact ⟨[.agg [.i (j : Int), .i (i : Int), .i ee]], by simp only [go_sem, Nat.reduceAdd, Nat.reduceSub, Nat.reduceMul, Nat.reduceLT, Nat.reduceLeDiff, Nat.reduceEqDiff, Nat.reduceBEq, Nat.reduceBNe, Nat.reducePow, Int.reduceEq, Int.reduceNe, Int.reduceLT, Int.reduceLE, Int.reduceGT, Int.reduceGE, Int.reduceAdd, Int.reduceSub, Int.reduceNeg, Int.reduceMul, not_true_eq_false, not_false_eq_true, true_and, and_true, Int.reduceToNat], _, .refl _, hK _ _ _⟩
        · exact absurd hq (by simpa using he)
    · simp only [go_sem, Nat.reduceAdd, Nat.reduceSub, Nat.reduceMul, Nat.reduceLT, Nat.reduceLeDiff, Nat.reduceEqDiff, Nat.reduceBEq, Nat.reduceBNe, Nat.reducePow, Int.reduceEq, Int.reduceNe, Int.reduceLT, Int.reduceLE, Int.reduceGT, Int.reduceGE, Int.reduceAdd, Int.reduceSub, Int.reduceNeg, Int.reduceMul, not_true_eq_false, not_false_eq_true, true_and, and_true, Int.reduceToNat]
      have hE1 := eqs_0 hE' (by omega)
      rw [List.take_of_length_le (by omega)] at hM'
      have hD := eqsErr_in (p := p) (a := (j : Int)) (n := n) (l := n.Eqs) (i := 0) (D := []) (by rw [hE, hE1])
      have hf := fault_def hcl hE (by rw [hE1])
      unfold allDef at hf
      have hL : [n.Outs, n.Vars].flatten = n.Outs ++ n.Vars := by simp
      have hll : (n.Outs ++ n.Vars).length ≤ 60 := by simp; omega
      refine PCall.callW (concatD [n.Outs, n.Vars] (by show ([n.Outs, n.Vars].flatten).length ≤ _; rw [hL]; omega)) ⟨.tok _ _ _, trivial⟩ ?_
      rw [hL]
      generalize hW : n.Outs ++ n.Vars = W at hf hll
      simp only [go_sem, Nat.reduceAdd, Nat.reduceSub, Nat.reduceMul, Nat.reduceLT, Nat.reduceLeDiff, Nat.reduceEqDiff, Nat.reduceBEq, Nat.reduceBNe, Nat.reducePow, Int.reduceEq, Int.reduceNe, Int.reduceLT, Int.reduceLE, Int.reduceGT, Int.reduceGE, Int.reduceAdd, Int.reduceSub, Int.reduceNeg, Int.reduceMul, not_true_eq_false, not_false_eq_true, true_and, and_true, Int.reduceToNat]
      intro _
      refine loop_frX [10, 67, 68, 69, 70, 71, 72, 73, 74, 75, 76, 77, 78, 79, 80, 81] (fun m C => ∃ i : Nat, i ≤ W.length ∧ m = W.length - i ∧ (∀ d ∈ W.take i, memB d.Name (n.Eqs.flatMap DEq.Names) = true) ∧ C = [(67, .raw (.int .i64 (i : Nat)))]) W.length _ ⟨0, by omega, by omega, by simp, rfl⟩ (.cons rfl .nil) ?_
      rintro m C jc r4 ⟨i2, hi2, rfl, hp2, rfl⟩
      simp only [go_sem, Nat.reduceAdd, Nat.reduceSub, Nat.reduceMul, Nat.reduceLT, Nat.reduceLeDiff, Nat.reduceEqDiff, Nat.reduceBEq, Nat.reduceBNe, Nat.reducePow, Int.reduceEq, Int.reduceNe, Int.reduceLT, Int.reduceLE, Int.reduceGT, Int.reduceGE, Int.reduceAdd, Int.reduceSub, Int.reduceNeg, Int.reduceMul, not_true_eq_false, not_false_eq_true, true_and, and_true, Int.reduceToNat]
      refine brK_dec (fun hlt => ?_) (fun hge2 => ?_)
      · simp only [go_sem, Nat.reduceAdd, Nat.reduceSub, Nat.reduceMul, Nat.reduceLT, Nat.reduceLeDiff, Nat.reduceEqDiff, Nat.reduceBEq, Nat.reduceBNe, Nat.reducePow, Int.reduceEq, Int.reduceNe, Int.reduceLT, Int.reduceLE, Int.reduceGT, Int.reduceGE, Int.reduceAdd, Int.reduceSub, Int.reduceNeg, Int.reduceMul, not_true_eq_false, not_false_eq_true, true_and, and_true, Int.reduceToNat]
        refine elemMap (by omega) (by omega) (fun d hd => ?_)
        simp only [go_sem, Nat.reduceAdd, Nat.reduceSub, Nat.reduceMul, Nat.reduceLT, Nat.reduceLeDiff, Nat.reduceEqDiff, Nat.reduceBEq, Nat.reduceBNe, Nat.reducePow, Int.reduceEq, Int.reduceNe, Int.reduceLT, Int.reduceLE, Int.reduceGT, Int.reduceGE, Int.reduceAdd, Int.reduceSub, Int.reduceNeg, Int.reduceMul, not_true_eq_false, not_false_eq_true, true_and, and_true, Int.reduceToNat]
        have hMx := hM' d.Name
        have hdn := kn_done (n := n) (D := n.Eqs.flatMap DEq.Names) (d := d) (by rw [hW]; exact List.mem_of_getElem? hd) hD
        refine drawV trK mo (by kernel_rfl) ?_
        simp only [go_sem, Nat.reduceAdd, Nat.reduceSub, Nat.reduceMul, Nat.reduceLT, Nat.reduceLeDiff, Nat.reduceEqDiff, Nat.reduceBEq, Nat.reduceBNe, Nat.reducePow, Int.reduceEq, Int.reduceNe, Int.reduceLT, Int.reduceLE, Int.reduceGT, Int.reduceGE, Int.reduceAdd, Int.reduceSub, Int.reduceNeg, Int.reduceMul, not_true_eq_false, not_false_eq_true, true_and, and_true, Int.reduceToNat, hMx]
        repeat' first
          | refine And.intro ?_ ?_
          | simp only [go_sem, Nat.reduceAdd, Nat.reduceSub, Nat.reduceMul, Nat.reduceLT, Nat.reduceLeDiff, Nat.reduceEqDiff, Nat.reduceBEq, Nat.reduceBNe, Nat.reducePow, Int.reduceEq, Int.reduceNe, Int.reduceLT, Int.reduceLE, Int.reduceGT, Int.reduceGE, Int.reduceAdd, Int.reduceSub, Int.reduceNeg, Int.reduceMul, not_true_eq_false, not_false_eq_true, true_and, and_true, Int.reduceToNat, hMx]
        all_goals
          refine brK_dec (fun hq => ?_) (fun hq => ?_)
          · have hno : memB d.Name (n.Eqs.flatMap DEq.Names) = false := by
              cases hb : memB d.Name (n.Eqs.flatMap DEq.Names) with
              | false => rfl
              | true => exact absurd (by have := hdn.2 hb; omega) hq
            rw [List.all_eq_false.2 ⟨d, List.mem_of_getElem? hd, by simp [hno]⟩, if_neg (by simp)] at hf
            rw [hf, DFault.enc_eq] at hK
            simp only [go_sem, Nat.reduceAdd, Nat.reduceSub, Nat.reduceMul, Nat.reduceLT, Nat.reduceLeDiff, Nat.reduceEqDiff, Nat.reduceBEq, Nat.reduceBNe, Nat.reducePow, Int.reduceEq, Int.reduceNe, Int.reduceLT, Int.reduceLE, Int.reduceGT, Int.reduceGE, Int.reduceAdd, Int.reduceSub, Int.reduceNeg, Int.reduceMul, not_true_eq_false, not_false_eq_true, true_and, and_true, Int.reduceToNat]
            exact ⟨[.agg [.i (j : Int), .i (-1), .i 5]], by simp only [go_sem, Nat.reduceAdd, Nat.reduceSub, Nat.reduceMul, Nat.reduceLT, Nat.reduceLeDiff, Nat.reduceEqDiff, Nat.reduceBEq, Nat.reduceBNe, Nat.reducePow, Int.reduceEq, Int.reduceNe, Int.reduceLT, Int.reduceLE, Int.reduceGT, Int.reduceGE, Int.reduceAdd, Int.reduceSub, Int.reduceNeg, Int.reduceMul, not_true_eq_false, not_false_eq_true, true_and, and_true, Int.reduceToNat], _, .refl _, hK _ _ _⟩
          · have hyes : memB d.Name (n.Eqs.flatMap DEq.Names) = true := hdn.1 (by omega)
            simp only [go_sem, Nat.reduceAdd, Nat.reduceSub, Nat.reduceMul, Nat.reduceLT, Nat.reduceLeDiff, Nat.reduceEqDiff, Nat.reduceBEq, Nat.reduceBNe, Nat.reducePow, Int.reduceEq, Int.reduceNe, Int.reduceLT, Int.reduceLE, Int.reduceGT, Int.reduceGE, Int.reduceAdd, Int.reduceSub, Int.reduceNeg, Int.reduceMul, not_true_eq_false, not_false_eq_true, true_and, and_true, Int.reduceToNat]
            exact loopFrX _ (by omega) _ ⟨i2 + 1, by omega, rfl, take_all hp2 (by simpa using hd) hyes, rfl⟩ (.next rfl (by omega) .nil) rfl (by first | rfl | (simp only [List.append_assoc, List.cons_append, List.nil_append]; rfl))
      · rw [List.all_eq_true.2 (take_full hp2 (by omega)), if_pos rfl] at hf
        rw [hf, DFault.enc_eq] at hK
        simp only [go_sem, Nat.reduceAdd, Nat.reduceSub, Nat.reduceMul, Nat.reduceLT, Nat.reduceLeDiff, Nat.reduceEqDiff, Nat.reduceBEq, Nat.reduceBNe, Nat.reducePow, Int.reduceEq, Int.reduceNe, Int.reduceLT, Int.reduceLE, Int.reduceGT, Int.reduceGE, Int.reduceAdd, Int.reduceSub, Int.reduceNeg, Int.reduceMul, not_true_eq_false, not_false_eq_true, true_and, and_true, Int.reduceToNat]
        exact ⟨[.agg [.i 0, .i 0, .i 0]], by simp only [go_sem, Nat.reduceAdd, Nat.reduceSub, Nat.reduceMul, Nat.reduceLT, Nat.reduceLeDiff, Nat.reduceEqDiff, Nat.reduceBEq, Nat.reduceBNe, Nat.reducePow, Int.reduceEq, Int.reduceNe, Int.reduceLT, Int.reduceLE, Int.reduceGT, Int.reduceGE, Int.reduceAdd, Int.reduceSub, Int.reduceNeg, Int.reduceMul, not_true_eq_false, not_false_eq_true, true_and, and_true, Int.reduceToNat], _, .refl _, hK _ _ _⟩
end
end Go.Proofs.YtipcmpkihhfhcaaGreatDoor
