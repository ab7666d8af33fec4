import Derived.Test.YtipcmpkihhfhcaaFits1
import Derived.Test.YtipcmpkihhfhcaaSame1
import Derived.Test.YtipcmpkihhfhcaaAbsT
namespace Go.Proofs.Ytipcmpkihhfhcaa
open Go.Abs
set_option maxRecDepth 20000
set_option linter.unusedSimpArgs false
set_option linter.unusedVariables false
set_option maxHeartbeats 1000000
attribute [local irreducible] vc vcOps vcStep vcGuard prK hrK gK gsK brK callK ElemK SeqK BlockK ScopeK OpsK CallK LoopK LoopGo finPost ACall PCall PCallE BCall vqOps vqStep vqGuard qrK heK pcK gqK gqsK QOpsK qcallK DrawK
theorem n11 : (Try.f11.name == "runtime.NumGoroutine") = false := by kernel_rfl
theorem sameCs (l m : List DCond) : PCall Try.prog 11 [.lst 2 (l.map (DCond.enc)) none, .lst 2 (m.map (DCond.enc)) none] (.b (eqB l m)) := by
  refine pcall_of_vc tabOK Try.func11 n11 rfl (by repeat' first | exact pure_nil | refine pure_cons ?_ ?_ | exact .raw _ | exact pure_enc _ | exact pure_lst _ | exact pure_strs _ | exact pure_ints _ | exact DTy.pure _ | exact DTy.pures _ | exact DEnum.pure _ | exact DEnum.pures _ | exact DDecl.pure _ | exact DDecl.pures _ | exact DEq.pure _ | exact DEq.pures _ | exact DNode.pure _ | exact DNode.pures _ | exact DProg.pure _ | exact DProg.pures _ | exact DCond.pure _ | exact DCond.pures _ | exact DAtom.pure _ | exact DAtom.pures _ | exact DPlain.pure _ | exact DPlain.pures _ | exact DVar.pure _ | exact DVar.pures _ | exact DFlow.pure _ | exact DFlow.pures _ | exact DFlows.pure _ | exact DFlows.pures _ | exact DAsked.pure _ | exact DAsked.pures _ | exact DFault.pure _ | exact DFault.pures _ | exact DCell.pure _ | exact DCell.pures _ | exact DReply.pure _ | exact DReply.pures _ | exact DAsk.pure _ | exact DAsk.pures _ | exact DOp.pure _ | exact DOp.pures _ | exact pure_list (fun x => DDecl.pures x) _ | exact .fn _ _ _ pure_nil pure_nil | refine .agg _ ?_ | refine .tup _ ?_ | assumption) (by repeat' first | exact pure_nil | refine pure_cons ?_ ?_ | exact .raw _ | exact pure_enc _ | exact pure_lst _ | exact pure_strs _ | exact pure_ints _ | exact DTy.pure _ | exact DTy.pures _ | exact DEnum.pure _ | exact DEnum.pures _ | exact DDecl.pure _ | exact DDecl.pures _ | exact DEq.pure _ | exact DEq.pures _ | exact DNode.pure _ | exact DNode.pures _ | exact DProg.pure _ | exact DProg.pures _ | exact DCond.pure _ | exact DCond.pures _ | exact DAtom.pure _ | exact DAtom.pures _ | exact DPlain.pure _ | exact DPlain.pures _ | exact DVar.pure _ | exact DVar.pures _ | exact DFlow.pure _ | exact DFlow.pures _ | exact DFlows.pure _ | exact DFlows.pures _ | exact DAsked.pure _ | exact DAsked.pures _ | exact DFault.pure _ | exact DFault.pures _ | exact DCell.pure _ | exact DCell.pures _ | exact DReply.pure _ | exact DReply.pures _ | exact DAsk.pure _ | exact DAsk.pures _ | exact DOp.pure _ | exact DOp.pures _ | exact pure_list (fun x => DDecl.pures x) _ | exact .fn _ _ _ pure_nil pure_nil | refine .agg _ ?_ | refine .tup _ ?_ | assumption) (n := 26) rfl (rs := [.tmp 4]) rfl ?_
  repeat' first
    | exact finB rfl
    | exact finI rfl
    | exact finP rfl
    | exact absurd rfl (by assumption)
    | simp only [go_sem, Nat.reduceAdd, Nat.reduceSub, Nat.reduceMul, Nat.reduceLT, Nat.reduceLeDiff, Nat.reduceEqDiff, Nat.reduceBEq, Nat.reduceBNe, Nat.reducePow, Int.reduceEq, Int.reduceNe, Int.reduceLT, Int.reduceLE, Int.reduceGT, Int.reduceGE, Int.reduceAdd, Int.reduceSub, Int.reduceNeg, Int.reduceMul, not_true_eq_false, not_false_eq_true, true_and, and_true, Int.reduceToNat]
    | (intro _)
    | refine brK_dec (fun _ => ?_) (fun _ => ?_)
    | refine brK_any ?_ ?_
    | refine gK_dec (fun _ => ?_) (fun _ => ?_)
    | refine gK_any ?_ ?_
    | refine gqK_dec (fun _ => ?_) (fun _ => ?_)
    | refine ⟨by omega, ?_⟩
    | refine elemHave (by omega) (by assumption) ?_
    | refine elemMap (by omega) (by omega) (fun x hx => ?_)
    | refine drawK mo (by kernel_rfl) ?_
    | (rw [eqB_ne (len_ne (l := l) (m := m) (by omega))]; exact ⟨_, rfl, false, .refl _⟩)
    | (rw [eqB_ne (at_ne (l := l) (m := m) (i := i) (by assumption) (by assumption) (by assumption))]; exact ⟨_, rfl, false, .refl _⟩)
    | (rw [eqB_eq (take_eq_full (l := l) (m := m) (i := i) (by omega) hpi (by omega))]; exact ⟨_, rfl, false, .refl _⟩)
    | exact loopFrH _ (by omega) ⟨i + 1, by omega, rfl, take_eq_step hpi (by assumption) (by assumption) (by assumption), rfl⟩ (.next rfl (by omega) .nil) rfl
    | (refine loop_frH [4, 5, 11, 12, 13, 14, 15, 16, 17, 18, 19, 20, 21, 22, 23, 24, 25] (fun mm_ CC_ => ∃ (i : Nat), i ≤ l.length ∧ mm_ = l.length - i ∧ (l.take i = m.take i) ∧ CC_ = [(5, .raw (.int .i64 ((i : Nat) : Int)))]) (l.length) _ ⟨0, by omega, by omega, rfl, rfl⟩ (.cons rfl .nil) ?_; rintro mm_ CC_ ji ⟨i, hi, rfl, hpi, rfl⟩)

theorem n53 : (Try.f53.name == "runtime.NumGoroutine") = false := by kernel_rfl
theorem equalCs (l m : List DCond) : PCall Try.prog 53 [.lst 2 (l.map (DCond.enc)) none, .lst 2 (m.map (DCond.enc)) none] (.b (eqB l m)) := by
  refine pcall_of_vc tabOK Try.func53 n53 rfl (by repeat' first | exact pure_nil | refine pure_cons ?_ ?_ | exact .raw _ | exact pure_enc _ | exact pure_lst _ | exact pure_strs _ | exact pure_ints _ | exact DTy.pure _ | exact DTy.pures _ | exact DEnum.pure _ | exact DEnum.pures _ | exact DDecl.pure _ | exact DDecl.pures _ | exact DEq.pure _ | exact DEq.pures _ | exact DNode.pure _ | exact DNode.pures _ | exact DProg.pure _ | exact DProg.pures _ | exact DCond.pure _ | exact DCond.pures _ | exact DAtom.pure _ | exact DAtom.pures _ | exact DPlain.pure _ | exact DPlain.pures _ | exact DVar.pure _ | exact DVar.pures _ | exact DFlow.pure _ | exact DFlow.pures _ | exact DFlows.pure _ | exact DFlows.pures _ | exact DAsked.pure _ | exact DAsked.pures _ | exact DFault.pure _ | exact DFault.pures _ | exact DCell.pure _ | exact DCell.pures _ | exact DReply.pure _ | exact DReply.pures _ | exact DAsk.pure _ | exact DAsk.pures _ | exact DOp.pure _ | exact DOp.pures _ | exact pure_list (fun x => DDecl.pures x) _ | exact .fn _ _ _ pure_nil pure_nil | refine .agg _ ?_ | refine .tup _ ?_ | assumption) (by repeat' first | exact pure_nil | refine pure_cons ?_ ?_ | exact .raw _ | exact pure_enc _ | exact pure_lst _ | exact pure_strs _ | exact pure_ints _ | exact DTy.pure _ | exact DTy.pures _ | exact DEnum.pure _ | exact DEnum.pures _ | exact DDecl.pure _ | exact DDecl.pures _ | exact DEq.pure _ | exact DEq.pures _ | exact DNode.pure _ | exact DNode.pures _ | exact DProg.pure _ | exact DProg.pures _ | exact DCond.pure _ | exact DCond.pures _ | exact DAtom.pure _ | exact DAtom.pures _ | exact DPlain.pure _ | exact DPlain.pures _ | exact DVar.pure _ | exact DVar.pures _ | exact DFlow.pure _ | exact DFlow.pures _ | exact DFlows.pure _ | exact DFlows.pures _ | exact DAsked.pure _ | exact DAsked.pures _ | exact DFault.pure _ | exact DFault.pures _ | exact DCell.pure _ | exact DCell.pures _ | exact DReply.pure _ | exact DReply.pures _ | exact DAsk.pure _ | exact DAsk.pures _ | exact DOp.pure _ | exact DOp.pures _ | exact pure_list (fun x => DDecl.pures x) _ | exact .fn _ _ _ pure_nil pure_nil | refine .agg _ ?_ | refine .tup _ ?_ | assumption) (n := 26) rfl (rs := [.tmp 4]) rfl ?_
  repeat' first
    | exact finB rfl
    | exact finI rfl
    | exact finP rfl
    | exact absurd rfl (by assumption)
    | simp only [go_sem, Nat.reduceAdd, Nat.reduceSub, Nat.reduceMul, Nat.reduceLT, Nat.reduceLeDiff, Nat.reduceEqDiff, Nat.reduceBEq, Nat.reduceBNe, Nat.reducePow, Int.reduceEq, Int.reduceNe, Int.reduceLT, Int.reduceLE, Int.reduceGT, Int.reduceGE, Int.reduceAdd, Int.reduceSub, Int.reduceNeg, Int.reduceMul, not_true_eq_false, not_false_eq_true, true_and, and_true, Int.reduceToNat]
    | (intro _)
    | refine brK_dec (fun _ => ?_) (fun _ => ?_)
    | refine brK_any ?_ ?_
    | refine gK_dec (fun _ => ?_) (fun _ => ?_)
    | refine gK_any ?_ ?_
    | refine gqK_dec (fun _ => ?_) (fun _ => ?_)
    | refine ⟨by omega, ?_⟩
    | refine elemHave (by omega) (by assumption) ?_
    | refine elemMap (by omega) (by omega) (fun x hx => ?_)
    | refine drawK mo (by kernel_rfl) ?_
    | (rw [eqB_ne (len_ne (l := l) (m := m) (by omega))]; exact ⟨_, rfl, false, .refl _⟩)
    | (rw [eqB_ne (at_ne (l := l) (m := m) (i := i) (by assumption) (by assumption) (by assumption))]; exact ⟨_, rfl, false, .refl _⟩)
    | (rw [eqB_eq (take_eq_full (l := l) (m := m) (i := i) (by omega) hpi (by omega))]; exact ⟨_, rfl, false, .refl _⟩)
    | exact loopFrH _ (by omega) ⟨i + 1, by omega, rfl, take_eq_step hpi (by assumption) (by assumption) (by assumption), rfl⟩ (.next rfl (by omega) .nil) rfl
    | (refine loop_frH [4, 5, 13, 14, 15, 16, 17, 18, 19, 20, 21, 22, 23, 24, 25] (fun mm_ CC_ => ∃ (i : Nat), i ≤ l.length ∧ mm_ = l.length - i ∧ (l.take i = m.take i) ∧ CC_ = [(13, .raw (.int .i64 ((i : Nat) : Int)))]) (l.length) _ ⟨0, by omega, by omega, rfl, rfl⟩ (.cons rfl .nil) ?_; rintro mm_ CC_ ji ⟨i, hi, rfl, hpi, rfl⟩)

mutual
noncomputable def fitsF (R : ByteArray → List DCond × Bool) (L : List DEnum) : Ex → List DCond → Bool
  | .mk k _ m _ a s, on =>
    if k = 1 ∨ k = 2 ∨ k = 4 then true
    else if k = 3 then (R m).2 && eqB (R m).1 on
    else if k = 8 then decide (s.length = 2) && fitsT R L s on
    else if k = 11 then decide (a.length = 1) && decide (s.length = 1) && (R m).2 && armOk L (a.headD ⟨#[]⟩) && eqB on ((R m).1 ++ [condOf L m (a.headD ⟨#[]⟩)]) && fitsL R L s (R m).1
    else if k = 12 then (R m).2 && eqB (R m).1 on && decide (a.length = s.length) && fitsM R L m a s on
    else if k = 17 then false
    else fitsL R L s on
noncomputable def fitsL (R : ByteArray → List DCond × Bool) (L : List DEnum) : List Ex → List DCond → Bool
  | [], _ => true
  | x :: xs, on => fitsF R L x on && fitsL R L xs on
noncomputable def fitsT (R : ByteArray → List DCond × Bool) (L : List DEnum) : List Ex → List DCond → Bool
  | [], _ => true
  | _ :: xs, on => fitsL R L xs on
noncomputable def fitsM (R : ByteArray → List DCond × Bool) (L : List DEnum) (m : ByteArray) : List ByteArray → List Ex → List DCond → Bool
  | _, [], _ => true
  | [], _ :: _, _ => true
  | c :: cs, x :: xs, on => armOk L c && fitsF R L x (on ++ [condOf L m c]) && fitsM R L m cs xs on
end
theorem fitsF_eq (R : ByteArray → List DCond × Bool) (L : List DEnum) (e : Ex) (on : List DCond) : fitsF R L e on =
    if e.kind = 1 ∨ e.kind = 2 ∨ e.kind = 4 then true
    else if e.kind = 3 then (R e.name).2 && eqB (R e.name).1 on
    else if e.kind = 8 then decide (e.subs.length = 2) && fitsL R L (e.subs.drop 1) on
    else if e.kind = 11 then decide (e.arms.length = 1) && decide (e.subs.length = 1) && (R e.name).2 && armOk L (e.arms.headD ⟨#[]⟩) && eqB on ((R e.name).1 ++ [condOf L e.name (e.arms.headD ⟨#[]⟩)]) && fitsL R L e.subs (R e.name).1
    else if e.kind = 12 then (R e.name).2 && eqB (R e.name).1 on && decide (e.arms.length = e.subs.length) && fitsM R L e.name e.arms e.subs on
    else if e.kind = 17 then false
    else fitsL R L e.subs on := by
  cases e with
  | mk k n m o a s =>
    rw [fitsF]
    have : fitsT R L s on = fitsL R L (s.drop 1) on := by cases s <;> simp [fitsT, fitsL]
    rw [this]
    rfl
section
variable {R : ByteArray → List DCond × Bool} {L : List DEnum}
theorem fitsL_all (s : List Ex) (on : List DCond) : fitsL R L s on = s.all (fun x => fitsF R L x on) := by
  induction s with
  | nil => simp [fitsL]
  | cons x s ih => simp [fitsL, ih]
theorem fitsM_yes {m : ByteArray} {on : List DCond} : ∀ {a : List ByteArray} {s : List Ex}, (∀ (i : Nat) c x, a[i]? = some c → s[i]? = some x → armOk L c = true ∧ fitsF R L x (on ++ [condOf L m c]) = true) → fitsM R L m a s on = true
  | _, [], _ => by simp [fitsM]
  | [], _ :: _, _ => by simp [fitsM]
  | c :: cs, x :: xs, h => by
    have h0 := h 0 c x rfl rfl
    rw [fitsM, h0.1, h0.2]
    simp only [Bool.true_and]
    exact fitsM_yes fun i c x hc hx => h (i + 1) c x (by simpa using hc) (by simpa using hx)
theorem fitsM_at {m : ByteArray} {on : List DCond} : ∀ {a : List ByteArray} {s : List Ex} {i : Nat} {c : ByteArray} {x : Ex}, fitsM R L m a s on = true → a[i]? = some c → s[i]? = some x → armOk L c = true ∧ fitsF R L x (on ++ [condOf L m c]) = true
  | _, [], i, _, _, _, _, hx => by simp at hx
  | [], _ :: _, i, _, _, _, hc, _ => by simp at hc
  | c :: cs, x :: xs, 0, c', x', h, hc, hx => by
    simp at hc hx
    subst hc; subst hx
    rw [fitsM] at h
    simp only [Bool.and_eq_true] at h
    exact h.1
  | c :: cs, x :: xs, i + 1, c', x', h, hc, hx => by
    rw [fitsM] at h
    simp only [Bool.and_eq_true] at h
    exact fitsM_at h.2 (by simpa using hc) (by simpa using hx)
theorem fitsM_no {m : ByteArray} {on : List DCond} {a : List ByteArray} {s : List Ex} {i : Nat} {c : ByteArray} {x : Ex} (hc : a[i]? = some c) (hx : s[i]? = some x) (h : armOk L c = false ∨ fitsF R L x (on ++ [condOf L m c]) = false) : fitsM R L m a s on = false := by
  cases hb : fitsM R L m a s on with
  | false => rfl
  | true =>
    have := fitsM_at hb hc hx
    simp_all
end
theorem monoAppI : ∀ (r x : List Blk), MonoH r (r ++ x)
  | [], _ => trivial
  | b :: r, x => ⟨by cases b <;> trivial, monoAppI r x⟩
theorem monoApp (r x : List Blk) : MonoH r (r ++ x) = True := eq_true (monoAppI r x)
theorem monoApp2 : ∀ (r x y : List Blk), MonoH (r ++ x) (r ++ y) = MonoH x y
  | [], _, _ => rfl
  | b :: r, x, y => by
    show ((match b with | .cells _ cs => (match b with | .cells _ cs' => cs = cs' | _ => False) | _ => True) ∧ MonoH (r ++ x) (r ++ y)) = _
    rw [monoApp2 r x y]
    cases b <;> simp
theorem on_split {on : List DCond} {k : Nat} {c : DCond} (hk : on.length = k + 1) (hc : on[k]? = some c) : on = on.take k ++ [c] := by
  obtain ⟨hlt, rfl⟩ := List.getElem?_eq_some_iff.1 hc
  rw [← List.take_succ_eq_append_getElem hlt, List.take_of_length_le (by omega)]
theorem eqB_split {on r : List DCond} {j : Nat} {c d : DCond} (hon : on = on.take j ++ [c]) : eqB on (r ++ [d]) = (eqB r (on.take j) && decide (c = d)) := by
  by_cases h1 : r = on.take j
  · by_cases h2 : c = d
    · rw [eqB_eq (by rw [h1, ← h2]; exact hon), eqB_eq h1]; simp [h2]
    · rw [eqB_ne (fun e => h2 (by rw [hon] at e; exact (List.append_inj' e rfl).2 |> fun q => by simpa using q))]; simp [h2]
  · rw [eqB_ne (fun e => h1 (by rw [hon] at e; exact (List.append_inj' e rfl).1.symm)), eqB_ne h1]; simp
theorem eq_one {α : Type} {l : List α} {x : α} (hl : l.length = 1) (hx : l[0]? = some x) : l = [x] := by
  match l, hl with
  | [y], _ => simp at hx; rw [hx]
theorem size_lt {e x : Ex} (h : x ∈ e.subs) : (parts x).length < (parts e).length := by
  obtain ⟨i, hi, rfl⟩ := List.getElem_of_mem h
  have := parts_le hi
  rw [parts_eq e]
  simp
  omega

theorem n39 : (Try.f39.name == "runtime.NumGoroutine") = false := by kernel_rfl
theorem on129 (p : DProg) (k : Nat) (n : DNode) (hn : p.Nodes[k]? = some n) (hl : (allV n).length ≤ 4294967296) (name : ByteArray) (on : List DCond) :
    PCall Try.prog 39 [placeE p k, .s name, .lst 2 (on.map DCond.enc) none] (.b ((rowN p.Enums n name).2 && eqB (rowN p.Enums n name).1 on)) := by
  refine pcall_of_vc tabOK Try.func39 n39 rfl (pure_cons (pure_place p k) (pure_cons (.raw _) (pure_cons (DCond.pures _) pure_nil))) (.raw _) (n := 21) rfl (rs := [.tmp 6]) rfl ?_
  simp only [go_sem, Nat.reduceAdd, Nat.reduceSub, Nat.reduceMul, Nat.reduceLT, Nat.reduceLeDiff, Nat.reduceEqDiff, Nat.reduceBEq, Nat.reduceBNe, Nat.reducePow, Int.reduceEq, Int.reduceNe, Int.reduceLT, Int.reduceLE, Int.reduceGT, Int.reduceGE, Int.reduceAdd, Int.reduceSub, Int.reduceNeg, Int.reduceMul, not_true_eq_false, not_false_eq_true, true_and, and_true, Int.reduceToNat]
  refine PCall.call (row90 p k n hn name hl) ?_
  generalize rowN p.Enums n name = r
  obtain ⟨r, ok⟩ := r
  cases ok with
  | false =>
    simp only [go_sem, Nat.reduceAdd, Nat.reduceSub, Nat.reduceMul, Nat.reduceLT, Nat.reduceLeDiff, Nat.reduceEqDiff, Nat.reduceBEq, Nat.reduceBNe, Nat.reducePow, Int.reduceEq, Int.reduceNe, Int.reduceLT, Int.reduceLE, Int.reduceGT, Int.reduceGE, Int.reduceAdd, Int.reduceSub, Int.reduceNeg, Int.reduceMul, not_true_eq_false, not_false_eq_true, true_and, and_true, Int.reduceToNat]
    first | exact ⟨_, rfl, false, .refl _⟩ | (refine drawK mo (by kernel_rfl) ?_; simp only [go_sem, Nat.reduceAdd, Nat.reduceSub, Nat.reduceMul, Nat.reduceLT, Nat.reduceLeDiff, Nat.reduceEqDiff, Nat.reduceBEq, Nat.reduceBNe, Nat.reducePow, Int.reduceEq, Int.reduceNe, Int.reduceLT, Int.reduceLE, Int.reduceGT, Int.reduceGE, Int.reduceAdd, Int.reduceSub, Int.reduceNeg, Int.reduceMul, not_true_eq_false, not_false_eq_true, true_and, and_true, Int.reduceToNat]; exact ⟨_, rfl, false, .refl _⟩)
  | true =>
    simp only [go_sem, Nat.reduceAdd, Nat.reduceSub, Nat.reduceMul, Nat.reduceLT, Nat.reduceLeDiff, Nat.reduceEqDiff, Nat.reduceBEq, Nat.reduceBNe, Nat.reducePow, Int.reduceEq, Int.reduceNe, Int.reduceLT, Int.reduceLE, Int.reduceGT, Int.reduceGE, Int.reduceAdd, Int.reduceSub, Int.reduceNeg, Int.reduceMul, not_true_eq_false, not_false_eq_true, true_and, and_true, Int.reduceToNat]
    first | refine PCall.call (equalCs r on) ?_ | (refine drawK mo (by kernel_rfl) ?_; simp only [go_sem, Nat.reduceAdd, Nat.reduceSub, Nat.reduceMul, Nat.reduceLT, Nat.reduceLeDiff, Nat.reduceEqDiff, Nat.reduceBEq, Nat.reduceBNe, Nat.reducePow, Int.reduceEq, Int.reduceNe, Int.reduceLT, Int.reduceLE, Int.reduceGT, Int.reduceGE, Int.reduceAdd, Int.reduceSub, Int.reduceNeg, Int.reduceMul, not_true_eq_false, not_false_eq_true, true_and, and_true, Int.reduceToNat]; refine pcK_of (equalCs r on) ?_)
    simp only [go_sem, Nat.reduceAdd, Nat.reduceSub, Nat.reduceMul, Nat.reduceLT, Nat.reduceLeDiff, Nat.reduceEqDiff, Nat.reduceBEq, Nat.reduceBNe, Nat.reducePow, Int.reduceEq, Int.reduceNe, Int.reduceLT, Int.reduceLE, Int.reduceGT, Int.reduceGE, Int.reduceAdd, Int.reduceSub, Int.reduceNeg, Int.reduceMul, not_true_eq_false, not_false_eq_true, true_and, and_true, Int.reduceToNat]
    exact ⟨_, rfl, false, .refl _⟩

end Go.Proofs.Ytipcmpkihhfhcaa
