import Derived.Test.YtfjjckaiopbbkaaCause2
namespace Go.Proofs.Ytfjjckaiopbbkaa
open Go.Abs
set_option maxRecDepth 20000
set_option linter.unusedSimpArgs false
set_option linter.unusedVariables false
set_option maxHeartbeats 1000000
attribute [local irreducible] vc vcOps vcStep vcGuard prK hrK gK gsK brK callK ElemK SeqK BlockK ScopeK OpsK CallK LoopK LoopGo finPost ACall PCall PCallE BCall vqOps vqStep vqGuard qrK heK pcK gqK gqsK QOpsK qcallK DrawK
abbrev eqB7 (q : DEq) : Blk := .cells 87 [.lst 1 (q.Names.map AV.s) none, .i q.E.kind, .i q.E.n, .s q.E.name, .i q.E.op, .lst 1 (q.E.arms.map AV.s) none, .lst 6 (q.E.subs.map Ex.enc) none]
abbrev leftB : Blk := .cells 124 [.map 3, .map 4]
abbrev zeroL : Blk := .cells 124 [.raw (.map none), .raw (.map none)]
theorem mono_maps {b0 b1 b2 : Blk} {kk kk' : KK} {n n' : Nat} {m m' : Value → Option AV} {l : List Blk} : MonoH (b0 :: b1 :: b2 :: .mp kk n m :: l) (b0 :: b1 :: b2 :: .mp kk' n' m' :: l) := ⟨by cases b0 <;> trivial, by cases b1 <;> trivial, by cases b2 <;> trivial, trivial, MonoH.refl l⟩
theorem n85 : (Try.f85.name == "runtime.NumGoroutine") = false := by kernel_rfl
theorem all85 (f : DNode) (hf : okC f) (b0 : Blk) {K : AV → List Blk → Prop} (hK : ∀ n m1 m2 b2 r, EqM m1 (hangsC f) (List.replicate f.Eqs.length false) → MapN m2 (fun s => opn s (namesC f) (List.replicate f.Eqs.length false)) → K (.agg [.map 3, .map 4]) (b0 :: nodeB2 f :: b2 :: .mp .int f.Eqs.length m1 :: .mp .str n m2 :: r)) :
    ACall Try.prog 85 [f.enc] [b0] K := by
  have hn := hf.1
  have hN := len_namesC f
  have hfl := hf.names
  refine acallK_of_vc tabOK Try.func85 n85 rfl (n := 40) rfl (rs := [.cell 2 124]) rfl ?_
  repeat' first
    | exact finB rfl
    | exact finI rfl
    | exact finP rfl
    | exact absurd rfl (by assumption)
    | simp only [go_sem, Nat.reduceAdd, Nat.reduceSub, Nat.reduceMul, Nat.reduceLT, Nat.reduceLeDiff, Nat.reduceEqDiff, Nat.reduceBEq, Nat.reduceBNe, Nat.reducePow, Int.reduceEq, Int.reduceNe, Int.reduceLT, Int.reduceLE, Int.reduceGT, Int.reduceGE, Int.reduceAdd, Int.reduceSub, Int.reduceNeg, Int.reduceMul, not_true_eq_false, not_false_eq_true, true_and, and_true, Int.reduceToNat]
    | (intro _)
    | refine brK_dec (fun _ => ?_) (fun _ => ?_)
    | refine brK_any ?_ ?_
    | refine gK_dec (fun _ => ?_) (fun _ => ?_)
    | refine gK_any ?_ ?_
    | refine gqK_dec (fun _ => ?_) (fun _ => ?_)
    | refine ⟨by omega, ?_⟩
    | refine elemHave (by omega) (by assumption) ?_
    | ((fail_if_success (clear hq)); refine elemMap (by omega) (by omega) (fun q hq => ?_))
    | refine elemMap (by omega) (by omega) (fun x hx => ?_)
    | refine drawK mo (by kernel_rfl) ?_
    | (simp only [go_sem, Nat.reduceAdd, Nat.reduceSub, Nat.reduceMul, Nat.reduceLT, Nat.reduceLeDiff, Nat.reduceEqDiff, Nat.reduceBEq, Nat.reduceBNe, Nat.reducePow, Int.reduceEq, Int.reduceNe, Int.reduceLT, Int.reduceLE, Int.reduceGT, Int.reduceGE, Int.reduceAdd, Int.reduceSub, Int.reduceNeg, Int.reduceMul, not_true_eq_false, not_false_eq_true, true_and, and_true, Int.reduceToNat, hpj.at _])
    | ((fail_if_success (clear hh)); have hh : (hangsC f)[i]? = some (hangsF f q) := map_some (by simpa using hq))
    | (refine pcK_of (hangs123 f q (hf.hang (by simpa using hq))) ?_)
    | (refine ⟨mono_maps, ?_⟩)
    | (simp only [hpi.1.more])
    | (have e9 : i = f.Eqs.length := (by omega); subst e9; exact ⟨_, rfl, _, .refl _, hK _ _ _ _ _ hpi.1 (hpi.2.cast fun s => by rw [cnt_all (by rw [hN]; exact Nat.le_refl _), hN])⟩)
    | exact loopFr _ (by omega) ⟨i + 1, _, _, _, (), _, by omega, rfl, ⟨hpi.1.put hh, hpj.cast fun s => cnt_step (map_some hq) (by omega) s⟩, rfl, (by first | rfl | (simp; done) | (simp; rfl))⟩ (.next rfl (by omega) .nil) rfl
    | (refine loop_fr [4, 5, 7, 14, 15, 16, 17, 18, 19, 20, 21, 22, 23, 24, 25, 26, 27, 28, 29, 30, 31, 32, 33, 34, 35, 36, 37, 38] (fun mm_ CC_ hh_ => ∃ (i : Nat) (n : Nat) (m1 : Value → Option AV) (m2 : Value → Option AV) (u9 : Unit) (r_ : List Blk), i ≤ f.Eqs.length ∧ mm_ = f.Eqs.length - i ∧ ((EqM m1 (hangsC f) (List.replicate i false) ∧ MapN m2 (fun s => cntL s ((namesC f).take i).flatten))) ∧ CC_ = [(14, .raw (.int .i64 ((i : Nat) : Int)))] ∧ hh_ = b0 :: nodeB2 f :: zeroL :: .mp .int i m1 :: .mp .str n m2 :: leftB :: r_) (f.Eqs.length) _ ⟨0, _, _, _, (), _, by omega, by omega, ⟨EqM.nil, MapN.nil⟩, rfl, (by first | rfl | (simp; done) | (simp; rfl))⟩ (.cons (by first | rfl | (simp; done) | (simp; rfl)) .nil) ?_; rintro mm_ CC_ ji hh_ ⟨i, n, m1, m2, u9, ri, hi, rfl, hpi, rfl, rfl⟩)
    | exact loopFr _ (by omega) ⟨j + 1, _, _, _, by omega, rfl, hpj.upW (by assumption) (Nat.le_trans (cnt_bnd (map_some hq) _ _) (Nat.le_trans hfl (by omega))), rfl, (by first | rfl | (simp; done) | (simp; rfl))⟩ (.next rfl (by omega) .nil) rfl
    | (refine loop_fr [7, 28, 29, 30, 31, 32, 33, 34, 35, 36, 37] (fun mm_ CC_ hh_ => ∃ (j : Nat) (n : Nat) (m : Value → Option AV) (r_ : List Blk), j ≤ q.Names.length ∧ mm_ = q.Names.length - j ∧ (MapN m (fun s => cntL s ((namesC f).take i).flatten + cntL s (q.Names.take j))) ∧ CC_ = [(28, .raw (.int .i64 ((j : Nat) : Int)))] ∧ hh_ = b0 :: nodeB2 f :: zeroL :: .mp .int (i + 1) (mput m1 (.int .i64 (i : Int)) (.lst 1 ((hangsF f q).map AV.s) none)) :: .mp .str n m :: leftB :: r_) (q.Names.length) _ ⟨0, _, _, _, by omega, by omega, hpi.2.cast fun s => by simp [cntL], rfl, (by first | rfl | (simp; done) | (simp; rfl))⟩ (.cons (by first | rfl | (simp; done) | (simp; rfl)) .nil) ?_; rintro mm_ CC_ jj hh_ ⟨j, n, m, rj, hj, rfl, hpj, rfl, rfl⟩)

theorem n124 : (Try.f124.name == "runtime.NumGoroutine") = false := by kernel_rfl
theorem n86 : (Try.f86.name == "runtime.NumGoroutine") = false := by kernel_rfl
theorem ready86 (f : DNode) (pl : List Bool) (i : Nat) (q : DEq) (hq : f.Eqs[i]? = some q) (hl : i < pl.length) (b0 b1 b2 : Blk) (n1 n2 : Nat) (m1 m2 : Value → Option AV) (h1 : EqM m1 (hangsC f) pl) (h2 : MapN m2 (fun s => opn s (namesC f) pl)) (r : List Blk) {K : AV → List Blk → Prop}
    (hK : K (.b (readyF (namesC f) (hangsC f) pl i)) (b0 :: b1 :: b2 :: .mp .int n1 m1 :: .mp .str n2 m2 :: r)) : ACall Try.prog 86 [.agg [.map 3, .map 4], .i (i : Int)] (b0 :: b1 :: b2 :: .mp .int n1 m1 :: .mp .str n2 m2 :: r) K := by
  have hpx : pl[i]? = some pl[i] := List.getElem?_eq_getElem hl
  have hh : (hangsC f)[i]? = some (hangsF f q) := map_some hq
  generalize pl[i] = b at hpx
  refine acall_of_vc tabOK Try.func86 n86 rfl (n := 21) rfl (rs := [.tmp 4]) rfl ?_
  simp only [go_sem, Nat.reduceAdd, Nat.reduceSub, Nat.reduceMul, Nat.reduceLT, Nat.reduceLeDiff, Nat.reduceEqDiff, Nat.reduceBEq, Nat.reduceBNe, Nat.reducePow, Int.reduceEq, Int.reduceNe, Int.reduceLT, Int.reduceLE, Int.reduceGT, Int.reduceGE, Int.reduceAdd, Int.reduceSub, Int.reduceNeg, Int.reduceMul, not_true_eq_false, not_false_eq_true, true_and, and_true, Int.reduceToNat, at_app0]
  cases b
  · simp only [go_sem, Nat.reduceAdd, Nat.reduceSub, Nat.reduceMul, Nat.reduceLT, Nat.reduceLeDiff, Nat.reduceEqDiff, Nat.reduceBEq, Nat.reduceBNe, Nat.reducePow, Int.reduceEq, Int.reduceNe, Int.reduceLT, Int.reduceLE, Int.reduceGT, Int.reduceGE, Int.reduceAdd, Int.reduceSub, Int.reduceNeg, Int.reduceMul, not_true_eq_false, not_false_eq_true, true_and, and_true, Int.reduceToNat, h1.at hpx hh, orZ, Option.isSome_some]
    refine contains106 (p := fun s => decide (((opn s (namesC f) pl : Nat) : Int) > 0)) (fun x hx K hK => ?_) ?_
    · refine acall_of_vc tabOK Try.func124 n124 rfl (n := 9) rfl (rs := [.tmp 3]) rfl ?_
      simp only [go_sem, Nat.reduceAdd, Nat.reduceSub, Nat.reduceMul, Nat.reduceLT, Nat.reduceLeDiff, Nat.reduceEqDiff, Nat.reduceBEq, Nat.reduceBNe, Nat.reducePow, Int.reduceEq, Int.reduceNe, Int.reduceLT, Int.reduceLE, Int.reduceGT, Int.reduceGE, Int.reduceAdd, Int.reduceSub, Int.reduceNeg, Int.reduceMul, not_true_eq_false, not_false_eq_true, true_and, and_true, Int.reduceToNat, at_app0, at_app, h2.at _]
      exact finH1 rfl (.raw _) hK
    · simp only [any_waits]
      generalize hw : ((hangsF f q).any fun s => waitsF (namesC f) pl s) = w
      rw [ready_any hpx hh hw] at hK
      cases w
      · simp only [go_sem, Nat.reduceAdd, Nat.reduceSub, Nat.reduceMul, Nat.reduceLT, Nat.reduceLeDiff, Nat.reduceEqDiff, Nat.reduceBEq, Nat.reduceBNe, Nat.reducePow, Int.reduceEq, Int.reduceNe, Int.reduceLT, Int.reduceLE, Int.reduceGT, Int.reduceGE, Int.reduceAdd, Int.reduceSub, Int.reduceNeg, Int.reduceMul, not_true_eq_false, not_false_eq_true, true_and, and_true, Int.reduceToNat, at_app0, at_app]
        exact finH0 (h := b0 :: b1 :: b2 :: .mp .int n1 m1 :: .mp .str n2 m2 :: r) _ rfl (.raw _) hK
      · simp only [go_sem, Nat.reduceAdd, Nat.reduceSub, Nat.reduceMul, Nat.reduceLT, Nat.reduceLeDiff, Nat.reduceEqDiff, Nat.reduceBEq, Nat.reduceBNe, Nat.reducePow, Int.reduceEq, Int.reduceNe, Int.reduceLT, Int.reduceLE, Int.reduceGT, Int.reduceGE, Int.reduceAdd, Int.reduceSub, Int.reduceNeg, Int.reduceMul, not_true_eq_false, not_false_eq_true, true_and, and_true, Int.reduceToNat, at_app0, at_app]
        exact finH0 (h := b0 :: b1 :: b2 :: .mp .int n1 m1 :: .mp .str n2 m2 :: r) _ rfl (.raw _) hK
  · rw [ready_not hpx] at hK
    simp only [go_sem, Nat.reduceAdd, Nat.reduceSub, Nat.reduceMul, Nat.reduceLT, Nat.reduceLeDiff, Nat.reduceEqDiff, Nat.reduceBEq, Nat.reduceBNe, Nat.reducePow, Int.reduceEq, Int.reduceNe, Int.reduceLT, Int.reduceLE, Int.reduceGT, Int.reduceGE, Int.reduceAdd, Int.reduceSub, Int.reduceNeg, Int.reduceMul, not_true_eq_false, not_false_eq_true, true_and, and_true, Int.reduceToNat, h1.no hpx, orZ, Option.isSome_none]
    exact finH0 (h := b0 :: b1 :: b2 :: .mp .int n1 m1 :: .mp .str n2 m2 :: r) _ rfl (.raw _) hK

theorem take_endC {g b : ByteArray → Nat} {l : List ByteArray} {i : Nat} (h : ∀ s, g s + cntL s (l.take i) = b s) (hi : ¬ (i : Int) < l.length) : ∀ s, g s + cntL s l = b s := by
  intro s
  have := h s
  rw [List.take_of_length_le (by omega)] at this
  exact this
theorem n87 : (Try.f87.name == "runtime.NumGoroutine") = false := by kernel_rfl
theorem place87 (q : DEq) (k : Nat) (b0 b1 b2 : Blk) (n1 n2 : Nat) (m1 m2 : Value → Option AV) (g : ByteArray → Nat) (hm : MapN m2 g) (hg : ∀ s, cntL s q.Names ≤ g s) (hn : ∀ s, g s ≤ 1000000) (r : List Blk) {K : AV → List Blk → Prop}
    (hK : ∀ n' m' g' r', MapN m' g' → (∀ s, g' s + cntL s q.Names = g s) → K (.tup []) (b0 :: b1 :: b2 :: .mp .int (less (m1 (.int .i64 (k : Int))) n1) (mcut m1 (.int .i64 (k : Int))) :: .mp .str n' m' :: (r ++ r'))) :
    ACall Try.prog 87 [.agg [.map 3, .map 4], .i (k : Int), q.enc] (b0 :: b1 :: b2 :: .mp .int n1 m1 :: .mp .str n2 m2 :: r) K := by
  refine acallK_of_vc tabOK Try.func87 n87 rfl (n := 24) rfl (rs := []) rfl ?_
  repeat' first
    | exact finB rfl
    | exact finI rfl
    | exact finP rfl
    | exact absurd rfl (by assumption)
    | simp only [go_sem, Nat.reduceAdd, Nat.reduceSub, Nat.reduceMul, Nat.reduceLT, Nat.reduceLeDiff, Nat.reduceEqDiff, Nat.reduceBEq, Nat.reduceBNe, Nat.reducePow, Int.reduceEq, Int.reduceNe, Int.reduceLT, Int.reduceLE, Int.reduceGT, Int.reduceGE, Int.reduceAdd, Int.reduceSub, Int.reduceNeg, Int.reduceMul, not_true_eq_false, not_false_eq_true, true_and, and_true, Int.reduceToNat]
    | (intro _)
    | refine brK_dec (fun _ => ?_) (fun _ => ?_)
    | refine brK_any ?_ ?_
    | refine gK_dec (fun _ => ?_) (fun _ => ?_)
    | refine gK_any ?_ ?_
    | refine gqK_dec (fun _ => ?_) (fun _ => ?_)
    | refine ⟨by omega, ?_⟩
    | refine elemHave (by omega) (by assumption) ?_
    | refine elemMap (by omega) (by omega) (fun x hx => ?_)
    | refine drawK mo (by kernel_rfl) ?_
    | (simp only [go_sem, Nat.reduceAdd, Nat.reduceSub, Nat.reduceMul, Nat.reduceLT, Nat.reduceLeDiff, Nat.reduceEqDiff, Nat.reduceBEq, Nat.reduceBNe, Nat.reducePow, Int.reduceEq, Int.reduceNe, Int.reduceLT, Int.reduceLE, Int.reduceGT, Int.reduceGE, Int.reduceAdd, Int.reduceSub, Int.reduceNeg, Int.reduceMul, not_true_eq_false, not_false_eq_true, true_and, and_true, Int.reduceToNat, at_app0, at_app])
    | ((fail_if_success (clear h9)); obtain ⟨g9, h9, hs9⟩ := hpi)
    | (simp only [go_sem, Nat.reduceAdd, Nat.reduceSub, Nat.reduceMul, Nat.reduceLT, Nat.reduceLeDiff, Nat.reduceEqDiff, Nat.reduceBEq, Nat.reduceBNe, Nat.reducePow, Int.reduceEq, Int.reduceNe, Int.reduceLT, Int.reduceLE, Int.reduceGT, Int.reduceGE, Int.reduceAdd, Int.reduceSub, Int.reduceNeg, Int.reduceMul, not_true_eq_false, not_false_eq_true, true_and, and_true, Int.reduceToNat, at_app0, at_app, h9.at _])
    | (exact ⟨[], rfl, .tup [], .refl _, hK _ _ g9 _ h9 (take_endC hs9 (by assumption))⟩)
    | exact loopFr _ (by omega) ⟨i + 1, _, _, _, by omega, rfl, h9.downW hs9 hg (by assumption) (hn _), rfl, (by first | rfl | (simp; done) | (simp; rfl))⟩ (.next rfl (by omega) .nil) rfl
    | (refine loop_fr [7, 14, 15, 16, 17, 18, 19, 20, 21, 22, 23] (fun mm_ CC_ hh_ => ∃ (i : Nat) (n9 : Nat) (m9 : Value → Option AV) (r_ : List Blk), i ≤ q.Names.length ∧ mm_ = q.Names.length - i ∧ ((∃ g9, MapN m9 g9 ∧ ∀ s, g9 s + cntL s (q.Names.take i) = g s)) ∧ CC_ = [(14, .raw (.int .i64 ((i : Nat) : Int)))] ∧ hh_ = b0 :: b1 :: b2 :: .mp .int (less (m1 (.int .i64 (k : Int))) n1) (mcut m1 (.int .i64 (k : Int))) :: .mp .str n9 m9 :: (r ++ leftB :: r_)) (q.Names.length) _ ⟨0, _, _, _, by omega, by omega, ⟨g, hm, fun s => by simp [cntL]⟩, rfl, (by first | rfl | (simp; done) | (simp; rfl))⟩ (.cons (by first | rfl | (simp; done) | (simp; rfl)) .nil) ?_; rintro mm_ CC_ ji hh_ ⟨i, n9, m9, ri, hi, rfl, hpi, rfl, rfl⟩)
end Go.Proofs.Ytfjjckaiopbbkaa
