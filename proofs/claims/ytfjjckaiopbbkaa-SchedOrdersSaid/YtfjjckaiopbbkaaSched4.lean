import Derived.Test.YtfjjckaiopbbkaaSched3
import Derived.Test.YtfjjckaiopbbkaaAbsT
namespace Go.Proofs.Ytfjjckaiopbbkaa
open Go.Abs
set_option maxRecDepth 20000
set_option linter.unusedSimpArgs false
set_option linter.unusedVariables false
set_option maxHeartbeats 1000000
attribute [local irreducible] vc vcOps vcStep vcGuard prK hrK gK gsK brK callK ElemK SeqK BlockK ScopeK OpsK CallK LoopK LoopGo finPost ACall PCall PCallE BCall vqOps vqStep vqGuard qrK heK pcK gqK gqsK QOpsK qcallK DrawK
abbrev flowB (f : DFlow) : Blk := .cells 54 [.s f.Name, .lst 5 (f.Ins.map DVar.enc) none, .lst 5 (f.Outs.map DVar.enc) none, .lst 5 (f.Vars.map DVar.enc) none, .lst 10 (f.Eqs.map DPlain.enc) none]
theorem n68 : (Try.f68.name == "runtime.NumGoroutine") = false := by kernel_rfl
theorem of68 (f : DFlow) (hl : (namesP f).flatten.length ≤ 100000) (b0 : Blk) {K : AV → List Blk → Prop} (hK : ∀ n m r, MapN m (fun s => opn s (namesP f) (List.replicate (namesP f).length false)) → K (.map 2) (b0 :: flowB f :: .mp .str n m :: r)) :
    ACall Try.prog 68 [f.enc] [b0] K := by
  refine acallK_of_vc tabOK Try.func68 n68 rfl (n := 30) rfl (rs := [.tmp 2]) rfl ?_
  repeat' first
    | exact finB rfl
    | exact finI rfl
    | exact finP rfl
    | exact absurd rfl (by assumption)
    | simp only [go_sem, Nat.reduceAdd, Nat.reduceSub, Nat.reduceMul, Nat.reduceLT, Nat.reduceLeDiff, Nat.reduceEqDiff, Nat.reduceBEq, Nat.reduceBNe, Nat.reducePow, Int.reduceEq, Int.reduceNe, Int.reduceLT, Int.reduceLE, Int.reduceGT, Int.reduceGE, Int.reduceAdd, Int.reduceSub, Int.reduceNeg, Int.reduceMul, not_true_eq_false, not_false_eq_true, true_and, and_true, Int.reduceToNat]
    | (intro _)
    | refine brK_dec (fun _ => ?_) (fun _ => ?_)
    | refine brK_any ?_ ?_
    | refine gK_dec (fun _ => ?_) (fun _ => ?_)
    | refine gK_any ?_ ?_
    | refine gqK_dec (fun _ => ?_) (fun _ => ?_)
    | refine ⟨by omega, ?_⟩
    | refine elemHave (by omega) (by assumption) ?_
    | ((fail_if_success (clear hq)); refine elemMap (by omega) (by omega) (fun q hq => ?_))
    | refine elemMap (by omega) (by omega) (fun x hx => ?_)
    | refine drawK mo (by kernel_rfl) ?_
    | (refine finK rfl (hK _ _ _ (hpi.cast fun s => cnt_all (by rw [List.length_map]; omega) s)))
    | (simp only [go_sem, Nat.reduceAdd, Nat.reduceSub, Nat.reduceMul, Nat.reduceLT, Nat.reduceLeDiff, Nat.reduceEqDiff, Nat.reduceBEq, Nat.reduceBNe, Nat.reducePow, Int.reduceEq, Int.reduceNe, Int.reduceLT, Int.reduceLE, Int.reduceGT, Int.reduceGE, Int.reduceAdd, Int.reduceSub, Int.reduceNeg, Int.reduceMul, not_true_eq_false, not_false_eq_true, true_and, and_true, Int.reduceToNat, hpj.at _])
    | exact loopFr _ (by omega) ⟨i + 1, _, _, _, by omega, rfl, hpj.cast fun s => cnt_step (map_some hq) (by omega) s, rfl, (by first | rfl | (simp; done) | (simp; rfl))⟩ (.next rfl (by omega) .nil) rfl
    | (refine loop_fr [5, 7, 12, 13, 14, 15, 16, 17, 18, 19, 20, 21, 22, 23, 24, 25, 26, 27, 28] (fun mm_ CC_ hh_ => ∃ (i : Nat) (n : Nat) (m : Value → Option AV) (r_ : List Blk), i ≤ f.Eqs.length ∧ mm_ = f.Eqs.length - i ∧ (MapN m (fun s => cntL s ((namesP f).take i).flatten)) ∧ CC_ = [(12, .raw (.int .i64 ((i : Nat) : Int)))] ∧ hh_ = b0 :: flowB f :: .mp .str n m :: r_) (f.Eqs.length) _ ⟨0, _, _, _, by omega, by omega, MapN.nil, rfl, (by first | rfl | (simp; done) | (simp; rfl))⟩ (.cons (by first | rfl | (simp; done) | (simp; rfl)) .nil) ?_; rintro mm_ CC_ ji hh_ ⟨i, n, m, ri, hi, rfl, hpi, rfl, rfl⟩)
    | exact loopFr _ (by omega) ⟨j + 1, _, _, _, by omega, rfl, hpj.upW (by assumption) (Nat.le_trans (cnt_bnd (map_some hq) _ _) (Nat.le_trans hl (by omega))), rfl, (by first | rfl | (simp; done) | (simp; rfl))⟩ (.next rfl (by omega) .nil) rfl
    | (refine loop_fr [7, 19, 20, 21, 22, 23, 24, 25, 26, 27] (fun mm_ CC_ hh_ => ∃ (j : Nat) (n : Nat) (m : Value → Option AV) (r_ : List Blk), j ≤ q.Names.length ∧ mm_ = q.Names.length - j ∧ (MapN m (fun s => cntL s ((namesP f).take i).flatten + cntL s (q.Names.take j))) ∧ CC_ = [(19, .raw (.int .i64 ((j : Nat) : Int)))] ∧ hh_ = b0 :: flowB f :: .mp .str n m :: r_) (q.Names.length) _ ⟨0, _, _, _, by omega, by omega, hpi.cast fun s => by simp [cntL], rfl, (by first | rfl | (simp; done) | (simp; rfl))⟩ (.cons (by first | rfl | (simp; done) | (simp; rfl)) .nil) ?_; rintro mm_ CC_ jj hh_ ⟨j, n, m, rj, hj, rfl, hpj, rfl, rfl⟩)

theorem n106 : (Try.f106.name == "runtime.NumGoroutine") = false := by kernel_rfl
theorem contains106 {l : List ByteArray} {p : ByteArray → Bool} {g : Nat} {first capt : List AV} {h : List Blk} {K : AV → List Blk → Prop} (hp : ∀ x ∈ l, ∀ K : AV → List Blk → Prop, K (.b (p x)) h → ACall Try.prog g (first ++ AV.s x :: capt) h K)
    (hK : K (.b (l.any p)) h) : ACall Try.prog 106 [.lst 1 (l.map AV.s) none, .fn (.func g) first capt] h K := by
  refine acall_of_vc tabOK Try.func106 n106 rfl (n := 9) rfl (rs := [.tmp 4]) rfl ?_
  simp only [go_sem, Nat.reduceAdd, Nat.reduceSub, Nat.reduceMul, Nat.reduceLT, Nat.reduceLeDiff, Nat.reduceEqDiff, Nat.reduceBEq, Nat.reduceBNe, Nat.reducePow, Int.reduceEq, Int.reduceNe, Int.reduceLT, Int.reduceLE, Int.reduceGT, Int.reduceGE, Int.reduceAdd, Int.reduceSub, Int.reduceNeg, Int.reduceMul, not_true_eq_false, not_false_eq_true, true_and, and_true, Int.reduceToNat]
  refine indexStr hp ?_
  simp only [go_sem, Nat.reduceAdd, Nat.reduceSub, Nat.reduceMul, Nat.reduceLT, Nat.reduceLeDiff, Nat.reduceEqDiff, Nat.reduceBEq, Nat.reduceBNe, Nat.reducePow, Int.reduceEq, Int.reduceNe, Int.reduceLT, Int.reduceLE, Int.reduceGT, Int.reduceGE, Int.reduceAdd, Int.reduceSub, Int.reduceNeg, Int.reduceMul, not_true_eq_false, not_false_eq_true, true_and, and_true, Int.reduceToNat]
  rw [idx_any]
  exact finH1 rfl (.raw _) hK

theorem n108 : (Try.f108.name == "runtime.NumGoroutine") = false := by kernel_rfl
theorem n69 : (Try.f69.name == "runtime.NumGoroutine") = false := by kernel_rfl
theorem ready69 (q : DPlain) (hl : q.Args.length + q.On.length ≤ 100000) (b0 b1 : Blk) (n : Nat) (m : Value → Option AV) (g : ByteArray → Nat) (hm : MapN m g) (r : List Blk) {K : AV → List Blk → Prop} (hK : K (.b (!(readsP q).any fun s => decide ((g s : Int) > 0))) (b0 :: b1 :: .mp .str n m :: r)) :
    ACall Try.prog 69 [.map 2, q.enc] (b0 :: b1 :: .mp .str n m :: r) K := by
  refine acall_of_vc tabOK Try.func69 n69 rfl (n := 10) rfl (rs := [.tmp 4]) rfl ?_
  simp only [go_sem, Nat.reduceAdd, Nat.reduceSub, Nat.reduceMul, Nat.reduceLT, Nat.reduceLeDiff, Nat.reduceEqDiff, Nat.reduceBEq, Nat.reduceBNe, Nat.reducePow, Int.reduceEq, Int.reduceNe, Int.reduceLT, Int.reduceLE, Int.reduceGT, Int.reduceGE, Int.reduceAdd, Int.reduceSub, Int.reduceNeg, Int.reduceMul, not_true_eq_false, not_false_eq_true, true_and, and_true, Int.reduceToNat, at_app0]
  refine PCall.call (reads107 q hl) ?_
  simp only [go_sem, Nat.reduceAdd, Nat.reduceSub, Nat.reduceMul, Nat.reduceLT, Nat.reduceLeDiff, Nat.reduceEqDiff, Nat.reduceBEq, Nat.reduceBNe, Nat.reducePow, Int.reduceEq, Int.reduceNe, Int.reduceLT, Int.reduceLE, Int.reduceGT, Int.reduceGE, Int.reduceAdd, Int.reduceSub, Int.reduceNeg, Int.reduceMul, not_true_eq_false, not_false_eq_true, true_and, and_true, Int.reduceToNat, at_app0]
  refine contains106 (p := fun s => decide ((g s : Int) > 0)) (fun x hx K hK => ?_) ?_
  · refine acall_of_vc tabOK Try.func108 n108 rfl (n := 8) rfl (rs := [.tmp 3]) rfl ?_
    simp only [go_sem, Nat.reduceAdd, Nat.reduceSub, Nat.reduceMul, Nat.reduceLT, Nat.reduceLeDiff, Nat.reduceEqDiff, Nat.reduceBEq, Nat.reduceBNe, Nat.reducePow, Int.reduceEq, Int.reduceNe, Int.reduceLT, Int.reduceLE, Int.reduceGT, Int.reduceGE, Int.reduceAdd, Int.reduceSub, Int.reduceNeg, Int.reduceMul, not_true_eq_false, not_false_eq_true, true_and, and_true, Int.reduceToNat, at_app0, at_app, hm.at _]
    exact finH1 rfl (.raw _) hK
  · simp only [go_sem, Nat.reduceAdd, Nat.reduceSub, Nat.reduceMul, Nat.reduceLT, Nat.reduceLeDiff, Nat.reduceEqDiff, Nat.reduceBEq, Nat.reduceBNe, Nat.reducePow, Int.reduceEq, Int.reduceNe, Int.reduceLT, Int.reduceLE, Int.reduceGT, Int.reduceGE, Int.reduceAdd, Int.reduceSub, Int.reduceNeg, Int.reduceMul, not_true_eq_false, not_false_eq_true, true_and, and_true, Int.reduceToNat, at_app0, at_app]
    exact finH0 (h := b0 :: b1 :: .mp .str n m :: r) _ rfl (.raw _) hK

theorem take_end {g b : ByteArray → Nat} {l : List ByteArray} {i : Nat} (h : ∀ s, g s + cntL s (l.take i) = b s) (hi : ¬ (i : Int) < l.length) : ∀ s, g s + cntL s l = b s := by
  intro s
  have := h s
  rw [List.take_of_length_le (by omega)] at this
  exact this
theorem n70 : (Try.f70.name == "runtime.NumGoroutine") = false := by kernel_rfl
theorem place70 (q : DPlain) (b0 b1 : Blk) (n : Nat) (m : Value → Option AV) (g : ByteArray → Nat) (hm : MapN m g) (hg : ∀ s, cntL s q.Names ≤ g s) (hn : ∀ s, g s ≤ 1000000) (r : List Blk) {K : AV → List Blk → Prop}
    (hK : ∀ n' m' g' r', MapN m' g' → (∀ s, g' s + cntL s q.Names = g s) → K (.tup []) (b0 :: b1 :: .mp .str n' m' :: (r ++ r'))) :
    ACall Try.prog 70 [.map 2, q.enc] (b0 :: b1 :: .mp .str n m :: r) K := by
  refine acallK_of_vc tabOK Try.func70 n70 rfl (n := 18) rfl (rs := []) rfl ?_
  repeat' first
    | exact finB rfl
    | exact finI rfl
    | exact finP rfl
    | exact absurd rfl (by assumption)
    | simp only [go_sem, Nat.reduceAdd, Nat.reduceSub, Nat.reduceMul, Nat.reduceLT, Nat.reduceLeDiff, Nat.reduceEqDiff, Nat.reduceBEq, Nat.reduceBNe, Nat.reducePow, Int.reduceEq, Int.reduceNe, Int.reduceLT, Int.reduceLE, Int.reduceGT, Int.reduceGE, Int.reduceAdd, Int.reduceSub, Int.reduceNeg, Int.reduceMul, not_true_eq_false, not_false_eq_true, true_and, and_true, Int.reduceToNat]
    | (intro _)
    | refine brK_dec (fun _ => ?_) (fun _ => ?_)
    | refine brK_any ?_ ?_
    | refine gK_dec (fun _ => ?_) (fun _ => ?_)
    | refine gK_any ?_ ?_
    | refine gqK_dec (fun _ => ?_) (fun _ => ?_)
    | refine ⟨by omega, ?_⟩
    | refine elemHave (by omega) (by assumption) ?_
    | refine elemMap (by omega) (by omega) (fun x hx => ?_)
    | refine drawK mo (by kernel_rfl) ?_
    | (simp only [go_sem, Nat.reduceAdd, Nat.reduceSub, Nat.reduceMul, Nat.reduceLT, Nat.reduceLeDiff, Nat.reduceEqDiff, Nat.reduceBEq, Nat.reduceBNe, Nat.reducePow, Int.reduceEq, Int.reduceNe, Int.reduceLT, Int.reduceLE, Int.reduceGT, Int.reduceGE, Int.reduceAdd, Int.reduceSub, Int.reduceNeg, Int.reduceMul, not_true_eq_false, not_false_eq_true, true_and, and_true, Int.reduceToNat, at_app0])
    | ((fail_if_success (clear h9)); obtain ⟨g9, h9, hs9⟩ := hpi)
    | (simp only [go_sem, Nat.reduceAdd, Nat.reduceSub, Nat.reduceMul, Nat.reduceLT, Nat.reduceLeDiff, Nat.reduceEqDiff, Nat.reduceBEq, Nat.reduceBNe, Nat.reducePow, Int.reduceEq, Int.reduceNe, Int.reduceLT, Int.reduceLE, Int.reduceGT, Int.reduceGE, Int.reduceAdd, Int.reduceSub, Int.reduceNeg, Int.reduceMul, not_true_eq_false, not_false_eq_true, true_and, and_true, Int.reduceToNat, at_app0, h9.at _])
    | (exact ⟨[], rfl, .tup [], .refl _, hK _ _ g9 _ h9 (take_end hs9 (by assumption))⟩)
    | exact loopFr _ (by omega) ⟨i + 1, _, _, _, by omega, rfl, h9.downW hs9 hg (by assumption) (hn _), rfl, (by first | rfl | (simp; done) | (simp; rfl))⟩ (.next rfl (by omega) .nil) rfl
    | (refine loop_fr [5, 9, 10, 11, 12, 13, 14, 15, 16, 17] (fun mm_ CC_ hh_ => ∃ (i : Nat) (n9 : Nat) (m9 : Value → Option AV) (r_ : List Blk), i ≤ q.Names.length ∧ mm_ = q.Names.length - i ∧ ((∃ g9, MapN m9 g9 ∧ ∀ s, g9 s + cntL s (q.Names.take i) = g s)) ∧ CC_ = [(9, .raw (.int .i64 ((i : Nat) : Int)))] ∧ hh_ = b0 :: b1 :: .mp .str n9 m9 :: (r ++ r_)) (q.Names.length) _ ⟨0, _, _, _, by omega, by omega, ⟨g, hm, fun s => by simp [cntL]⟩, rfl, (by first | rfl | (simp; done) | (simp; rfl))⟩ (.cons (by first | rfl | (simp; done) | (simp; rfl)) .nil) ?_; rintro mm_ CC_ ji hh_ ⟨i, n9, m9, ri, hi, rfl, hpi, rfl, rfl⟩)
end Go.Proofs.Ytfjjckaiopbbkaa
