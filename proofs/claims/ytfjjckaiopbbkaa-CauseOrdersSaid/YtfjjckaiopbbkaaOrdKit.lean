import Derived.Test.YtfjjckaiopbbkaaInts
import Derived.Test.YtfjjckaiopbbkaaSlices1
import Derived.Test.YtfjjckaiopbbkaaAbsW
namespace Go.Proofs.Ytfjjckaiopbbkaa
open Go.Abs
set_option maxRecDepth 20000
set_option linter.unusedSimpArgs false
set_option linter.unusedVariables false
set_option maxHeartbeats 1000000
attribute [local irreducible] vc vcOps vcStep vcGuard prK hrK gK gsK brK callK ElemK SeqK BlockK ScopeK OpsK CallK LoopK LoopGo finPost ACall PCall PCallE BCall vqOps vqStep vqGuard qrK heK pcK gqK gqsK QOpsK qcallK DrawK
theorem mem_eq {l : List ByteArray} {x s : ByteArray} {i : Nat} (h : l[i]? = some x) (e : x = s) : s ∈ l := e ▸ List.mem_of_getElem? h
theorem n106 : (Try.f106.name == "runtime.NumGoroutine") = false := by kernel_rfl
theorem contains106 {l : List ByteArray} {p : ByteArray → Bool} {g : Nat} {first capt : List AV} {h : List Blk} {K : AV → List Blk → Prop} (hp : ∀ x ∈ l, ∀ K : AV → List Blk → Prop, K (.b (p x)) h → ACall Try.prog g (first ++ AV.s x :: capt) h K)
    (hK : K (.b (l.any p)) h) : ACall Try.prog 106 [.lst 1 (l.map AV.s) none, .fn (.func g) first capt] h K := by
  refine acall_of_vc tabOK Try.func106 n106 rfl (n := 9) rfl (rs := [.tmp 4]) rfl ?_
  simp only [go_sem, Nat.reduceAdd, Nat.reduceSub, Nat.reduceMul, Nat.reduceLT, Nat.reduceLeDiff, Nat.reduceEqDiff, Nat.reduceBEq, Nat.reduceBNe, Nat.reducePow, Int.reduceEq, Int.reduceNe, Int.reduceLT, Int.reduceLE, Int.reduceGT, Int.reduceGE, Int.reduceAdd, Int.reduceSub, Int.reduceNeg, Int.reduceMul, not_true_eq_false, not_false_eq_true, true_and, and_true, Int.reduceToNat]
  refine indexStr hp ?_
  simp only [go_sem, Nat.reduceAdd, Nat.reduceSub, Nat.reduceMul, Nat.reduceLT, Nat.reduceLeDiff, Nat.reduceEqDiff, Nat.reduceBEq, Nat.reduceBNe, Nat.reducePow, Int.reduceEq, Int.reduceNe, Int.reduceLT, Int.reduceLE, Int.reduceGT, Int.reduceGE, Int.reduceAdd, Int.reduceSub, Int.reduceNeg, Int.reduceMul, not_true_eq_false, not_false_eq_true, true_and, and_true, Int.reduceToNat]
  rw [idx_any]
  exact finH1 rfl (.raw _) hK

abbrev orderA (p : List Nat × Bool) : AV := .tup [.lst 1 (p.1.map AV.n) none, .b p.2]
theorem pure_orderA (p : List Nat × Bool) : Go.Abs.Pure (orderA p) := by
  refine .tup _ (pure_cons (.lst _ _ fun c hc => ?_) (pure_cons (.raw _) pure_nil))
  have : flat (p.1.map AV.n) = p.1.map AV.n := by
    generalize p.1 = l
    induction l with
    | nil => rfl
    | cons x l ih => simp only [List.map_cons]; rw [show flat (AV.n x :: l.map AV.n) = AV.n x :: flat (l.map AV.n) from rfl, ih]
  rw [this] at hc
  obtain ⟨n, _, rfl⟩ := List.mem_map.1 hc
  exact .raw _
theorem Weak.tups2 {cs ds : List AV} (h : WeakL cs ds) : Weak (.tup cs) (.tup ds) := .tup cs ds h.at.1 h.at.2
theorem weak_order (out : List Nat) (b : Bool) (k : Option Nat) : Weak (.tup [.lst 1 (out.map AV.n) k, .b b]) (orderA (out, b)) := Weak.tups2 ⟨by cases k <;> first | exact .refl _ | exact .tok _ _ _, .refl _, trivial⟩
theorem map_snocN (l : List Nat) (x : Nat) : l.map AV.n ++ [AV.raw (.int .i64 (x : Int))] = (l ++ [x]).map AV.n := by simp

theorem flat_le {α : Type} {c : Nat} : ∀ {N : List (List α)}, (∀ l ∈ N, l.length ≤ c) → N.flatten.length ≤ N.length * c
  | [], _ => by simp
  | n :: N, h => by
    have h1 := flat_le (N := N) fun l hl => h l (List.mem_cons_of_mem _ hl)
    have h2 := h n List.mem_cons_self
    rw [List.flatten_cons, List.length_append, List.length_cons, Nat.succ_mul]
    omega
theorem mono_app : ∀ (h r : List Blk), MonoH h (h ++ r)
  | [], _ => trivial
  | x :: h, r => ⟨by cases x <;> trivial, mono_app h r⟩
end Go.Proofs.Ytfjjckaiopbbkaa
