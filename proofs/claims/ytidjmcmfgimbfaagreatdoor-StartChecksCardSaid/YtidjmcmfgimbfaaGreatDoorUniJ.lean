/-
  Late, Late2, Start, StK, StC, Live19, StC2L: put together.
-/
import Derived.Test.YtidjmcmfgimbfaaGreatDoorUniA
import Derived.Test.YtidjmcmfgimbfaaGreatDoorUniB
import Derived.Test.YtidjmcmfgimbfaaGreatDoorUniC
import Derived.Test.YtidjmcmfgimbfaaGreatDoorUniD
import Derived.Test.YtidjmcmfgimbfaaGreatDoorUniE
import Derived.Test.YtidjmcmfgimbfaaGreatDoorUniF
import Derived.Test.YtidjmcmfgimbfaaGreatDoorUniG
import Derived.Test.YtidjmcmfgimbfaaGreatDoorUniH
import Derived.Test.YtidjmcmfgimbfaaGreatDoorUniI
namespace Go.Proofs.YtidjmcmfgimbfaaGreatDoor
open Go.Abs
set_option maxRecDepth 20000
set_option linter.unusedSimpArgs false
set_option linter.unusedVariables false
set_option maxHeartbeats 1000000
attribute [local irreducible] vc vcOps vcStep vcGuard prK hrK gK gsK brK callK ElemK SeqK BlockK ScopeK OpsK CallK LoopK LoopGo finPost ACall PCall PCallE BCall vqOps vqStep vqGuard qrK heK pcK gqK gqsK QOpsK qcallK DrawK

def ltK (k : Int) (l s f : Bool) : Bool × Bool :=
  if k = 8 ∨ k = 13 then (false, s && !l) else if k = 10 then (s && !l, s && !l) else if k = 9 then (false, s && !f) else (s && l, s)
mutual
def lt : Ex → Bool × Bool
  | .mk k _ _ _ _ s => ltK k (ltL s).1 (ltL s).2 (ltH s)
def ltL : List Ex → Bool × Bool
  | [] => (false, true)
  | x :: xs => ((lt x).1 || (ltL xs).1, (lt x).2 && (ltL xs).2)
def ltH : List Ex → Bool
  | [] => false
  | x :: _ => (lt x).1
end
theorem lt_eq (e : Ex) : lt e = ltK e.kind (ltL e.subs).1 (ltL e.subs).2 (ltH e.subs) := by cases e; simp [lt, Ex.kind, Ex.subs]
theorem ltL_append (l m : List Ex) : ltL (l ++ m) = ((ltL l).1 || (ltL m).1, (ltL l).2 && (ltL m).2) := by
  induction l with
  | nil => simp [ltL]
  | cons x l ih => simp [ltL, ih, Bool.or_assoc, Bool.and_assoc]
theorem ltL_take {l : List Ex} {k : Nat} {x : Ex} (h : l[k]? = some x) : ltL (l.take (k + 1)) = ((ltL (l.take k)).1 || (lt x).1, (ltL (l.take k)).2 && (lt x).2) := by
  rw [List.take_add_one, h, ltL_append]
  simp [ltL]

theorem pure_bb (a b : Bool) : Go.Abs.Pure (.tup [.b a, .b b]) := .tup _ (pure_cons (.raw _) (pure_cons (.raw _) pure_nil))
theorem pure_gb (a b : Bool) : Go.Abs.Pure (.agg [.b a, .b b]) := .agg _ (pure_cons (.raw _) (pure_cons (.raw _) pure_nil))


theorem late57 (l : List Ex) (ih : ∀ x ∈ l, PCall Tryz.prog 83 [x.enc] (bbA (lt x))) : PCall Tryz.prog 133 [.lst 6 (l.map Ex.enc) none] (bbA (ltL l)) := by
  refine pcall_of_vc tabOK Tryz.func133 (by kernel_rfl) rfl (pure_cons (pure_lst l) pure_nil) (pure_bb _ _) (n := 33) rfl (rs := [.tmp 2, .tmp 3]) rfl ?_
  simp only [go_sem]
  refine loop_rule (fun n s h => ∃ (i : Nat) (a b : Bool), i ≤ l.length ∧ n = l.length - i ∧ ltL (l.take i) = (a, b) ∧ Vis 33 [(6, .i i), (0, .lst 6 (l.map Ex.enc) none), (4, .b a), (5, .b b)] s ∧ h = []) l.length
    ⟨0, _, _, by omega, by omega, rfl, .cons rfl (.cons rfl (.cons rfl (.cons rfl (.nil rfl)))), rfl⟩ ?_
  rintro n s h ⟨i, a, b, hi, rfl, hp, hv, rfl⟩
  obtain ⟨j, rfl⟩ := hv.out
  simp only [go_sem]
  intro hm
  refine brK_dec (fun hlt => ?_) (fun hge => ?_)
  · simp only [go_sem]
    refine elemMap (by omega) (by omega) (fun x hx => ?_)
    simp only [go_sem]
    refine PCall.call (ih x (List.mem_of_getElem? hx)) ?_
    have ht := ltL_take hx
    rw [Int.toNat_natCast, hp] at ht
    generalize lt x = p at ht ⊢
    obtain ⟨c, d⟩ := p
    cases a <;> cases b <;> cases c <;> cases d <;> simp only [go_sem] <;> exact loopGo _ (by omega) ⟨i + 1, _, _, by omega, rfl, ht, .next rfl (by omega) (.cons rfl (.cons rfl (.cons rfl (.nil rfl)))), rfl⟩
  · rw [List.take_of_length_le (by omega)] at hp
    rw [hp]
    simp only [go_sem]
    exact finT rfl


theorem late17 (e : Ex) : PCall Tryz.prog 83 [e.enc] (bbA (lt e)) := by
  induction e using Ex.ind with
  | _ e ih =>
  refine pcall_of_vc tabOK Tryz.func83 (by kernel_rfl) rfl (pure_cons (pure_enc e) pure_nil) (pure_bb _ _) (n := 58) rfl (rs := [.tmp 2, .tmp 3]) rfl ?_
  have h57 := late57 e.subs ih
  rw [lt_eq]
  simp only [go_sem]
  refine PCall.call h57 ?_
  have hH : ∀ x, e.subs[0]? = some x → ltH e.subs = (lt x).1 := by
    intro x hx
    cases hs : e.subs with
    | nil => rw [hs] at hx; simp at hx
    | cons y l => rw [hs] at hx; simp at hx; subst hx; simp [ltH]
  have hE : ¬ ((e.subs.length : Int) > 0) → ltH e.subs = (ltL e.subs).1 := by
    intro hx
    cases hs : e.subs with
    | nil => simp [ltH, ltL]
    | cons y l => rw [hs] at hx; simp at hx
  generalize ltL e.subs = p at *
  generalize ltH e.subs = f at *
  obtain ⟨a, b⟩ := p
  cases a <;> cases b
  all_goals repeat' first
    | exact finB rfl
    | exact finI rfl
    | exact finP rfl
    | exact absurd rfl (by assumption)
    | simp only [go_sem]
    | (intro _)
    | refine brK_dec (fun _ => ?_) (fun _ => ?_)
    | refine brK_any ?_ ?_
    | refine gK_dec (fun _ => ?_) (fun _ => ?_)
    | refine gK_any ?_ ?_
    | refine gqK_dec (fun _ => ?_) (fun _ => ?_)
    | refine ⟨by omega, ?_⟩
    | refine elemHave (by omega) (by assumption) ?_
    | refine elemMap (by omega) (by omega) (fun x hx => ?_)
    | refine drawK mo (by kernel_rfl) ?_
    | (refine finBBk rfl rfl ?_; first | (simp [ltK, *]; done) | (rw [hE (by assumption)]; simp [ltK, *]; done))
    | (refine PCall.call (ih _ (List.mem_of_getElem? hx)) ?_; rw [hH x hx]; generalize lt x = q; obtain ⟨c, d⟩ := q; cases c)

abbrev keptF (l s w : Bool) : Bool × Bool := if !s || l then (false, false) else (w, true)


theorem kept103 (l s w : Bool) : PCall Tryz.prog 195 [.agg [.b l, .b s], .b w] (gbA (keptF l s w)) := by
  refine pcall_of_vc tabOK Tryz.func195 (by kernel_rfl) rfl (pure_cons (pure_gb _ _) (pure_cons (.raw _) pure_nil)) (pure_gb _ _) (n := 15) rfl (rs := [.cell 4 157]) rfl ?_
  cases l <;> cases s
  all_goals repeat' first
    | exact finB rfl
    | exact finI rfl
    | exact finP rfl
    | exact absurd rfl (by assumption)
    | simp only [go_sem]
    | (intro _)
    | refine brK_dec (fun _ => ?_) (fun _ => ?_)
    | refine brK_any ?_ ?_
    | refine gK_dec (fun _ => ?_) (fun _ => ?_)
    | refine gK_any ?_ ?_
    | refine gqK_dec (fun _ => ?_) (fun _ => ?_)
    | refine ⟨by omega, ?_⟩
    | refine elemHave (by omega) (by assumption) ?_
    | refine elemMap (by omega) (by omega) (fun x hx => ?_)
    | refine drawK mo (by kernel_rfl) ?_


theorem both102 (a b : Bool) (x : Ex) (h : PCall Tryz.prog 132 [x.enc] (gbA (lt x))) : PCall Tryz.prog 194 [.agg [.b a, .b b], x.enc] (gbA (a || (lt x).1, b && (lt x).2)) := by
  refine pcall_of_vc tabOK Tryz.func194 (by kernel_rfl) rfl (pure_cons (pure_gb _ _) (pure_cons (pure_enc x) pure_nil)) (pure_gb _ _) (n := 21) rfl (rs := [.cell 4 157]) rfl ?_
  generalize lt x = p at *
  obtain ⟨c, d⟩ := p
  cases a <;> cases b
  all_goals repeat' first
    | exact finB rfl
    | exact finI rfl
    | exact finP rfl
    | exact absurd rfl (by assumption)
    | simp only [go_sem]
    | (intro _)
    | refine brK_dec (fun _ => ?_) (fun _ => ?_)
    | refine brK_any ?_ ?_
    | refine gK_dec (fun _ => ?_) (fun _ => ?_)
    | refine gK_any ?_ ?_
    | refine gqK_dec (fun _ => ?_) (fun _ => ?_)
    | refine ⟨by omega, ?_⟩
    | refine elemHave (by omega) (by assumption) ?_
    | refine elemMap (by omega) (by omega) (fun x hx => ?_)
    | refine drawK mo (by kernel_rfl) ?_
    | (refine PCall.call h ?_; cases c <;> cases d)


theorem fold101 (l : List Ex) (a b : Bool) (ih : ∀ x ∈ l, PCall Tryz.prog 132 [x.enc] (gbA (lt x))) : PCall Tryz.prog 193 [.lst 6 (l.map Ex.enc) none, .agg [.b a, .b b], .fn (.func 194) [] []] (gbA (a || (ltL l).1, b && (ltL l).2)) := by
  refine pcall_of_vc tabOK Tryz.func193 (by kernel_rfl) rfl (pure_cons (pure_lst l) (pure_cons (pure_gb _ _) (pure_cons (.fn _ _ _ pure_nil pure_nil) pure_nil))) (pure_gb _ _) (n := 21) rfl (rs := [.cell 6 157]) rfl ?_
  simp only [go_sem]
  intro hm
  refine loop_rule (fun n s h => ∃ (i : Nat) (c d : Bool) (rest : List Blk), i ≤ l.length ∧ n = l.length - i ∧ (c = (a || (ltL (l.take i)).1) ∧ d = (b && (ltL (l.take i)).2)) ∧
    Vis 21 [(11, .i i), (4, .ptr 0 0), (6, .ptr 1 0), (2, .fn (.func 194) [] []), (9, .lst 6 (l.map Ex.enc) none), (10, .i l.length)] s ∧ h = .cells 157 [.b c, .b d] :: .cells 157 [.b false, .b false] :: rest) l.length
    ⟨0, a, b, [], by omega, by omega, by simp [ltL], .cons rfl (.cons rfl (.cons rfl (.cons rfl (.cons rfl (.cons rfl (.nil rfl)))))), rfl⟩ ?_
  rintro n s h ⟨i, c, d, rest, hi, rfl, hp, hv, rfl⟩
  obtain ⟨j, rfl⟩ := hv.out
  simp only [go_sem]
  refine brK_dec (fun hlt => ?_) (fun hge => ?_)
  · simp only [go_sem]
    refine elemMap (by omega) (by omega) (fun x hx => ?_)
    simp only [go_sem]
    refine PCall.call (both102 c d x (ih x (List.mem_of_getElem? hx))) ?_
    simp only [go_sem]
    have ht := ltL_take hx
    rw [Int.toNat_natCast] at ht
    refine loopGo _ (by omega) ⟨i + 1, _, _, _, by omega, rfl, ?_, .next rfl (by omega) (.cons rfl (.cons rfl (.cons rfl (.cons rfl (.cons rfl (.nil rfl)))))), rfl⟩
    rw [ht, hp.1, hp.2]
    simp [Bool.or_assoc, Bool.and_assoc]
  · simp only [go_sem]
    rw [List.take_of_length_le (by omega)] at hp
    rw [← hp.1, ← hp.2]
    exact finP rfl


theorem of56 (e : Ex) : PCall Tryz.prog 132 [e.enc] (gbA (lt e)) := by
  induction e using Ex.ind with
  | _ e ih =>
  refine pcall_of_vc tabOK Tryz.func132 (by kernel_rfl) rfl (pure_cons (pure_enc e) pure_nil) (pure_gb _ _) (n := 42) rfl (rs := [.cell 2 157]) rfl ?_
  rw [lt_eq]
  simp only [go_sem]
  refine PCall.call (fold101 e.subs false true ih) ?_
  have hf : ∀ n : Nat, n = min 1 e.subs.length → (ltL (e.subs.take n)).1 = ltH e.subs := by
    intro n hn
    cases hs : e.subs with
    | nil => simp [ltH, ltL]
    | cons y l => rw [hs] at hn; simp at hn; subst hn; simp [ltH, ltL]
  generalize ltL e.subs = p at *
  obtain ⟨a, b⟩ := p
  simp only [Bool.false_or, Bool.true_and]
  cases a <;> cases b
  all_goals repeat' first
    | exact finB rfl
    | exact finI rfl
    | exact finP rfl
    | exact absurd rfl (by assumption)
    | simp only [go_sem]
    | (intro _)
    | refine brK_dec (fun _ => ?_) (fun _ => ?_)
    | refine brK_any ?_ ?_
    | refine gK_dec (fun _ => ?_) (fun _ => ?_)
    | refine gK_any ?_ ?_
    | refine gqK_dec (fun _ => ?_) (fun _ => ?_)
    | refine ⟨by omega, ?_⟩
    | refine elemHave (by omega) (by assumption) ?_
    | refine elemMap (by omega) (by omega) (fun x hx => ?_)
    | refine drawK mo (by kernel_rfl) ?_
    | (refine finGk rfl ?_; simp [ltK, keptF, *]; done)
    | (refine PCall.call (kept103 _ _ _) ?_)
    | (refine PCall.call (fold101 (e.subs.take _) false true (fun x hx => ih x (List.mem_of_mem_take hx))) ?_; rw [hf]; cases ltH e.subs)
    | (omega)
    | (split <;> omega)


theorem late16 (e : Ex) : PCall Tryz.prog 82 [e.enc] (bbA (lt e)) := by
  refine pcall_of_vc tabOK Tryz.func82 (by kernel_rfl) rfl (pure_cons (pure_enc e) pure_nil) (pure_bb _ _) (n := 11) rfl (rs := [.tmp 2, .tmp 3]) rfl ?_
  repeat' first
    | exact finB rfl
    | exact finI rfl
    | exact finP rfl
    | exact absurd rfl (by assumption)
    | simp only [go_sem]
    | (intro _)
    | refine brK_dec (fun _ => ?_) (fun _ => ?_)
    | refine brK_any ?_ ?_
    | refine gK_dec (fun _ => ?_) (fun _ => ?_)
    | refine gK_any ?_ ?_
    | refine gqK_dec (fun _ => ?_) (fun _ => ?_)
    | refine ⟨by omega, ?_⟩
    | refine elemHave (by omega) (by assumption) ?_
    | refine elemMap (by omega) (by omega) (fun x hx => ?_)
    | refine drawK mo (by kernel_rfl) ?_
    | (refine PCall.call (of56 e) ?_)
    | (exact finBBk rfl rfl rfl)
def eqSt (q : DEq) : Bool := !(lt q.E).1 && (lt q.E).2
def nodeSt (a : Nat) (n : DNode) : DFault := firstE (a : Int) 10 (fun _ q => eqSt q) 0 n.Eqs
noncomputable def startF (p : DProg) : DFault := if (causeF p).Err = 0 then firstF nodeSt 0 p.Nodes else causeF p

theorem startCheck (p : DProg) (hp : okProg p) : PCall Tryz.prog 40 [p.enc] (startF p).enc := by
  refine pcall_of_vc tabOK Tryz.func40 (by kernel_rfl) rfl (by first | exact pureL | exact pureI) (by first | exact pureL | exact pureI) (n := 49) rfl (rs := [.cell 2 34]) rfl ?_
  have hp6 := hp.2.1
  unfold startF
  simp only [go_sem]
  refine PCall.call (causeCheck p hp) ?_
  generalize causeF p = F
  rw [show F.enc = .agg [.i F.Node, .i F.Eq, .i F.Err] from DFault.enc_eq _]
  simp only [go_sem]
  refine brK_dec (fun h0 => ?_) (fun h0 => ?_)
  · rw [if_neg h0]
    simp only [go_sem]
    exact ⟨_, rfl, false, by rw [DFault.enc_eq]; exact .refl _⟩
  rw [if_pos (Classical.not_not.1 h0)]
  generalize hE : firstF nodeSt 0 p.Nodes = E
  simp only [go_sem]
  intro _
  refine loop_frX [4, 5, 6, 7, 8, 9, 19, 20, 21, 22, 23, 24, 25, 26, 27, 28, 29, 30, 31, 32, 33, 34, 35, 36, 37, 38, 39, 40, 41, 42, 43, 44, 45, 46, 47] (fun m C => ∃ i : Nat, i ≤ p.Nodes.length ∧ m = p.Nodes.length - i ∧ firstF nodeSt i (p.Nodes.drop i) = E ∧ C = [(19, .raw (.int .i64 (i : Nat)))]) p.Nodes.length _ ⟨0, by omega, by omega, hE, rfl⟩ (.cons rfl .nil) ?_
  rintro m C ja r ⟨j, hi, rfl, hE', rfl⟩
  simp only [go_sem]
  refine brK_dec (fun hlt => ?_) (fun hge => ?_)
  · obtain ⟨n, hj⟩ : ∃ n, p.Nodes[j]? = some n := ⟨_, List.getElem?_eq_getElem (by omega)⟩
    have hn := hp.2.2 n (List.mem_of_getElem? hj)
    have he4 := hn.2.2.2.1
    have hNE : nodeSt j n = firstE (j : Int) 10 (fun _ q => eqSt q) 0 n.Eqs := rfl
    generalize hG : nodeSt j n = G at hNE
    simp only [go_sem]
    refine elemHave (x := n) (by omega) (by simpa using hj) ?_
    simp only [go_sem]
    intro _
    refine loop_frX [6, 7, 8, 9, 27, 28, 29, 30, 31, 32, 33, 34, 35, 36, 37, 38, 39, 40, 41, 42, 43, 44, 45, 46] (fun m C => ∃ i : Nat, i ≤ n.Eqs.length ∧ m = n.Eqs.length - i ∧ firstE (j : Int) 10 (fun _ q => eqSt q) i (n.Eqs.drop i) = G ∧ C = [(27, .raw (.int .i64 (i : Nat)))]) n.Eqs.length _ ⟨0, by omega, by omega, hNE.symm, rfl⟩ (.cons rfl .nil) ?_
    rintro m C jb r1 ⟨i, hi1, rfl, hG', rfl⟩
    simp only [go_sem]
    refine brK_dec (fun hlt1 => ?_) (fun hge1 => ?_)
    · obtain ⟨q, hq⟩ : ∃ q, n.Eqs[i]? = some q := ⟨_, List.getElem?_eq_getElem (by omega)⟩
      have hx := late16 q.E
      have hb : eqSt q = (!(lt q.E).1 && (lt q.E).2) := rfl
      generalize lt q.E = u at hx hb
      obtain ⟨a, b⟩ := u
      simp only [go_sem]
      refine elemHave (x := q) (by omega) (by simpa using hq) ?_
      simp only [go_sem]
      refine PCall.call hx ?_
      cases a <;> cases b <;>
        first
          | (have hE1 := firstE_next hG' hq hb
             simp only [go_sem]
             exact loopFrX _ (by omega) _ ⟨i + 1, by omega, rfl, hE1, rfl⟩ (.next rfl (by omega) .nil) rfl (by first | rfl | (simp only [List.append_assoc, List.cons_append, List.nil_append]; rfl)))
          | (have hE1 := firstE_at hG' hq hb
             have hE2 := first_at hE' hj (by rw [hG, hE1]; simp)
             rw [hE2, hG, hE1]
             simp only [go_sem]
             exact ⟨_, rfl, false, by rw [DFault.enc_eq]; exact .refl _⟩)
    · have h1 := firstE_0 hG' (by omega)
      have hE1 := first_next hE' hj (by rw [hG, h1])
      simp only [go_sem]
      exact loopFrX _ (by omega) _ ⟨j + 1, by omega, rfl, hE1, rfl⟩ (.next rfl (by omega) .nil) rfl (by first | rfl | (simp only [List.append_assoc, List.cons_append, List.nil_append]; rfl))
  · have h1 := first_0 hE' (by omega)
    subst h1
    simp only [go_sem]
    exact ⟨_, rfl, false, by rw [DFault.enc_eq]; exact .refl _⟩

theorem startX (p : DProg) (hp : okProg p) : PCall Tryz.prog 41 [p.enc] (startF p).enc := by
  refine pcall_of_vc tabOK Tryz.func41 (by kernel_rfl) rfl (by first | exact pureL | exact pureI) (by first | exact pureL | exact pureI) (n := 55) rfl (rs := [.cell 2 34]) rfl ?_
  have hp6 := hp.2.1
  unfold startF
  simp only [go_sem]
  refine PCall.call (causeX p hp) ?_
  have hz := cause_zero (p := p)
  generalize causeF p = F at hz
  simp only [go_sem]
  rw [fault_z]
  simp only [go_sem]
  refine brK_dec (fun h0 => ?_) (fun h0 => ?_)
  · have hF : ¬ F.Err = 0 := fun h => h0 (hz h).1
    rw [if_neg hF]
    simp only [go_sem]
    exact ⟨_, rfl, false, by rw [DFault.enc_eq]; exact .refl _⟩
  rw [if_pos (by rw [Classical.not_not.1 h0])]
  generalize hE : firstF nodeSt 0 p.Nodes = E
  simp only [go_sem]
  refine loop_frX [4, 5, 6, 7, 14, 15, 16, 17, 18, 19, 20, 21, 22, 23, 24, 25, 26, 27, 28, 29, 30, 31, 32, 33, 34, 35, 36, 37, 38, 39, 40, 41, 42, 43, 44, 45, 46, 47, 48, 49, 50, 51, 52, 53] (fun m C => ∃ i : Nat, i ≤ p.Nodes.length ∧ m = p.Nodes.length - i ∧ firstF nodeSt i (p.Nodes.drop i) = E ∧ C = [(4, .raw (.int .i64 (i : Nat)))]) p.Nodes.length _ ⟨0, by omega, by omega, hE, rfl⟩ (.cons rfl .nil) ?_
  rintro m C ja r ⟨j, hi, rfl, hE', rfl⟩
  simp only [go_sem]
  intro _
  refine brK_dec (fun hlt => ?_) (fun hge => ?_)
  · obtain ⟨n, hj⟩ : ∃ n, p.Nodes[j]? = some n := ⟨_, List.getElem?_eq_getElem (by omega)⟩
    have hn := hp.2.2 n (List.mem_of_getElem? hj)
    have he4 := hn.2.2.2.1
    have hNE : nodeSt j n = firstE (j : Int) 10 (fun _ q => eqSt q) 0 n.Eqs := rfl
    generalize hG : nodeSt j n = G at hNE
    simp only [go_sem]
    refine loop_frX [5, 6, 7, 21, 22, 23, 24, 25, 26, 27, 28, 29, 30, 31, 32, 33, 34, 35, 36, 37, 38, 39, 40, 41, 42, 43, 44, 45, 46, 47, 48, 49, 50, 51, 52, 53] (fun m C => ∃ i : Nat, i ≤ n.Eqs.length ∧ m = n.Eqs.length - i ∧ firstE (j : Int) 10 (fun _ q => eqSt q) i (n.Eqs.drop i) = G ∧ C = [(5, .raw (.int .i64 (i : Nat)))]) n.Eqs.length _ ⟨0, by omega, by omega, hNE.symm, rfl⟩ (.cons rfl .nil) ?_
    rintro m C jb r1 ⟨i, hi1, rfl, hG', rfl⟩
    simp only [go_sem]
    refine elemHave (x := n) (by omega) (by simpa using hj) ?_
    simp only [go_sem]
    intro _
    refine brK_dec (fun hlt1 => ?_) (fun hge1 => ?_)
    · obtain ⟨q, hq⟩ : ∃ q, n.Eqs[i]? = some q := ⟨_, List.getElem?_eq_getElem (by omega)⟩
      have hx := late17 q.E
      have hb : eqSt q = (!(lt q.E).1 && (lt q.E).2) := rfl
      generalize lt q.E = u at hx hb
      obtain ⟨a, b⟩ := u
      simp only [go_sem]
      refine elemHave (x := n) (by omega) (by simpa using hj) ?_
      simp only [go_sem]
      refine elemHave (x := q) (by omega) (by simpa using hq) ?_
      simp only [go_sem]
      refine PCall.call hx ?_
      cases a <;> cases b <;>
        first
          | (have hE1 := firstE_next hG' hq hb
             simp only [go_sem]
             exact loopFrX _ (by omega) _ ⟨i + 1, by omega, rfl, hE1, rfl⟩ (.next rfl (by omega) .nil) rfl (by first | rfl | (simp only [List.append_assoc, List.cons_append, List.nil_append]; rfl)))
          | (have hE1 := firstE_at hG' hq hb
             have hE2 := first_at hE' hj (by rw [hG, hE1]; simp)
             rw [hE2, hG, hE1]
             simp only [go_sem]
             refine PCall.call (fault47 _ _ _) ?_
             simp only [go_sem]
             exact ⟨_, rfl, false, by rw [DFault.enc_eq]; exact .refl _⟩)
    · have h1 := firstE_0 hG' (by omega)
      have hE1 := first_next hE' hj (by rw [hG, h1])
      simp only [go_sem]
      exact loopFrX _ (by omega) _ ⟨j + 1, by omega, rfl, hE1, rfl⟩ (.next rfl (by omega) .nil) rfl (by first | rfl | (simp only [List.append_assoc, List.cons_append, List.nil_append]; rfl))
  · have h1 := first_0 hE' (by omega)
    subst h1
    simp only [go_sem]
    exact ⟨_, rfl, false, by rw [DFault.enc_eq]; exact .refl _⟩
abbrev stA : Ex := .mk 10 0 ⟨#[]⟩ 0 [] [.mk 3 0 ⟨#[97]⟩ 0 [] []]
abbrev stB : Ex := .mk 9 0 ⟨#[]⟩ 0 [] [.mk 1 0 ⟨#[]⟩ 0 [] [], stA]
theorem ltA : lt stA = (true, true) := by simp [lt, ltL, ltH, ltK]
theorem ltB : lt stB = (false, true) := by simp [lt, ltL, ltH, ltK]
theorem weakA (t : Option Nat) : Weak (.agg [.i 10, .i 0, .s ⟨#[]⟩, .i 0, .raw (.slice none 0 0), .lst 6 [.agg [.i 3, .i 0, .s ⟨#[97]⟩, .i 0, .raw (.slice none 0 0), .raw (.slice none 0 0)]] t]) stA.enc := by
  repeat' first | exact trivial | exact .nil _ | exact .refl _ | exact .tok _ _ _ | refine ⟨?_, ?_⟩ | refine weak_ex ?_ ?_ | refine weak_subs rfl ?_ | simp only [flat_nil, flat_agg, flat_ex, flat_ex0, enc_cells, List.cons_append, List.nil_append, Ex.kind, Ex.n, Ex.name, Ex.op, Ex.arms, Ex.subs]
theorem weakB (t u : Option Nat) : Weak (.agg [.i 9, .i 0, .s ⟨#[]⟩, .i 0, .raw (.slice none 0 0), .lst 6 [.agg [.i 1, .i 0, .s ⟨#[]⟩, .i 0, .raw (.slice none 0 0), .raw (.slice none 0 0)], 
    .agg [.i 10, .i 0, .s ⟨#[]⟩, .i 0, .raw (.slice none 0 0), .lst 6 [.agg [.i 3, .i 0, .s ⟨#[97]⟩, .i 0, .raw (.slice none 0 0), .raw (.slice none 0 0)]] t]] u]) stB.enc := by
  repeat' first | exact trivial | exact .nil _ | exact .refl _ | exact .tok _ _ _ | refine ⟨?_, ?_⟩ | refine weak_ex ?_ ?_ | refine weak_subs rfl ?_ | simp only [flat_nil, flat_agg, flat_ex, flat_ex0, enc_cells, List.cons_append, List.nil_append, Ex.kind, Ex.n, Ex.name, Ex.op, Ex.arms, Ex.subs]

theorem live15s  : PCall Tryz.prog 39 [] (.b true) := by
  refine pcall_of_vc tabOK Tryz.func39 (by kernel_rfl) rfl pureL pureI (n := 33) rfl (rs := [.tmp 0]) rfl ?_
  simp only [go_sem]
  refine PCall.callW (late16 stA) ⟨weakA _, trivial⟩ ?_
  rw [ltA]
  simp only [go_sem]
  refine PCall.callW (late16 stB) ⟨weakB _ _, trivial⟩ ?_
  rw [ltB]
  simp only [go_sem]
  exact finP rfl

theorem law_start (p : DProg) : PCall Tryz.prog 10 [p.enc] (.b true) := by
  refine pcall_of_vc tabOK Tryz.func10 (by kernel_rfl) rfl pureL pureI (n := 15) rfl (rs := [.tmp 2]) rfl ?_
  repeat' first
    | exact finB rfl
    | exact finI rfl
    | exact finP rfl
    | exact absurd rfl (by assumption)
    | simp only [go_sem]
    | (intro _)
    | refine brK_dec (fun _ => ?_) (fun _ => ?_)
    | refine brK_split (fun hb_ => ?_) (fun hb_ => ?_)
    | refine gK_dec (fun _ => ?_) (fun _ => ?_)
    | refine gK_split (fun hb_ => ?_) (fun hb_ => ?_)
    | refine gqK_dec (fun _ => ?_) (fun _ => ?_)
    | refine ⟨by omega, ?_⟩
    | refine elemHave (by omega) (by assumption) ?_
    | refine elemMap (by omega) (by omega) (fun x hx => ?_)
    | refine drawK mo (by kernel_rfl) ?_
    | ((fail_if_success (clear hb)); refine PCallE.call (small_p _) (fun r hr => ?_); obtain ⟨b, rfl, hb⟩ := hr; cases b <;> (try replace hb := hb rfl))
    | (refine PCall.call live15s ?_)
    | (refine pcK_of live15s ?_)
    | (refine PCall.call (startCheck p hb) ?_)
    | (refine PCall.call (startX p hb) ?_)
    | (refine pcK_of (startCheck p hb) ?_)
    | (refine pcK_of (startX p hb) ?_)
    | (exact absurd rfl (by assumption))
    | (simp only [beq_self_eq_true])
    | (exact finBq rfl (by simp))
end Go.Proofs.YtidjmcmfgimbfaaGreatDoor
