/-
  ChkP3, ChkP4, PrD, PrB, DigX, ScrP, PrP, PrP2, PrP3, PrP4, ShowXd, ShowX, ShowX2, ShowL, ShowXN, RightR, ShowXL, ChkX, ChkX2, PrX, PrX2, PrL, LibT: put together.
-/
import Derived.Test.YtkjfhhioomnbfaaGreatDoorUniA
import Derived.Test.YtkjfhhioomnbfaaGreatDoorUniB
import Derived.Test.YtkjfhhioomnbfaaGreatDoorUniC
import Derived.Shelf.Strings.BuilderX
import Derived.Shelf.Strings.Builder1
import Derived.Shelf.RegionOpenPlain
import Derived.Lib.Strings
import Derived.Lib.Slices
import Derived.Lib.Walk
import Derived.Lib.Builder
import Derived.Lib.AppendStr
import Derived.Lib.UnsafeStr
import Derived.Laws.Externs
import Derived.Laws.IdiomCopy
import Derived.LaidSub
import Derived.Lib.LaidTab
import Derived.MakeChecks
namespace Go.Proofs.YtkjfhhioomnbfaaGreatDoor
open Go.Abs
set_option maxRecDepth 20000
set_option linter.unusedSimpArgs false
set_option linter.unusedVariables false
set_option maxHeartbeats 1000000
attribute [local irreducible] vc vcOps vcStep vcGuard prK hrK gK gsK brK callK ElemK SeqK BlockK ScopeK OpsK CallK LoopK LoopGo finPost ACall PCall PCallE BCall vqOps vqStep vqGuard qrK heK pcK gqK gqsK QOpsK qcallK DrawK
theorem flat_at {L : List DEnum} {i k : Nat} {e : DEnum} {c : ByteArray} (he : L[i]? = some e) (hc : e.Ctors[k]? = some c) : (L.flatMap DEnum.Ctors)[((L.take i).flatMap DEnum.Ctors).length + k]? = some c := by
  obtain ⟨hi, rfl⟩ := List.getElem?_eq_some_iff.1 he
  have h1 : L.flatMap DEnum.Ctors = (L.take i).flatMap DEnum.Ctors ++ (L[i].Ctors ++ (L.drop (i + 1)).flatMap DEnum.Ctors) := by
    have h2 : L = L.take i ++ L[i] :: L.drop (i + 1) := by rw [← List.drop_eq_getElem_cons hi, List.take_append_drop]
    conv => lhs; rw [h2]
    rw [List.flatMap_append, List.flatMap_cons]
  rw [h1, List.getElem?_append_right (by omega), Nat.add_sub_cancel_left, List.getElem?_append_left (List.getElem?_eq_some_iff.1 hc).1]
  exact hc
theorem ctors_all {L : List DEnum} {ps : Array Tmp} {x y : Code} {s : List AV} {l : Nat} {Q : Post} (m k0 g : Nat) (H G : Nat → List Blk) (hH : ∀ n, (H n).length = m) (hG : ∀ n, (G n).length = g)
    (hk : ∀ n, (H n)[k0]? = some (.cells 22 [.lst 2 (L.map DEnum.enc) none])) (hps : ps.size = 2) (hx : noR x = true) (hy : noR y = true)
    (hbody : ∀ (n : Nat) (c : ByteArray) (i k : Nat) (r : List Blk) (K : AV → List Blk → Prop), (L.flatMap DEnum.Ctors)[n]? = some c → (∀ r', K (.b true) (H (n + 1) ++ (.lp l .ready none ps x y s :: (G (n + 1) ++ (r ++ r'))))) →
      vc Tryz.prog ti x (roundA Tryz.prog ti l m ps x y s K) (setPs s ps.toList [.agg [.i (i : Int), .i (k : Int)], .s c]) (H n ++ (.lp l .ready none ps x y s :: (G n ++ r))))
    (hn : ∀ r, Q .normal s (H (L.flatMap DEnum.Ctors).length ++ (.dead :: (G (L.flatMap DEnum.Ctors).length ++ r)))) :
    ACall Tryz.prog 95 [.fn (.yield l) [] [], .ptr k0 0] (H 0 ++ (.lp l .ready none ps x y s :: G 0)) (fun _ h' => loopEnd Q s m h') := by
  refine ctors155 L l k0 (fun i k h => ∃ (r : List Blk) (n : Nat), n = ((L.take i).flatMap DEnum.Ctors).length + k ∧ h = H n ++ (.lp l .ready none ps x y s :: (G n ++ r))) (fun _ => False) ?_ ?_ ?_ ?_ ⟨[], 0, by simp, by simp⟩ ?_ ?_
  · rintro i k h ⟨r, n, _, rfl⟩
    rw [List.getElem?_append_left (List.getElem?_eq_some_iff.1 (hk n)).1]
    exact hk n
  · rintro i k h r' ⟨r, n, hn, rfl⟩
    exact ⟨r ++ r', n, hn, by simp⟩
  · rintro i e h he ⟨r, n, hn, rfl⟩
    exact ⟨r, n, by rw [hn, flatMap_next _ he]; simp, rfl⟩
  · rintro i k e c h he hc ⟨r, n, hn, rfl⟩ K hK1 _
    refine ycall_of_vc tabOK (k := m) (ps := ps) (x := x) (y := y) (s := s) ?_ (by simp [hps]) hx hy (hbody n c i k r K (by rw [hn]; exact flat_at he hc) (fun r' => hK1 _ ⟨r ++ r', n + 1, by omega, by simp⟩))
    rw [List.getElem?_append_right (by rw [hH]; exact Nat.le_refl _), hH, Nat.sub_self]; rfl
  · rintro h' ⟨r, n, hn', rfl⟩
    rw [List.take_length, Nat.add_zero] at hn'
    subst hn'
    have e1 : (H (L.flatMap DEnum.Ctors).length ++ (Blk.lp l .ready none ps x y s :: (G (L.flatMap DEnum.Ctors).length ++ r)))[m]? = some (.lp l .ready none ps x y s) := by
      rw [List.getElem?_append_right (by rw [hH]; exact Nat.le_refl _), hH, Nat.sub_self]; rfl
    have e2 : (H (L.flatMap DEnum.Ctors).length ++ (Blk.lp l .ready none ps x y s :: (G (L.flatMap DEnum.Ctors).length ++ r))).set m .dead = H (L.flatMap DEnum.Ctors).length ++ (.dead :: (G (L.flatMap DEnum.Ctors).length ++ r)) := by
      rw [List.set_append_right _ _ (by rw [hH]; exact Nat.le_refl _), hH, Nat.sub_self]; rfl
    unfold loopEnd
    rw [e1, e2]
    exact hn r
  · rintro h' h
    exact h.elim
theorem ctors_all3 {L : List DEnum} {ps : Array Tmp} {x y : Code} {s : List AV} {l : Nat} {Q : Post} (B1 B2 : Nat → Blk) (B3 : Blk) (r0 : List Blk) (tk : Nat → Blk) {k0 m : Nat} (hk0 : k0 = r0.length + 3) (hm : m = r0.length + 4) (hps : ps.size = 2) (hx : noR x = true) (hy : noR y = true)
    (hbody : ∀ (n : Nat) (c : ByteArray) (i k : Nat) (r : List Blk) (K : AV → List Blk → Prop), (L.flatMap DEnum.Ctors)[n]? = some c →
      (∀ r', K (.b true) (B1 (n + 1) :: B2 (n + 1) :: B3 :: (r0 ++ .cells 22 [.lst 2 (L.map DEnum.enc) none] :: .lp l .ready none ps x y s :: tk (n + 1) :: (r ++ r')))) →
      vc Tryz.prog ti x (roundA Tryz.prog ti l m ps x y s K) (setPs s ps.toList [.agg [.i (i : Int), .i (k : Int)], .s c]) (B1 n :: B2 n :: B3 :: (r0 ++ .cells 22 [.lst 2 (L.map DEnum.enc) none] :: .lp l .ready none ps x y s :: tk n :: r)))
    (hn : ∀ r, Q .normal s (B1 (L.flatMap DEnum.Ctors).length :: B2 (L.flatMap DEnum.Ctors).length :: B3 :: (r0 ++ .cells 22 [.lst 2 (L.map DEnum.enc) none] :: .dead :: tk (L.flatMap DEnum.Ctors).length :: r))) :
    ACall Tryz.prog 95 [.fn (.yield l) [] [], .ptr k0 0] (B1 0 :: B2 0 :: B3 :: (r0 ++ [.cells 22 [.lst 2 (L.map DEnum.enc) none], .lp l .ready none ps x y s, tk 0])) (fun _ h' => loopEnd Q s m h') := by
  subst hk0 hm
  have h := ctors_all (L := L) (ps := ps) (x := x) (y := y) (s := s) (l := l) (Q := Q) (r0.length + 4) (r0.length + 3) 1 (fun n => B1 n :: B2 n :: B3 :: (r0 ++ [.cells 22 [.lst 2 (L.map DEnum.enc) none]])) (fun n => [tk n]) (fun n => by simp) (fun n => rfl) (fun n => by simp) hps hx hy
    (fun n c i k r K hc hK => by have := hbody n c i k r K hc (fun r' => by have := hK r'; simpa using this); simpa using this) (fun r => by have := hn r; simpa using this)
  simpa using h
theorem flat_len {L : List DEnum} (h : ∀ e ∈ L, okEnum e) : (L.flatMap DEnum.Ctors).length ≤ 12 * L.length := by
  induction L with
  | nil => simp
  | cons e L ih =>
    have h1 := (h e List.mem_cons_self).1
    have h2 := ih fun x hx => h x (List.mem_cons_of_mem _ hx)
    rw [List.flatMap_cons, List.length_append, List.length_cons]
    omega
theorem en_fin {L : List DEnum} {u v : Bool} (hg : greatE L = false) (hu : (L.all fun e => lowF e.Name && decide (0 < e.Ctors.length)) = u) (hv : (L.flatMap DEnum.Ctors).all highF = v) : enumsF L = if (v && u) = true then (if (onceB (L.map DEnum.Name) && onceB (L.flatMap DEnum.Ctors)) = true then 0 else 6) else 1 := by
  unfold enumsF rightEn
  rw [hg, hu, hv, Bool.and_comm]
  simp

theorem enumsP (L : List DEnum) (hl : okEnums L) : PCall Tryz.prog 40 [.lst 2 (L.map DEnum.enc) none] (.i (enumsF L)) := by
  have hl8 := hl.1
  refine pcall_of_vc tabOK Tryz.func40 (by kernel_rfl) rfl pureL pureI (n := 61) rfl (rs := [.tmp 2]) rfl ?_
  simp only [go_sem]
  refine PCall.call (great74 L) ?_
  cases hg : greatE L with
  | true =>
    simp only [go_sem]
    exact finIq rfl (en_many hg).symm
  | false =>
  simp only [go_sem]
  intro _
  refine loop_ghost (ghost_tok 3 9 1 rfl) ?_
  refine loop_fr [3, 7, 14, 15, 16, 17, 18, 19, 20, 21, 22, 23, 24, 25, 26, 27, 28, 29, 30, 31, 32, 33, 34, 35] (fun m C hh => ∃ (i : Nat) (r : List Blk), i ≤ L.length ∧ m = L.length - i ∧ C = [(14, .raw (.int .i64 (i : Nat))), (3, .lst 1 (((L.take i).map DEnum.Name).map AV.s) (some 2))] ∧ hh = .cells 44 [.raw (.slice none 0 0)] :: .cells 4 [.b ((L.take i).all fun e => lowF e.Name && decide (0 < e.Ctors.length))] :: .tok 9 1 (L.take i).length :: r) L.length _ ⟨0, [], by omega, by omega, rfl, rfl⟩ (.cons rfl (.cons rfl .nil)) ?_
  rintro m C j hh ⟨i, r, hi, rfl, rfl, rfl⟩
  simp only [go_sem]
  refine brK_dec (fun hlt => ?_) (fun hge => ?_)
  · simp only [go_sem]
    refine elemMap (by omega) (by omega) (fun d hd => ?_)
    have hli : (L.take i).length = i := by rw [List.length_take]; omega
    have hli2 : (L.take (i + 1)).length = i + 1 := by rw [List.length_take]; omega
    have hst := take_mapS (f := DEnum.Name) hd
    have hal := all_nextZ (fun e : DEnum => lowF e.Name && decide (0 < e.Ctors.length)) hd
    have hgt : decide ((d.Ctors.length : Int) > 0) = decide (0 < d.Ctors.length) := decide_eq_decide.2 (by omega)
    try simp only [go_sem]
    refine ⟨by simp; omega, ?_⟩
    generalize hu : ((L.take i).all fun e => lowF e.Name && decide (0 < e.Ctors.length)) = u at hal ⊢
    cases u
    all_goals
      repeat' first
        | (exfalso; omega)
        | simp only [go_sem]
        | (intro _)
        | refine gK_dec (fun _ => ?_) (fun _ => ?_)
        | refine brK_dec (fun _ => ?_) (fun _ => ?_)
        | (refine PCall.call (low6 d.Name) ?_; generalize hlo : lowF d.Name = q at hal ⊢; cases q)
        | exact loopFr _ (by omega) ⟨i + 1, _, by omega, rfl, rfl, by rw [hli2, hal]; simp only [hli, hgt, Bool.false_and, Bool.true_and]; rfl⟩ (.next rfl (by omega) (.cons (by rw [hst]; simp [slot]) .nil)) rfl
  · simp only [go_sem]
    rw [List.take_of_length_le (by omega)]
    generalize hu : (L.all fun e => lowF e.Name && decide (0 < e.Ctors.length)) = u
    refine ctors154 L ?_
    simp only [go_sem]
    intro l
    refine acall_ghost (ghost_cell 0 0 9 1 rfl rfl) ?_
    simp only [go_sem]
    refine ctors_all3 (fun n => .cells 44 [.lst 1 (((L.flatMap DEnum.Ctors).take n).map AV.s) (some (r.length + 2 + 1 + 1 + 1))]) (fun n => .cells 4 [.b (((L.flatMap DEnum.Ctors).take n).all highF && u)]) (.tok 9 1 L.length) r (fun n => .tok 9 1 ((L.flatMap DEnum.Ctors).take n).length) (by omega) (by omega) rfl rfl rfl (fun n c i' k' r' K hc hK => ?_) (fun r' => ?_)
    · have hfl := flat_len hl.2
      have hle : ((L.flatMap DEnum.Ctors).take n).length ≤ 96 := by rw [List.length_take]; omega
      have hst : (((L.flatMap DEnum.Ctors).take (n + 1)).map AV.s) = (((L.flatMap DEnum.Ctors).take n).map AV.s) ++ [AV.s c] := by
        obtain ⟨hn, rfl⟩ := List.getElem?_eq_some_iff.1 hc
        rw [List.take_succ_eq_append_getElem hn, List.map_append]; rfl
      have hln : ((L.flatMap DEnum.Ctors).take (n + 1)).length = ((L.flatMap DEnum.Ctors).take n).length + 1 := by
        have := congrArg List.length hst
        simpa using this
      have hal : (((L.flatMap DEnum.Ctors).take (n + 1)).all highF && u) = (((L.flatMap DEnum.Ctors).take n).all highF && u && highF c) := by
        rw [all_next highF hc]
        cases ((L.flatMap DEnum.Ctors).take n).all highF <;> cases u <;> cases highF c <;> rfl
      simp only [hst, hln, hal] at hK
      simp only [go_sem, setPs, roundA]
      refine ⟨by omega, ?_⟩
      generalize (((L.flatMap DEnum.Ctors).take n).all highF && u) = w at hK ⊢
      cases w
      all_goals
        repeat' first
          | simp only [go_sem, roundB]
          | refine ⟨rfl, ?_⟩
          | (refine PCall.call (high8 c) ?_; generalize highF c = q at hK ⊢; cases q)
          | (have hk := hK [.tok 9 1 1]; (simpa using hk); done)
    · simp only [go_sem]
      rw [List.take_length]
      generalize hv : (L.flatMap DEnum.Ctors).all highF = v
      have hfin := en_fin hg hu hv
      cases u <;> cases v
      all_goals
        repeat' first
          | simp only [go_sem]
          | (refine PCall.callW (once12 (L.map DEnum.Name)) ⟨.tok _ _ _, trivial⟩ ?_; generalize onceB (L.map DEnum.Name) = q at hfin ⊢; cases q)
          | (refine PCall.callW (once12 (L.flatMap DEnum.Ctors)) ⟨.tok _ _ _, trivial⟩ ?_; generalize onceB (L.flatMap DEnum.Ctors) = q at hfin ⊢; cases q)
          | (refine finIq rfl ?_; rw [hfin]; simp; done)
abbrev progBd (p : DProg) : Blk := .cells 25 [.lst 2 (p.Enums.map DEnum.enc) none, .lst 5 (p.Nodes.map DNode.enc) none]

theorem some37 {p : DProg} {q : DNode → Bool} {g : Nat} {first capt : List AV} {h : List Blk} {K : AV → List Blk → Prop} (hp : ∀ x ∈ p.Nodes, ∀ (r : List Blk) (K : AV → List Blk → Prop), K (.b (q x)) (h ++ r) → ACall Tryz.prog g (first ++ DNode.enc x :: capt) (h ++ r) K)
    (hK : K (.b (p.Nodes.any q)) h) : ACall Tryz.prog 41 [p.enc, .fn (.func g) first capt] h K := by
  refine acall_of_vc tabOK Tryz.func41 (by kernel_rfl) rfl (n := 9) rfl (rs := [.tmp 4]) rfl ?_
  simp only [go_sem]
  refine containsNo (p := q) (fun x hx K hK => hp x hx _ K hK) ?_
  simp only [go_sem]
  exact finH0 _ rfl (.raw _) hK

theorem check39 (p : DProg) (n : DNode) (hn : okNode n) {k : Nat} {h : List Blk} {K : AV → List Blk → Prop} (hk : h[k]? = some (progBd p)) (hK : K (.b (!(nodeF p.Enums.length n))) h) : ACall Tryz.prog 43 [n.enc, .ptr k 0] h K := by
  have hkl := (List.getElem?_eq_some_iff.1 hk).1
  have hk1 : ∀ r, (h ++ r)[k]? = some (.cells 25 [.lst 2 (p.Enums.map DEnum.enc) none, .lst 5 (p.Nodes.map DNode.enc) none]) := fun r => by rw [List.getElem?_append_left hkl]; exact hk
  refine acall_of_vc tabOK Tryz.func43 (by kernel_rfl) rfl (n := 9) rfl (rs := [.tmp 3]) rfl ?_
  simp only [go_sem, hk1]
  refine PCall.call (rightN p.Enums n hn) ?_
  simp only [go_sem]
  exact finH0 _ rfl (.raw _) hK

theorem check41 (n : DNode) (hl : (allV n).length ≤ 60) {h : List Blk} {K : AV → List Blk → Prop} (hK : K (.b (!(onceN n))) h) : ACall Tryz.prog 45 [n.enc] h K := by
  refine acall_of_vc tabOK Tryz.func45 (by kernel_rfl) rfl (n := 6) rfl (rs := [.tmp 2]) rfl ?_
  simp only [go_sem]
  refine PCall.call (onceP n hl) ?_
  simp only [go_sem]
  exact finH0 _ rfl (.raw _) hK
theorem great_f (n : DNode) {h : List Blk} {K : AV → List Blk → Prop} (hK : K (.b (greatF n)) h) : ACall Tryz.prog 42 [n.enc] h K := by
  refine PCall.call (greatP n) ?_
  exact hK
theorem okN_len {n : DNode} (h : okNode n) : (allV n).length ≤ 60 := by
  have h1 := h.1.1
  have h2 := h.2.1.1
  have h3 := h.2.2.1.1
  simp [allV]
  omega

theorem checkP (p : DProg) (hp : okProg p) : PCall Tryz.prog 20 [p.enc] (.i (checkF p)) := by
  have hp6 := hp.2.1
  refine pcall_of_vc tabOK Tryz.func20 (by kernel_rfl) rfl pureL pureI (n := 52) rfl (rs := [.tmp 2]) rfl ?_
  unfold checkF
  simp only [go_sem]
  refine PCall.call (enumsP p.Enums hp.1) ?_
  generalize enumsF p.Enums = e
  simp only [go_sem]
  refine brK_dec (fun h0 => ?_) (fun h0 => ?_)
  · simp only [go_sem]
    exact finIq rfl (by rw [if_pos (by simpa using h0)])
  rw [if_neg (by simpa using h0)]
  simp only [go_sem]
  intro _
  refine loop_ghost (ghost_tok 4 9 1 rfl) ?_
  refine loop_fr [4, 6, 16, 17, 18, 19, 20, 21, 22, 23, 24, 25] (fun m C hh => ∃ (i : Nat) (r : List Blk), i ≤ p.Nodes.length ∧ m = p.Nodes.length - i ∧ C = [(16, .raw (.int .i64 (i : Nat))), (4, .lst 1 (((p.Nodes.take i).map DNode.Name).map AV.s) (some 1))] ∧ hh = progBd p :: .tok 9 1 (p.Nodes.take i).length :: r) p.Nodes.length _ ⟨0, [], by omega, by omega, rfl, rfl⟩ (.cons rfl (.cons rfl .nil)) ?_
  rintro m C j hh ⟨i, r, hi, rfl, rfl, rfl⟩
  simp only [go_sem]
  refine brK_dec (fun hlt => ?_) (fun hge => ?_)
  · simp only [go_sem]
    refine elemMap (by omega) (by omega) (fun d hd => ?_)
    have hli : (p.Nodes.take i).length = i := by rw [List.length_take]; omega
    have hli2 : (p.Nodes.take (i + 1)).length = i + 1 := by rw [List.length_take]; omega
    have hst := take_mapS (f := DNode.Name) hd
    try simp only [go_sem]
    refine ⟨by simp; omega, ?_⟩
    try simp only [go_sem]
    exact loopFr _ (by omega) ⟨i + 1, _, by omega, rfl, rfl, by rw [hli2, hli]⟩ (.next rfl (by omega) (.cons (by rw [hst]; simp [slot]) .nil)) rfl
  · rw [List.take_of_length_le (by omega)]
    have hany1 : p.Nodes.all (nodeF p.Enums.length) = !(p.Nodes.any fun n => !(nodeF p.Enums.length n)) := List.all_eq_not_any_not
    have hany2 : p.Nodes.all onceN = !(p.Nodes.any fun n => !(onceN n)) := List.all_eq_not_any_not
    rw [hany1, hany2]
    repeat' first
      | (exfalso; omega)
      | simp only [go_sem]
      | (intro _)
      | refine brK_dec (fun _ => ?_) (fun _ => ?_)
      | refine gK_dec (fun _ => ?_) (fun _ => ?_)
      | (refine some37 (q := greatF) (fun x hx r K hK => great_f x hK) ?_; generalize p.Nodes.any greatF = b; cases b)
      | (refine some37 (q := fun n => !(nodeF p.Enums.length n)) (fun x hx r K hK => check39 p x (hp.2.2 x hx) (k := 0) rfl hK) ?_; generalize (p.Nodes.any fun n => !(nodeF p.Enums.length n)) = b; cases b)
      | (refine some37 (q := fun n => !(onceN n)) (fun x hx r K hK => check41 x (okN_len (hp.2.2 x hx)) hK) ?_; generalize (p.Nodes.any fun n => !(onceN n)) = b; cases b)
      | (refine PCall.callW (once12 (p.Nodes.map DNode.Name)) ⟨.tok _ _ _, trivial⟩ ?_; generalize onceB (p.Nodes.map DNode.Name) = b; cases b)
      | (refine finIq rfl ?_; rw [if_pos (c := p.Nodes.length = 0) (by omega)]; done)
      | (refine finIq rfl ?_; (try rw [if_pos (c := p.Nodes.length = 0) (by omega)]); (try rw [if_neg (c := p.Nodes.length = 0) (by omega)]); (try rw [decide_eq_true (p := p.Nodes.length > 6) (by omega)]); (try rw [decide_eq_false (p := p.Nodes.length > 6) (by omega)]); simp; done)
def tNone : ByteArray := ⟨#[]⟩
def tInt : ByteArray := ⟨#[105, 110, 116]⟩
def tBool : ByteArray := ⟨#[98, 111, 111, 108]⟩
def enumN (l : List DEnum) (i : Nat) : ByteArray := match l[i]? with
  | some e => e.Name
  | none => tNone
def baseT (l : List DEnum) (t : DTy) : ByteArray := if t.Kind = 2 then tBool else if t.Kind = 3 then enumN l t.Enum.toNat else tInt
/-- A type's text. -/
def typeT (l : List DEnum) (t : DTy) : ByteArray := if rightTyF l.length t = true then (if t.Len > 0 then baseT l t ++ ((⟨#[91]⟩ ++ digB t.Len) ++ ⟨#[93]⟩) else baseT l t) else tNone
/-- A variable's text. -/
def declT (l : List DEnum) (d : DDecl) : ByteArray := if d.On = tNone then (d.Name ++ ⟨#[58, 32]⟩) ++ typeT l d.Ty else (((d.Name ++ ⟨#[58, 32]⟩) ++ typeT l d.Ty) ++ ⟨#[32, 119, 104, 101, 110, 32]⟩) ++ onT d.On d.Ctor
def semiT : ByteArray := ⟨#[59, 32]⟩
def commaT : ByteArray := ⟨#[44, 32]⟩
def declsT (l : List DEnum) (ds : List DDecl) : ByteArray := joinB (ds.map (declT l)) semiT
def namesT (l : List ByteArray) : ByteArray := joinB l commaT
def lineT (l : List ByteArray) : ByteArray := joinB l tNone ++ ⟨#[10]⟩
def nodeL (l : List DEnum) (n : DNode) : List ByteArray := [⟨#[110, 111, 100, 101, 32]⟩, n.Name, ⟨#[40]⟩, declsT l n.Ins, ⟨#[41, 32, 114, 101, 116, 117, 114, 110, 115, 32, 40]⟩, declsT l n.Outs, ⟨#[41]⟩]
def varsL (l : List DEnum) (n : DNode) : List ByteArray := [⟨#[118, 97, 114, 32]⟩, declsT l n.Vars, ⟨#[59]⟩]
noncomputable def eqL (x : DEq) : List ByteArray := [⟨#[32, 32]⟩, namesT x.Names, ⟨#[32, 61, 32]⟩, exprT x.E, ⟨#[59]⟩]
def letL : List ByteArray := [⟨#[108, 101, 116]⟩]
def telL : List ByteArray := [⟨#[116, 101, 108]⟩]
def enumL (e : DEnum) : List ByteArray := [⟨#[101, 110, 117, 109, 32]⟩, e.Name, ⟨#[32, 123, 32]⟩, namesT e.Ctors, ⟨#[32, 125, 59]⟩]
def varsT (l : List DEnum) (n : DNode) : ByteArray := if n.Vars.length > 0 then lineT (varsL l n) else tNone
noncomputable def eqsT (s : ByteArray) (l : List DEq) : ByteArray := l.foldl (fun s x => s ++ lineT (eqL x)) s
/-- A node's text, behind another. -/
noncomputable def nodeT (s : ByteArray) (l : List DEnum) (n : DNode) : ByteArray := eqsT (((s ++ lineT (nodeL l n)) ++ varsT l n) ++ lineT letL) n.Eqs ++ lineT telL
def enumsT (l : List DEnum) : ByteArray := l.foldl (fun s e => s ++ lineT (enumL e)) tNone
noncomputable def nodesT (s : ByteArray) (l : List DEnum) (ns : List DNode) : ByteArray := ns.foldl (fun s n => nodeT s l n) s
/-- A program's text. -/
noncomputable def textT (p : DProg) : ByteArray := if checkF p = 0 then nodesT (enumsT p.Enums) p.Enums p.Nodes else tNone
theorem eqsT_next {s : ByteArray} {l : List DEq} {i : Nat} {x : DEq} (h : l[i]? = some x) : eqsT s (l.take (i + 1)) = eqsT s (l.take i) ++ lineT (eqL x) := by
  unfold eqsT
  rw [List.take_add_one, h, List.foldl_append]
  rfl
theorem enumsT_next {l : List DEnum} {i : Nat} {x : DEnum} (h : l[i]? = some x) : enumsT (l.take (i + 1)) = enumsT (l.take i) ++ lineT (enumL x) := by
  unfold enumsT
  rw [List.take_add_one, h, List.foldl_append]
  rfl
theorem nodesT_next {s : ByteArray} {l : List DEnum} {ns : List DNode} {i : Nat} {x : DNode} (h : ns[i]? = some x) : nodesT s l (ns.take (i + 1)) = nodeT (nodesT s l (ns.take i)) l x := by
  unfold nodesT
  rw [List.take_add_one, h, List.foldl_append]
  rfl
/-! ### How great the texts are -/
theorem joinB_le {l : List ByteArray} {sep : ByteArray} {k : Nat} (h : ∀ x ∈ l, x.size ≤ k) : (joinB l sep).size ≤ l.length * (k + sep.size) := by
  have h1 := joinB_size l sep
  have h2 : sumS l ≤ k * l.length := by
    clear h1
    induction l with
    | nil => exact Nat.zero_le _
    | cons a l ih =>
      rw [sumS_cons, List.length_cons, Nat.mul_add]
      have h1 := h a List.mem_cons_self
      have h2 := ih fun x hx => h x (List.mem_cons_of_mem _ hx)
      omega
  rw [Nat.mul_add, Nat.mul_comm l.length k]
  omega
theorem baseT_size {l : List DEnum} (hl : okEnums l) (t : DTy) : (baseT l t).size ≤ 100 := by
  unfold baseT
  split
  · decide
  · split
    · unfold enumN
      split
      · rename_i e he
        exact (hl.2 e (List.mem_of_getElem? he)).2.1
      · decide
    · decide
theorem typeT_size {l : List DEnum} (hl : okEnums l) (t : DTy) : (typeT l t).size ≤ 200 := by
  have h1 := baseT_size hl t
  unfold typeT
  split
  · rename_i hr
    unfold rightTyF at hr
    have hr := of_decide_eq_true hr
    split
    · have h2 := dig_size t.Len ⟨by omega, by omega⟩
      rw [ByteArray.size_append, ByteArray.size_append, ByteArray.size_append]
      have e1 : (⟨#[91]⟩ : ByteArray).size = 1 := rfl
      have e2 : (⟨#[93]⟩ : ByteArray).size = 1 := rfl
      omega
    · omega
  · decide
theorem declT_size {l : List DEnum} (hl : okEnums l) {d : DDecl} (hd : d.Name.size ≤ 100 ∧ d.On.size ≤ 100 ∧ d.Ctor.size ≤ 100) : (declT l d).size ≤ 600 := by
  have h1 := typeT_size hl d.Ty
  have h2 := onT_size d.On d.Ctor
  have e1 : (⟨#[58, 32]⟩ : ByteArray).size = 2 := rfl
  have e2 : (⟨#[32, 119, 104, 101, 110, 32]⟩ : ByteArray).size = 6 := rfl
  unfold declT
  split
  · rw [ByteArray.size_append, ByteArray.size_append]
    omega
  · rw [ByteArray.size_append, ByteArray.size_append, ByteArray.size_append, ByteArray.size_append]
    omega
theorem declsT_size {l : List DEnum} (hl : okEnums l) {ds : List DDecl} (hd : fewD ds) : (declsT l ds).size ≤ 12040 := by
  have h := joinB_le (l := ds.map (declT l)) (sep := semiT) (k := 600) fun x hx => by
    obtain ⟨d, hm, rfl⟩ := List.mem_map.1 hx
    exact declT_size hl (hd.2 d hm)
  have e : semiT.size = 2 := rfl
  rw [List.length_map, e] at h
  have := hd.1
  unfold declsT
  omega
theorem namesT_size {l : List ByteArray} (hl : l.length ≤ 20) (h : ∀ x ∈ l, x.size ≤ 100) : (namesT l).size ≤ 2040 := by
  have h := joinB_le (l := l) (sep := commaT) (k := 100) h
  have e : commaT.size = 2 := rfl
  rw [e] at h
  unfold namesT
  omega
theorem exprT_size {e : Ex} (ho : okE e) (hn : ∀ y ∈ parts e, I64 y.n) : (exprT e).size ≤ 200000 := by
  unfold exprT
  split
  · rename_i hr
    have h1 := showT_size e (right_ok hr ho hn)
    have h2 := ho.1
    omega
  · show 0 ≤ _
    omega
end Go.Proofs.YtkjfhhioomnbfaaGreatDoor

namespace Go.Proofs.YtkjfhhioomnbfaaGreatDoor
open Go.Abs
set_option maxRecDepth 20000
set_option linter.unusedSimpArgs false
set_option linter.unusedVariables false
set_option maxHeartbeats 1000000
attribute [local irreducible] vc vcOps vcStep vcGuard prK hrK gK gsK brK callK ElemK SeqK BlockK ScopeK OpsK CallK LoopK LoopGo finPost ACall PCall PCallE BCall vqOps vqStep vqGuard qrK heK pcK gqK gqsK QOpsK qcallK DrawK
open Go.RowKit Go.Shelf
theorem moB : Tryz.prog.follows .mixedOrders = true := by kernel_rfl
theorem acall_gb {P : Program} {f : FuncId} {args args' : List AV} {h h' : List Blk} {K : AV → List Blk → Prop} (hg : Ghost args h args' h') (hc : ACall P f args' h' K) : ACall P f args h K := by
  unfold ACall Ghost at *
  intro S φ w vs hr ha
  obtain ⟨S1, φ1, k1, k2, k3⟩ := hg S φ w vs ha hr
  obtain ⟨h1, h2⟩ := hc S1 φ1 w vs k2 k1
  refine ⟨h1, Calls.mono h2 ?_⟩
  rintro e w' ⟨v, r, hh, S', φ', e1, e2, e3, e4, e5⟩
  exact ⟨v, r, hh, S', φ', e1, e2, e3, e4, k3.trans e5⟩
/-- A cell that holds no slice comes to hold an empty slice of the call's own. -/
theorem ghost_ownc {s : List AV} {h : List Blk} (k i : Nat) (e : TypeId) (sz : Nat) {t : TypeId} {cs : List AV} (hk : h[k]? = some (.cells t cs)) (ht : cs[i]? = some (.raw (.slice none 0 0))) :
    Ghost s h s ((h ++ [Blk.own e sz []]).set k (Blk.cells t (cs.set i (.own sz h.length 0)))) := by
  intro S φ w vs hs hr
  obtain ⟨k1, k2⟩ := hr.push (l := .tok 0 (.slice none 0 0)) (x := .own e sz []) (S' := S) (w' := w) rfl rfl rfl (Nat.le_refl _) (fun _ _ => rfl) (fun _ h => h) (fun _ h => .inl h) hr.bnd
    ⟨_, upd_same _ _ _, by simp, .inl ⟨rfl, rfl⟩⟩ (fun b hb => by simp [blockOf] at hb)
  obtain ⟨q1, q2⟩ := k1.recell (k := k) (t := t) (cs := cs) (cs' := cs.set i (.own sz h.length 0))
    (by rw [List.getElem?_append_left (by obtain ⟨a, _⟩ := List.getElem?_eq_some_iff.1 hk; exact a)]; exact hk)
    (fun vs hc => by
      obtain ⟨v, hv, hcv⟩ := hc.at ht
      cases hcv
      have := hc.set i (C.own (S := S) (w := w) (φ := upd φ h.length (.tok 0 (.slice none 0 0))) sz h.length 0 none 0 (Nat.le_refl _) (by simp [maxLen]) ⟨_, _, upd_same _ _ _, Nat.le_refl _, fun _ => rfl⟩)
      have e : vs.setIfInBounds i (.slice none 0 0) = vs := by
        apply Array.ext
        · simp
        · intro j h1 h2
          by_cases ei : i = j
          · subst ei
            have hv' : vs[i] = .slice none 0 0 := by
              rw [Array.getElem?_eq_getElem h2] at hv
              exact Option.some.inj hv
            simp [hv']
          · simp [h2, ei]
      rw [e] at this
      exact this)
  exact ⟨S, _, q2.CAll (k2.CAll hs), q1, k2.trans q2⟩
theorem layJ_240 : Go.Proofs.Lays.n240 Tryz.prog layJ_ren := { layJ_Laysn156 with }
theorem layJ_169 : Go.Proofs.Lays.n169 Tryz.prog layJ_ren := { layJ_Laysn156 with }
theorem lies_page : liesAt Tryz.prog Tryz.prog.depth 59 (3 / Tryz.prog.cellsOf 59) 0 57 1 = true := by kernel_rfl
set_option maxHeartbeats 1000000 in
set_option maxRecDepth 100000 in
/-- copyCheck at a page that has not been written: it stores its own address. -/
theorem cc_fresh (b : Nat) (v ev : Value) (w : World) (hbk : w.heap[b]? = some (.cells #[.pointer none, v, ev] 59 (0, 0))) :
    Calls Tryz.prog 75 #[.pointer (some ⟨b, 0, none⟩)] w fun e w' => e = .returned (.tuple #[]) ∧ w' = w.setCell ⟨b, 0, none⟩ (.pointer (some ⟨b, 0, none⟩)) := by
  have L := layJ_240
  have X := layJ_BuilderExtra.toX72
  have h0 : w.cell? ⟨b, 0, none⟩ = some (.pointer none) := by rw [Lib.cell_of_heap hbk]; rfl
  have hsh : w.shape? b = some (59, 3) := by simp [World.shape?, hbk]
  have hfz : w.frozen? ⟨b, 0, none⟩ = false := Lib.frozen_of_heap hbk 0
  obtain ⟨j, hj, hjs⟩ := Option.map_eq_some_iff.1 X.sizeBuilder
  have mixed := L.mixed
  have t72 := L.t72; have a72 := L.a72; have z72 := L.z72; have v72 := L.v72; have u72 := run_underlying L.t72
  have t70 := L.t70; have a70 := L.a70; have z70 := L.z70; have v70 := L.v70; have u70 := run_underlying L.t70
  have t9 := L.t9; have a9 := L.a9; have z9 := L.z9; have v9 := L.v9; have u9 := run_underlying L.t9
  have t4 := L.t4; have a4 := L.a4; have z4 := L.z4; have v4 := L.v4; have u4 := run_underlying L.t4
  have t164 := L.t164; have a164 := L.a164; have z164 := L.z164; have v164 := L.v164; have u164 := run_underlying L.t164
  show Calls Tryz.prog (layJ_ren.f 240) _ _ _
  go_enter L.f240, Body.n240_ntmps layJ_ren
  go_wp2
  rw [Lib.run_to_unsafe w ⟨b, 0, none⟩ L.t70 L.t164 hj (by rw [hjs]; decide) hsh (Nat.zero_lt_succ 2)]
  simp only [Result.andThen]
  rw [Oper.upon_value]
  go_wp2
  rw [run_callFunc_extern L.f276 (by kernel_rfl) (by kernel_rfl) (by kernel_rfl) (e := Extern.AbiNoEscape.same) (by kernel_rfl)]
  rw [Lib.run_noEscape]
  simp only [Result.andThen]
  rw [Oper.upon_value]
  go_wp2
  rw [Lib.run_from_unsafe w ⟨b, 0, none⟩ L.t164 L.t70 hj hsh lies_page]
  simp only [Result.andThen]
  rw [Oper.upon_value]
  go_wp2
  go_end0
  exact ⟨rfl, rfl⟩
theorem cc_used (b : Nat) (w : World) (h0 : w.cell? ⟨b, 0, none⟩ = some (.pointer (some ⟨b, 0, none⟩))) : Calls Tryz.prog 75 #[.pointer (some ⟨b, 0, none⟩)] w fun e w' => e = .returned (.tuple #[]) ∧ w' = w :=
  Go.Proofs.Any.Builder_copyCheck_used (ρ := layJ_ren) layJ_240 layJ_BuilderExtra.toX72 b w h0
theorem vs3 {vs : Array Value} (h : vs.size = 3) : ∃ x y z, vs = #[x, y, z] := by
  obtain ⟨l⟩ := vs
  match l, h with
  | [x, y, z], _ => exact ⟨x, y, z, rfl⟩
theorem vs1 {vs : Array Value} (h : vs.size = 1) : ∃ x, vs = #[x] := by
  obtain ⟨l⟩ := vs
  match l, h with
  | [x], _ => exact ⟨x, rfl⟩
theorem set_same {α : Type} {l : List α} {k : Nat} {x : α} (h : l[k]? = some x) : l.set k x = l := by
  apply List.ext_getElem?
  intro j
  rw [List.getElem?_set]
  by_cases e : k = j
  · subst e
    have := (List.getElem?_eq_some_iff.1 h).1
    rw [if_pos rfl, if_pos this, h]
  · rw [if_neg e]
theorem cell0 {w : World} {b : Nat} {v x y z : Value} (h : w.heap[b]? = some (.cells #[x, y, z] 59 (0, 0))) : (w.setCell ⟨b, 0, none⟩ v).heap[b]? = some (.cells #[v, y, z] 59 (0, 0)) := by
  simp [World.setCell, Array.getElem?_modify, h]
theorem cells_own' (a b c : Nat) : AV.cells (.own a b c) = [.own a b c] := rfl
theorem one_own' (a b c : Nat) : AV.one (.own a b c) = true := rfl

/-- copyCheck, at a page. -/
theorem cc_acall {h : List Blk} {K : AV → List Blk → Prop} {k : Nat} {pv v ev : AV} (hk : h[k]? = some (.cells 59 [pv, v, ev])) (hp : pv = .raw (.pointer none) ∨ pv = .ptr k 0) (hK : K (.tup []) (h.set k (.cells 59 [.ptr k 0, v, ev]))) : ACall Tryz.prog 75 [.ptr k 0] h K := by
  unfold ACall
  intro S φ w vs hr ha
  obtain ⟨u, rfl⟩ := vs1 ha.1
  have hu := ha.2 0 _ _ rfl rfl
  obtain ⟨b, cs, hφ, hb, hcs, h1, hS⟩ := hr.blk k _ hk
  cases hu with
  | ptr _ _ b' hb' =>
    rw [hφ] at hb'
    cases hb'
    obtain ⟨x, y, z, rfl⟩ := vs3 hcs.1
    have hx := hcs.2 0 _ _ rfl rfl
    have hy := hcs.2 1 _ _ rfl rfl
    have hz := hcs.2 2 _ _ rfl rfl
    refine ⟨run_callFunc Tryz.func75 (by kernel_rfl) rfl _ _, ?_⟩
    rcases hp with rfl | rfl
    · cases hx
      refine Calls.mono (cc_fresh b y z w hb) ?_
      rintro e w' ⟨rfl, rfl⟩
      have hnew : (w.setCell ⟨b, 0, none⟩ (.pointer (some ⟨b, 0, none⟩))).heap[b]? = some (.cells #[.pointer (some ⟨b, 0, none⟩), y, z] 59 (0, 0)) := cell0 hb
      have hoth : ∀ b', b' ≠ b → (w.setCell ⟨b, 0, none⟩ (.pointer (some ⟨b, 0, none⟩))).heap[b']? = w.heap[b']? := fun b' hne => Below.heap_setCell _ _ _ _ (fun e => hne e)
      have howner : blockOf (φ k) (.cells 59 [.raw (.pointer none), v, ev]) = some b := by rw [hφ]; rfl
      have hcell : ∀ a, S a → (w.setCell ⟨b, 0, none⟩ (.pointer (some ⟨b, 0, none⟩))).cell? a = w.cell? a := fun a ha => cell_of_heap (hoth _ (hS a ha))
      have hle : ∀ j, (φ j).le (upd φ k (φ k) j) := fun j => by
        by_cases e : j = k
        · subst e; rw [upd_same]; exact Loc.le_refl _
        · rw [upd_other _ e]; exact Loc.le_refl _
      obtain ⟨p1, p2⟩ := hr.put (S' := S) (l := φ k) (x := .cells 59 [.ptr k 0, v, ev]) (w' := w.setCell ⟨b, 0, none⟩ (.pointer (some ⟨b, 0, none⟩))) hk rfl rfl rfl (by simp [World.setCell]) (fun b' _ hne => hoth b' (fun e => hne (by rw [e]; exact howner))) (fun _ h => h) hcell (fun _ h => .inl h) (fun a ha => by simpa [World.setCell] using hr.bnd a ha) (Loc.le_refl _)
        ⟨b, _, by rw [upd_same]; exact hφ, hnew, ⟨rfl, fun i c u hc hu => by
          match i with
          | 0 => cases hc; cases hu; exact .ptr _ _ _ (by rw [upd_same]; exact hφ)
          | 1 => cases hc; cases hu; exact hy.mono (fun _ h => h) hcell hle
          | 2 => cases hc; cases hu; exact hz.mono (fun _ h => h) hcell hle
          | i + 3 => cases hc⟩, fun u hu => by
            simp only [List.mem_cons, List.not_mem_nil, or_false] at hu
            rcases hu with rfl | rfl | rfl
            · rfl
            · exact h1 _ (by simp)
            · exact h1 _ (by simp), hS⟩
        (fun b' hb' => .inr (by rw [howner]; rw [hφ] at hb'; exact hb'))
      exact ⟨_, .tup [], _, S, _, rfl, hK, .tup _ _ rfl (fun i a v h => by cases h), p1, p2⟩
    · cases hx with
      | ptr _ _ b' hb' =>
        rw [hφ] at hb'
        cases hb'
        refine Calls.mono (cc_used b w (by rw [Lib.cell_of_heap hb]; rfl)) ?_
        rintro e w' ⟨rfl, rfl⟩
        rw [set_same hk] at hK
        exact ⟨_, .tup [], _, S, _, rfl, hK, .tup _ _ rfl (fun i a v h => by cases h), hr, Ext.refl _ _ _ _⟩
/-- A page that holds so many bytes. -/
abbrev pgB (k kb : Nat) (n : Nat) (ev : AV) : Blk := .cells 59 [.ptr k 0, .own 1 kb n, ev]
/-- The heap with the page's bytes es. -/
def wr (h : List Blk) (k kb : Nat) (ev : AV) (es : List AV) : List Blk := (h.set kb (.own 5 1 es)).set k (pgB k kb es.length ev)
structure Pg (h : List Blk) (k kb : Nat) (ev : AV) (es : List AV) : Prop where
  page : ∃ pv, h[k]? = some (.cells 59 [pv, .own 1 kb es.length, ev]) ∧ (pv = .raw (.pointer none) ∨ pv = .ptr k 0)
  own : h[kb]? = some (.own 5 1 es)
  ne : k ≠ kb
theorem wr_k {h : List Blk} {k kb : Nat} {ev : AV} {es : List AV} (hk : k < h.length) : (wr h k kb ev es)[k]? = some (pgB k kb es.length ev) := by
  unfold wr
  rw [List.getElem?_set, if_pos rfl, if_pos (by rw [List.length_set]; exact hk)]
theorem wr_kb {h : List Blk} {k kb : Nat} {ev : AV} {es : List AV} (hk : kb < h.length) (hne : k ≠ kb) : (wr h k kb ev es)[kb]? = some (.own 5 1 es) := by
  unfold wr
  rw [List.getElem?_set, if_neg hne, List.getElem?_set, if_pos rfl, if_pos hk]
theorem wr_len {h : List Blk} {k kb : Nat} {ev : AV} {es : List AV} : (wr h k kb ev es).length = h.length := by
  unfold wr
  rw [List.length_set, List.length_set]
theorem Pg.lt {h : List Blk} {k kb : Nat} {ev : AV} {es : List AV} (p : Pg h k kb ev es) : k < h.length ∧ kb < h.length := by
  obtain ⟨pv, h1, _⟩ := p.page
  exact ⟨(List.getElem?_eq_some_iff.1 h1).1, (List.getElem?_eq_some_iff.1 p.own).1⟩
theorem wr_pg {h : List Blk} {k kb : Nat} {ev : AV} {es : List AV} (hk : k < h.length) (hkb : kb < h.length) (hne : k ≠ kb) : Pg (wr h k kb ev es) k kb ev es := ⟨⟨_, wr_k hk, .inr rfl⟩, wr_kb hkb hne, hne⟩
theorem wr_wr {h : List Blk} {k kb : Nat} {ev : AV} {es fs : List AV} (hne : k ≠ kb) : wr (wr h k kb ev es) k kb ev fs = wr h k kb ev fs := by
  apply List.ext_getElem?
  intro j
  unfold wr
  simp only [List.getElem?_set, List.length_set]
  by_cases h1 : k = j
  · simp [h1]
  · by_cases h2 : kb = j
    · subst h2; simp [h1]
    · simp [h1, h2]
theorem wr_app {h r : List Blk} {k kb : Nat} {ev : AV} {es : List AV} (hk : k < h.length) (hkb : kb < h.length) : wr (h ++ r) k kb ev es = wr h k kb ev es ++ r := by
  unfold wr
  rw [List.set_append_left _ _ hkb, List.set_append_left _ _ (by rw [List.length_set]; exact hk)]

/-- WriteString, at a page. -/
theorem ws_acall {h : List Blk} {K : AV → List Blk → Prop} {k kb : Nat} {ev : AV} {es : List AV} (b : ByteArray) (p : Pg h k kb ev es) (h0 : 0 < b.size) (hle : es.length + b.size ≤ 4294967296) (hK : K (.tup [.i b.size, .raw .nilIface]) (wr h k kb ev (es ++ strU b))) : ACall Tryz.prog 48 [.ptr k 0, .s b] h K := by
  obtain ⟨⟨pv, hk, hp⟩, hkb, hne⟩ := p
  have hkl := (List.getElem?_eq_some_iff.1 hk).1
  have hkbl := (List.getElem?_eq_some_iff.1 hkb).1
  have e1 : (h.set k (.cells 59 [.ptr k 0, .own 1 kb es.length, ev]))[k]? = some (.cells 59 [.ptr k 0, .own 1 kb es.length, ev]) := by rw [List.getElem?_set, if_pos rfl, if_pos hkl]
  have e2 : (h.set k (.cells 59 [.ptr k 0, .own 1 kb es.length, ev]))[kb]? = some (.own 5 1 es) := by rw [List.getElem?_set, if_neg hne]; exact hkb
  have e3 : ((h.set k (.cells 59 [.ptr k 0, .own 1 kb es.length, ev])).set kb (.own 5 1 (es ++ strU b)))[k]? = some (.cells 59 [.ptr k 0, .own 1 kb es.length, ev]) := by rw [List.getElem?_set, if_neg (Ne.symm hne)]; exact e1
  have e4 : ((h.set k (.cells 59 [.ptr k 0, .own 1 kb es.length, ev])).set kb (.own 5 1 (es ++ strU b))).set k (.cells 59 [.ptr k 0, .own 1 kb (es.length + (strU b).length), ev]) = wr h k kb ev (es ++ strU b) := by
    rw [← List.length_append]
    apply List.ext_getElem?
    intro j
    unfold wr pgB
    simp only [List.getElem?_set, List.length_set]
    by_cases h1 : k = j
    · simp [h1]
    · by_cases h2 : kb = j
      · subst h2; simp [h1]
      · simp [h1, h2]
  refine acallK_of_vc tabOK Tryz.func48 (by kernel_rfl) rfl (n := 19) rfl (rs := [.tmp 4, .tmp 5]) rfl ?_
  simp only [go_sem]
  refine cc_acall hk hp ?_
  simp only [go_sem, e1, e2, e3, cells_own', one_own', List.length_cons, List.length_nil, List.all_cons, List.all_nil]
  refine And.intro ⟨h0, hle⟩ ?_
  try simp only [go_sem, e4, cells_own', one_own']
  exact ⟨_, rfl, _, .refl _, hK⟩
set_option maxHeartbeats 1000000 in
set_option maxRecDepth 100000 in
/-- String, at a page that holds at least one byte: those bytes are frozen. -/
theorem str_world (b g cap : Nat) (cur : Array Value) (p ev : Value) (l : List UInt8) (w : World) (hbk : w.heap[b]? = some (.cells #[p, .slice (some ⟨g, 0, none⟩) l.length cap, ev] 59 (0, 0))) (hg : w.heap[g]? = some (.cells cur 5 (0, 0))) (hnc : l.length ≤ cap) (hcm : cap ≤ maxLen) (hcs : cur.size = cap)
    (hat : ∀ (j : Nat) x, l[j]? = some x → cur[j]? = some (.int .u8 x.toNat)) (h0 : l ≠ []) :
    Calls Tryz.prog 24 #[.pointer (some ⟨b, 0, none⟩)] w fun e w' => e = .returned (.string ⟨l.toArray⟩) ∧ w' = w.drew.freeze ⟨g, 0, none⟩ l.length := by
  have L := layJ_169
  have X := layJ_BuilderExtra
  have hl0 : l.length ≠ 0 := by simpa using h0
  have c1 : w.drew.cell? ⟨b, 1, none⟩ = some (.slice (some ⟨g, 0, none⟩) l.length cap) := by
    have : w.drew.heap[b]? = some (.cells #[p, .slice (some ⟨g, 0, none⟩) l.length cap, ev] 59 (0, 0)) := hbk
    rw [Lib.cell_of_heap this]; rfl
  have hSD : (Builtin.unsafeSliceData_ #[(layJ_ren.t 37)] (layJ_ren.t 127) #[.slice (some ⟨g, 0, none⟩) l.length cap]).run Tryz.prog w.drew = .ok (.pointer (some ⟨g, 0, none⟩)) w.drew :=
    Lib.run_unsafeSliceData_row _ _ _ _ _ _ (by omega)
  have hUS : (Builtin.unsafeString_ #[(layJ_ren.t 127), (layJ_ren.t 3)] (layJ_ren.t 9) #[.pointer (some ⟨g, 0, none⟩), .int .i64 l.length]).run Tryz.prog w.drew = .ok (.string ⟨l.toArray⟩) (w.drew.freeze ⟨g, 0, none⟩ l.length) := by
    refine Lib.run_unsafeString_row w.drew (layJ_ren.t 127) (layJ_ren.t 3) (layJ_ren.t 9) (layJ_ren.t 5) L.t127 X.cellsByte g cur.size (by have hg' : w.drew.heap[g]? = some (.cells cur (layJ_ren.t 5) (0, 0)) := hg; simp [World.shape?, hg']) l h0 (by omega) (by unfold maxLen at hcm; omega) ?_
    intro j x hx
    have hg' : w.drew.heap[g]? = some (.cells cur (layJ_ren.t 5) (0, 0)) := hg
    have : (⟨g, 0, none⟩ : Addr).add j = ⟨g, j, none⟩ := by simp [Addr.add]; intro h; omega
    first
      | (rw [this, Lib.cell_of_heap hg']; exact hat j x hx)
      | (rw [Lib.cell_of_heap hg']; exact hat j x hx)
  have mixed := L.mixed
  have t72 := L.t72; have a72 := L.a72; have z72 := L.z72; have v72 := L.v72; have u72 := run_underlying L.t72
  have t70 := L.t70; have a70 := L.a70; have z70 := L.z70; have v70 := L.v70; have u70 := run_underlying L.t70
  have t37 := L.t37; have a37 := L.a37; have z37 := L.z37; have v37 := L.v37; have u37 := run_underlying L.t37
  have t127 := L.t127; have a127 := L.a127; have z127 := L.z127; have v127 := L.v127; have u127 := run_underlying L.t127
  have t3 := L.t3; have a3 := L.a3; have z3 := L.z3; have v3 := L.v3; have u3 := run_underlying L.t3
  have t9 := L.t9; have a9 := L.a9; have z9 := L.z9; have v9 := L.v9; have u9 := run_underlying L.t9
  have t5 := X.t5; have a5 := X.a5; have z5 := X.z5; have v5 := X.v5; have u5 := run_underlying X.t5
  show Calls Tryz.prog (layJ_ren.f 169) _ _ _
  go_enter L.f169, Body.n169_ntmps layJ_ren
  go_wp2
  go_region_o
  all_goals (go_wp2; go_ret; exact ⟨rfl, rfl⟩)
theorem u8_val {S : Addr → Prop} {w : World} {φ : Nat → Go.Abs.Loc} {c : UInt8} {x : Value} (h : C S w φ (.raw (.int .u8 c.toNat)) x) : x = .int .u8 c.toNat := by
  cases h
  rfl

/-- String, at a page: its bytes; the page is let go of. -/
theorem str_acall {h : List Blk} {K : AV → List Blk → Prop} {k kb : Nat} {ev : AV} (b : ByteArray) (p : Pg h k kb ev (strU b)) (h0 : 0 < b.size) (hK : K (.s b) (h.set kb .dead)) : ACall Tryz.prog 24 [.ptr k 0] h K := by
  obtain ⟨⟨pv, hk, _⟩, hkb, hne⟩ := p
  unfold ACall
  intro S φ w vs hr ha
  obtain ⟨u, rfl⟩ := vs1 ha.1
  have hu := ha.2 0 _ _ rfl rfl
  obtain ⟨bb, cs, hφ, hb, hcs, h1, hS⟩ := hr.blk k _ hk
  obtain ⟨u0, hφk, hes, hroom⟩ := hr.blk kb _ hkb
  have hl : (strU b).length = b.data.toList.length := by unfold strU; rw [List.length_map]
  have hsz : b.data.toList.length = b.size := by rw [Array.length_toList]; rfl
  cases hu with
  | ptr _ _ b' hb' =>
    rw [hφ] at hb'
    cases hb'
    obtain ⟨x, y, z, rfl⟩ := vs3 hcs.1
    have hy := hcs.2 1 _ _ rfl rfl
    refine ⟨run_callFunc Tryz.func24 (by kernel_rfl) rfl _ _, ?_⟩
    have hyu : y = u0 := by
      cases hy with
      | own _ _ _ a cap0 _ _ ht =>
        obtain ⟨n', u', e1, _, e3⟩ := ht
        rw [hφk] at e1
        cases e1
        exact e3 rfl
    rcases hroom with ⟨_, q⟩ | ⟨g, cap, vs, g1, g2, rfl, g4, g5, g6, g7⟩
    · have := congrArg List.length q
      rw [hl, hsz] at this
      have e0 : b.size = 0 := this
      omega
    · subst hyu
      rw [hl] at hb g1
      have hat : ∀ (j : Nat) c, b.data.toList[j]? = some c → vs[j]? = some (.int .u8 c.toNat) := fun j c hj => by
        obtain ⟨x, x1, x2, _⟩ := g6 j (.raw (.int .u8 c.toNat)) (by unfold strU; rw [strU_flat, List.getElem?_map, hj]; rfl)
        rw [x1, u8_val x2]
      refine Calls.mono (str_world bb g cap vs x z b.data.toList w hb g4 g1 g2 (by omega) hat (fun q => by rw [q] at hsz; simp at hsz; omega)) ?_
      rintro e w' ⟨rfl, rfl⟩
      have hr1 := hr.drew
      have hn0 : ¬ b.data.toList.length = 0 := by omega
      have hoth : ∀ b', b' ≠ g → (w.drew.freeze ⟨g, 0, none⟩ b.data.toList.length).heap[b']? = w.drew.heap[b']? := fun b' hne' => by
        unfold World.freeze
        rw [if_neg hn0]
        simp only [Array.getElem?_modify]
        rw [if_neg (by omega)]
      have hown : blockOf (φ kb) (.own 5 1 (strU b)) = some g := by rw [hφk]; rfl
      have hcell : ∀ a, S a → (w.drew.freeze ⟨g, 0, none⟩ b.data.toList.length).cell? a = w.drew.cell? a := fun a ha => cell_of_heap (hoth _ (g7 a ha))
      have hsize : (w.drew.freeze ⟨g, 0, none⟩ b.data.toList.length).heap.size = w.drew.heap.size := by
        unfold World.freeze
        rw [if_neg hn0]
        simp
      obtain ⟨p1, p2⟩ := hr1.put (S' := S) (l := φ kb) (x := .dead) (w' := w.drew.freeze ⟨g, 0, none⟩ b.data.toList.length) hkb (by unfold World.freeze; rw [if_neg hn0]) (by unfold World.freeze; rw [if_neg hn0]) (by unfold World.freeze; rw [if_neg hn0]) (by rw [hsize]; exact Nat.le_refl _)
        (fun b' _ hne' => hoth b' (fun e => hne' (by rw [e]; exact hown))) (fun _ h => h) hcell (fun _ h => .inl h) (fun a ha => by rw [hsize]; exact hr1.bnd a ha) (Loc.le_refl _) trivial (fun b' hb' => by cases hφ' : φ kb <;> rw [hφ'] at hb' <;> simp [blockOf] at hb')
      have hbb : (⟨b.data.toList.toArray⟩ : ByteArray) = b := by
        cases b
        simp
      refine ⟨_, .s b, _, S, _, rfl, hK, ?_, p1, (Ext.drew S φ h w).trans p2⟩
      rw [hbb]
      exact .raw _
end Go.Proofs.YtkjfhhioomnbfaaGreatDoor

namespace Go.Proofs.YtkjfhhioomnbfaaGreatDoor
open Go.Abs
set_option maxRecDepth 20000
set_option linter.unusedSimpArgs false
set_option linter.unusedVariables false
set_option maxHeartbeats 1000000
attribute [local irreducible] vc vcOps vcStep vcGuard prK hrK gK gsK brK callK ElemK SeqK BlockK ScopeK OpsK CallK LoopK LoopGo finPost ACall PCall PCallE BCall vqOps vqStep vqGuard qrK heK pcK gqK gqsK QOpsK qcallK DrawK
theorem u64_in (x : Int) (h1 : 0 ≤ x) (h2 : x < 18446744073709551616) : IntKind.u64.wrap x = x := by
  unfold IntKind.wrap
  simp [IntKind.bits, IntKind.signed]
  omega
theorem u8_in (x : Int) (h1 : 0 ≤ x) (h2 : x < 256) : IntKind.u8.wrap x = x := by
  unfold IntKind.wrap
  simp [IntKind.bits, IntKind.signed]
  omega
theorem u64_neg (n : Int) (h : I64 n) (hn : n < 0) : IntKind.u64.wrap (0 - IntKind.u64.wrap n) = (n.natAbs : Int) := by
  obtain ⟨h1, h2⟩ := h
  unfold IntKind.wrap
  simp [IntKind.bits, IntKind.signed]
  omega
theorem u64_pos (n : Int) (h : I64 n) (hn : ¬ n < 0) : IntKind.u64.wrap n = (n.natAbs : Int) := by
  obtain ⟨h1, h2⟩ := h
  rw [u64_in n (by omega) (by omega)]
  omega
def preD (v : Nat) (t : List UInt8) : List UInt8 := if v = 0 ∧ t ≠ [] then [] else Lib.decDigits v
theorem preD_step {v : Nat} {t : List UInt8} (h : ¬ (v = 0 ∧ t ≠ [])) : preD (v / 10) (UInt8.ofNat (48 + v % 10) :: t) ++ UInt8.ofNat (48 + v % 10) :: t = preD v t ++ t := by
  unfold preD
  rw [if_neg h]
  by_cases hv : v < 10
  · rw [if_pos ⟨by omega, by simp⟩, Lib.decDigits_one hv, Nat.mod_eq_of_lt hv]
    rfl
  · rw [if_neg (by omega)]
    conv => rhs; rw [Lib.decDigits, dif_neg hv]
    simp
theorem preD_end {v : Nat} {t : List UInt8} (h : v = 0 ∧ t ≠ []) : preD v t ++ t = t := by
  unfold preD
  rw [if_pos h]
  rfl
theorem itoa_abs (n : Int) : Lib.itoa n = (if n < 0 then 45 :: Lib.decDigits n.natAbs else Lib.decDigits n.natAbs) := by
  unfold Lib.itoa
  split
  · rfl
  · rw [show n.toNat = n.natAbs by omega]
theorem digits_len (u : Nat) (h : u ≤ 9223372036854775808) : (Lib.decDigits u).length ≤ 21 := by
  have := Lib.itoa_length_le (-(u : Int)) (by omega) (by omega)
  rw [itoa_abs] at this
  split at this
  · rw [List.length_cons, show (-(u : Int)).natAbs = u by omega] at this
    omega
  · rw [show (-(u : Int)).natAbs = u by omega] at this
    omega
theorem size0_list {t : ByteArray} : t.data.toList = [] ↔ t = ⟨#[]⟩ := by
  constructor
  · intro h
    exact bytes_ext (by rw [h])
  · rintro rfl
    rfl
theorem digit_byte (v : Nat) : UInt8.ofNat (IntKind.u8.wrap (IntKind.u64.wrap (48 + ((v : Int)).tmod 10))).toNat = UInt8.ofNat (48 + v % 10) := by
  have h : ((v : Int)).tmod 10 = ((v % 10 : Nat) : Int) := by
    rw [Int.tmod_eq_emod_of_nonneg (by omega)]
    omega
  rw [h, u64_in _ (by omega) (by omega), u8_in _ (by omega) (by omega)]
  congr 1
theorem digit_rest (v : Nat) (h : v < 18446744073709551616) : IntKind.u64.wrap (((v : Int)).tdiv 10) = ((v / 10 : Nat) : Int) := by
  have h' : ((v : Int)).tdiv 10 = ((v / 10 : Nat) : Int) := by
    rw [Int.tdiv_eq_ediv_of_nonneg (by omega)]
    omega
  rw [h', u64_in _ (by omega) (by omega)]
theorem arr_one (x : UInt8) : (#[x] : Array UInt8).size = 1 := rfl
theorem one_list (x : UInt8) (t : ByteArray) : ((⟨#[x]⟩ : ByteArray) ++ t).data.toList = x :: t.data.toList := by rw [app_list]; rfl

theorem digits59 (n : Int) (h : I64 n) : PCall Tryz.prog 123 [.i n] (.s (digB n)) := by
  obtain ⟨h1, h2⟩ := h
  obtain ⟨U, hU⟩ : ∃ U : Nat, U = n.natAbs := ⟨_, rfl⟩
  have hlen := digits_len U (by omega)
  have goal2 : ∀ t : ByteArray, t.data.toList = Lib.decDigits U → digB n = if n < 0 then ⟨#[45]⟩ ++ t else t := by
    intro t ht
    apply bytes_ext
    unfold digB
    rw [itoa_abs, ← hU, ← ht]
    split
    · rw [app_list]; simp
    · simp
  refine pcall_of_vc tabOK Tryz.func123 (by kernel_rfl) rfl pureL pureI (n := 32) rfl (rs := [.tmp 2]) rfl ?_
  simp only [go_sem]
  refine brK_dec (fun hneg => ?_) (fun hneg => ?_)
  · simp only [go_sem]
    rw [u64_neg n ⟨h1, h2⟩ hneg, ← hU]
    refine loop_fr [3, 4, 11, 12, 13, 14, 15, 16, 17, 18, 19, 20, 21, 22, 23, 24, 25, 26] (fun m C hh => ∃ (v : Nat) (t : ByteArray) (r : List Blk), v ≤ U ∧ preD v t.data.toList ++ t.data.toList = Lib.decDigits U ∧ m = v + (if t.data.toList = [] then 1 else 0) ∧ C = [(3, .raw (.int .u64 (v : Nat))), (4, .s t)] ∧ hh = r) (U + 1) _ ⟨U, ⟨#[]⟩, _, by omega, by simp [preD], by simp, rfl, rfl⟩ (.cons rfl (.cons rfl .nil)) ?_
    rintro m C ja hh ⟨v, t, r, hv, hp, rfl, rfl, rfl⟩
    have hts : t.size ≤ 21 := by
      have := congrArg List.length hp
      rw [List.length_append] at this
      rw [size_list]
      omega
    by_cases hgo : v = 0 ∧ t.data.toList ≠ []
    · rw [preD_end hgo] at hp
      have hf := goal2 t hp
      have hne : ¬ t = ⟨#[]⟩ := fun q => hgo.2 (by rw [q])
      obtain ⟨rfl, _⟩ := hgo
      repeat' first
        | (exfalso; omega)
        | (exfalso; exact hne (by assumption))
        | simp only [go_sem]
        | refine gK_dec (fun _ => ?_) (fun _ => ?_)
        | refine brK_dec (fun _ => ?_) (fun _ => ?_)
        | refine ⟨by first | omega | (simp; omega), ?_⟩
        | (refine finSq rfl ?_; rw [hf]; first | rw [if_pos (by omega)] | rw [if_neg (by omega)])
    · have hstep := preD_step hgo
      have hwr := digit_rest v (by omega)
      have hby := digit_byte v
      rw [← one_list] at hstep
      have hm : v / 10 + (if ((⟨#[UInt8.ofNat (48 + v % 10)]⟩ : ByteArray) ++ t).data.toList = [] then 1 else 0) < v + (if t.data.toList = [] then 1 else 0) := by
        rw [if_neg (by rw [one_list]; simp)]
        by_cases hv0 : v = 0
        · rw [if_pos (Classical.byContradiction fun q => hgo ⟨hv0, q⟩)]; omega
        · split <;> omega
      repeat' first
        | (exfalso; omega)
        | (exfalso; exact hgo ⟨by omega, fun q => absurd (size0_list.1 q) (by assumption)⟩)
        | simp only [go_sem, hwr, hby]
        | refine gK_dec (fun _ => ?_) (fun _ => ?_)
        | refine brK_dec (fun _ => ?_) (fun _ => ?_)
        | exact loopFr _ hm ⟨_, _, _, by omega, hstep.trans hp, rfl, rfl, rfl⟩ (.cons rfl (.cons rfl .nil)) rfl
        | refine ⟨by first | omega | decide | (rw [arr_one]; omega), ?_⟩
  · simp only [go_sem]
    rw [u64_pos n ⟨h1, h2⟩ hneg, ← hU]
    refine loop_fr [3, 4, 11, 12, 13, 14, 15, 16, 17, 18, 19, 20, 21, 22, 23, 24, 25, 26] (fun m C hh => ∃ (v : Nat) (t : ByteArray) (r : List Blk), v ≤ U ∧ preD v t.data.toList ++ t.data.toList = Lib.decDigits U ∧ m = v + (if t.data.toList = [] then 1 else 0) ∧ C = [(3, .raw (.int .u64 (v : Nat))), (4, .s t)] ∧ hh = r) (U + 1) _ ⟨U, ⟨#[]⟩, _, by omega, by simp [preD], by simp, rfl, rfl⟩ (.cons rfl (.cons rfl .nil)) ?_
    rintro m C ja hh ⟨v, t, r, hv, hp, rfl, rfl, rfl⟩
    have hts : t.size ≤ 21 := by
      have := congrArg List.length hp
      rw [List.length_append] at this
      rw [size_list]
      omega
    by_cases hgo : v = 0 ∧ t.data.toList ≠ []
    · rw [preD_end hgo] at hp
      have hf := goal2 t hp
      have hne : ¬ t = ⟨#[]⟩ := fun q => hgo.2 (by rw [q])
      obtain ⟨rfl, _⟩ := hgo
      repeat' first
        | (exfalso; omega)
        | (exfalso; exact hne (by assumption))
        | simp only [go_sem]
        | refine gK_dec (fun _ => ?_) (fun _ => ?_)
        | refine brK_dec (fun _ => ?_) (fun _ => ?_)
        | refine ⟨by first | omega | (simp; omega), ?_⟩
        | (refine finSq rfl ?_; rw [hf]; first | rw [if_pos (by omega)] | rw [if_neg (by omega)])
    · have hstep := preD_step hgo
      have hwr := digit_rest v (by omega)
      have hby := digit_byte v
      rw [← one_list] at hstep
      have hm : v / 10 + (if ((⟨#[UInt8.ofNat (48 + v % 10)]⟩ : ByteArray) ++ t).data.toList = [] then 1 else 0) < v + (if t.data.toList = [] then 1 else 0) := by
        rw [if_neg (by rw [one_list]; simp)]
        by_cases hv0 : v = 0
        · rw [if_pos (Classical.byContradiction fun q => hgo ⟨hv0, q⟩)]; omega
        · split <;> omega
      repeat' first
        | (exfalso; omega)
        | (exfalso; exact hgo ⟨by omega, fun q => absurd (size0_list.1 q) (by assumption)⟩)
        | simp only [go_sem, hwr, hby]
        | refine gK_dec (fun _ => ?_) (fun _ => ?_)
        | refine brK_dec (fun _ => ?_) (fun _ => ?_)
        | exact loopFr _ hm ⟨_, _, _, by omega, hstep.trans hp, rfl, rfl, rfl⟩ (.cons rfl (.cons rfl .nil)) rfl
        | refine ⟨by first | omega | decide | (rw [arr_one]; omega), ?_⟩
theorem itoa28 (n : Int) (h : I64 n) : PCall Tryz.prog 82 [.i n] (.s (digB n)) := by
  refine pcall_of_vc tabOK Tryz.func82 (by kernel_rfl) rfl pureL pureI (n := 5) rfl (rs := [.tmp 2]) rfl ?_
  simp only [go_sem]
  refine PCall.call (fmt49 n h) ?_
  simp only [go_sem]
  exact finSq rfl rfl

theorem itoa16 (n : Int) (h : I64 n) : PCall Tryz.prog 60 [.i n] (.s (digB n)) := by
  refine pcall_of_vc tabOK Tryz.func60 (by kernel_rfl) rfl pureL pureI (n := 5) rfl (rs := [.tmp 2]) rfl ?_
  simp only [go_sem]
  refine PCall.call (itoa28 n h) ?_
  simp only [go_sem]
  exact finSq rfl rfl
theorem u8_48 (n : Int) (h1 : 1 ≤ n) (h2 : n ≤ 8) : digB n = ⟨#[UInt8.ofNat (48 + n).toNat]⟩ := by
  have h : ∀ x : Fin 9, 1 ≤ x.val → digB (x.val : Int) = ⟨#[UInt8.ofNat (48 + (x.val : Int)).toNat]⟩ := by decide +kernel
  have := h ⟨n.toNat, by omega⟩ (by simp; omega)
  rw [show ((⟨n.toNat, by omega⟩ : Fin 9).val : Int) = n by simp; omega] at this
  exact this

theorem typeP (l : List DEnum) (t : DTy) (hl : okEnums l) : PCall Tryz.prog 32 [.lst 2 (l.map DEnum.enc) none, t.enc] (.s (typeT l t)) := by
  refine pcall_of_vc tabOK Tryz.func32 (by kernel_rfl) rfl (by first | exact pureL | exact pureI) (.raw _) (n := 33) rfl (rs := [.tmp 4]) rfl ?_
  have hbz := baseT_size hl t
  have hr := rightTyP l t
  unfold typeT
  cases hrt : rightTyF l.length t with
  | false =>
    rw [hrt] at hr
    rw [if_neg (by decide)]
    simp only [go_sem]
    refine PCall.call hr ?_
    simp only [go_sem]
    exact finSq rfl rfl
  | true =>
  rw [hrt] at hr
  rw [if_pos rfl]
  unfold rightTyF at hrt
  have hrt := of_decide_eq_true hrt
  have hdg := itoa16 t.Len ⟨by omega, by omega⟩
  have hdz := dig_size t.Len ⟨by omega, by omega⟩
  have e1 : (⟨#[91]⟩ : ByteArray).size = 1 := rfl
  have e2 : (⟨#[93]⟩ : ByteArray).size = 1 := rfl
  have hds : ((⟨#[91]⟩ : ByteArray) ++ digB t.Len).size = 1 + (digB t.Len).size := by rw [ByteArray.size_append, e1]
  have hdt : (((⟨#[91]⟩ : ByteArray) ++ digB t.Len) ++ ⟨#[93]⟩).size = 2 + (digB t.Len).size := by rw [ByteArray.size_append, hds, e2]; omega
  have hb : baseT l t = if t.Kind = 2 then tBool else if t.Kind = 3 then enumN l t.Enum.toNat else tInt := rfl
  by_cases hlen : t.Len > 0
  · rw [if_pos hlen]
    simp only [go_sem]
    refine PCall.call hr ?_
    simp only [go_sem]
    refine brK_dec (fun h2 => ?_) (fun h2 => ?_)
    · rw [if_pos h2] at hb
      rw [hb] at hbz ⊢
      repeat' first
        | simp only [go_sem]
        | refine brK_dec (fun q => ?_) (fun q => ?_)
        | (exfalso; omega)
        | (refine PCall.call hdg ?_)
        | refine And.intro (by first | omega | (simp <;> omega)) ?_
        | exact finSq rfl rfl
    rw [if_neg h2] at hb
    simp only [go_sem]
    refine brK_dec (fun h3 => ?_) (fun h3 => ?_)
    · obtain ⟨e, he⟩ : ∃ e, l[t.Enum.toNat]? = some e := ⟨_, List.getElem?_eq_getElem (by omega)⟩
      have hen : enumN l t.Enum.toNat = e.Name := by unfold enumN; rw [he]
      rw [if_pos h3, hen] at hb
      rw [hb] at hbz ⊢
      simp only [go_sem]
      refine elemHave (x := e) (by omega) he ?_
      repeat' first
        | simp only [go_sem]
        | refine brK_dec (fun q => ?_) (fun q => ?_)
        | (exfalso; omega)
        | (refine PCall.call hdg ?_)
        | refine And.intro (by first | omega | (simp <;> omega)) ?_
        | exact finSq rfl rfl
    · rw [if_neg h3] at hb
      rw [hb] at hbz ⊢
      repeat' first
        | simp only [go_sem]
        | refine brK_dec (fun q => ?_) (fun q => ?_)
        | (exfalso; omega)
        | (refine PCall.call hdg ?_)
        | refine And.intro (by first | omega | (simp <;> omega)) ?_
        | exact finSq rfl rfl
  · rw [if_neg hlen]
    simp only [go_sem]
    refine PCall.call hr ?_
    simp only [go_sem]
    refine brK_dec (fun h2 => ?_) (fun h2 => ?_)
    · rw [if_pos h2] at hb
      rw [hb] at hbz ⊢
      repeat' first
        | simp only [go_sem]
        | refine brK_dec (fun q => ?_) (fun q => ?_)
        | (exfalso; omega)
        | (refine PCall.call hdg ?_)
        | refine And.intro (by first | omega | (simp <;> omega)) ?_
        | exact finSq rfl rfl
    rw [if_neg h2] at hb
    simp only [go_sem]
    refine brK_dec (fun h3 => ?_) (fun h3 => ?_)
    · obtain ⟨e, he⟩ : ∃ e, l[t.Enum.toNat]? = some e := ⟨_, List.getElem?_eq_getElem (by omega)⟩
      have hen : enumN l t.Enum.toNat = e.Name := by unfold enumN; rw [he]
      rw [if_pos h3, hen] at hb
      rw [hb] at hbz ⊢
      simp only [go_sem]
      refine elemHave (x := e) (by omega) he ?_
      repeat' first
        | simp only [go_sem]
        | refine brK_dec (fun q => ?_) (fun q => ?_)
        | (exfalso; omega)
        | (refine PCall.call hdg ?_)
        | refine And.intro (by first | omega | (simp <;> omega)) ?_
        | exact finSq rfl rfl
    · rw [if_neg h3] at hb
      rw [hb] at hbz ⊢
      repeat' first
        | simp only [go_sem]
        | refine brK_dec (fun q => ?_) (fun q => ?_)
        | (exfalso; omega)
        | (refine PCall.call hdg ?_)
        | refine And.intro (by first | omega | (simp <;> omega)) ?_
        | exact finSq rfl rfl

theorem declP (l : List DEnum) (d : DDecl) (hl : okEnums l) (hd : d.Name.size ≤ 100 ∧ d.On.size ≤ 100 ∧ d.Ctor.size ≤ 100) : PCall Tryz.prog 13 [.lst 2 (l.map DEnum.enc) none, d.enc] (.s (declT l d)) := by
  refine pcall_of_vc tabOK Tryz.func13 (by kernel_rfl) rfl (by first | exact pureL | exact pureI) (.raw _) (n := 26) rfl (rs := [.tmp 4]) rfl ?_
  have hty := typeP l d.Ty hl
  have htz := typeT_size hl d.Ty
  have hon := on6 d.On d.Ctor (by omega) (by omega)
  have hoz := onT_size d.On d.Ctor
  have e1 : (⟨#[58, 32]⟩ : ByteArray).size = 2 := rfl
  have e2 : (⟨#[32, 119, 104, 101, 110, 32]⟩ : ByteArray).size = 6 := rfl
  have z1 : (d.Name ++ ⟨#[58, 32]⟩).size = d.Name.size + 2 := by rw [ByteArray.size_append, e1]
  have z2 : ((d.Name ++ ⟨#[58, 32]⟩) ++ typeT l d.Ty).size = d.Name.size + 2 + (typeT l d.Ty).size := by rw [ByteArray.size_append, z1]
  have z3 : (((d.Name ++ ⟨#[58, 32]⟩) ++ typeT l d.Ty) ++ ⟨#[32, 119, 104, 101, 110, 32]⟩).size = d.Name.size + 8 + (typeT l d.Ty).size := by rw [ByteArray.size_append, z2, e2]; omega
  unfold declT
  by_cases h : d.On = tNone
  · rw [if_pos h]
    repeat' first
      | simp only [go_sem]
      | refine drawK moB (by kernel_rfl) ?_
      | (refine pcK_of hty ?_)
      | refine brK_dec (fun _ => ?_) (fun q => absurd h q)
      | refine And.intro (by first | omega | (simp <;> omega)) ?_
      | exact finSq rfl rfl
  · rw [if_neg h]
    repeat' first
      | simp only [go_sem]
      | refine drawK moB (by kernel_rfl) ?_
      | (refine pcK_of hty ?_)
      | (refine PCall.call hon ?_)
      | refine brK_dec (fun q => absurd q h) (fun _ => ?_)
      | refine And.intro (by first | omega | (simp <;> omega)) ?_
      | exact finSq rfl rfl
/-- A block of the caller's, lent as memory that stays. -/
theorem lend {P : Program} {f : FuncId} {h0 : List Blk} {k : Nat} {args : List AV} {t : TypeId} {c0 c1 ev : AV} {v : Value} (hk : h0[k]? = some (.cells t [c0, c1, ev])) (hev : Go.Abs.Pure ev) (hpa : ∀ x ∈ args, Go.Abs.Pure x) (hp : ∀ x y : Value, x.oneCell' = true → y.oneCell' = true → PCall P f (.eptr [.raw x, .raw y, ev] :: args) (.raw v)) : RCall P h0 f (.ptr k 0 :: args) (.raw v) := by
  have hmono : ∀ (a b : List Blk) (j : Nat), MonoH a b → a[j]? = some (.cells t [c0, c1, ev]) → ∃ t', b[j]? = some (.cells t' [c0, c1, ev]) := by
    intro a
    induction a with
    | nil => intro b j _ hj; cases hj
    | cons x a ih =>
      intro b j hm hj
      cases b with
      | nil => exact hm.elim
      | cons y b =>
        obtain ⟨h1, h2⟩ := hm
        cases j with
        | zero =>
          simp only [List.getElem?_cons_zero, Option.some.injEq] at hj
          subst hj
          dsimp only at h1
          split at h1
          · rename_i t' cs'
            subst h1
            exact ⟨t', rfl⟩
          · exact h1.elim
        | succ j => exact ih b j h2 hj
  intro h K hm hK
  obtain ⟨t', hkk⟩ := hmono h0 h k hm hk
  unfold ACall
  intro S φ w vs hr ha
  obtain ⟨b, cs, hφ, hb, hcs, h1, hS⟩ := hr.blk k _ hkk
  obtain ⟨x, y, z, rfl⟩ := vs3 hcs.1
  have hz := hcs.2 2 _ _ rfl rfl
  obtain ⟨u0, hu0, hcu⟩ := ha.at (i := 0) (a := .ptr k 0) rfl
  cases hcu with
  | ptr _ _ b' hb' =>
    rw [hφ] at hb'
    cases hb'
    have hx1 := h1 x (by simp)
    have hy1 := h1 y (by simp)
    have hz1 := h1 z (by simp)
    have hcall := hp x y hx1 hy1
    unfold PCall at hcall
    obtain ⟨_, _, hcall⟩ := hcall
    have hS2 : ∀ a, (S a ∨ a = ⟨b, 0, none⟩ ∨ a = ⟨b, 1, none⟩ ∨ a = ⟨b, 2, none⟩) → a.block < w.heap.size := fun a hq => by
      have hbl := (Array.getElem?_eq_some_iff.1 hb).1
      rcases hq with q | rfl | rfl | rfl
      · exact hr.bnd a q
      · exact hbl
      · exact hbl
      · exact hbl
    have hC : CAll (fun a => S a ∨ a = ⟨b, 0, none⟩ ∨ a = ⟨b, 1, none⟩ ∨ a = ⟨b, 2, none⟩) w (fun _ => .no) (.eptr [.raw x, .raw y, ev] :: args) vs := by
      refine ⟨by simpa using ha.1, fun i a u hi hu => ?_⟩
      cases i with
      | zero =>
        cases hi
        rw [hu0] at hu
        cases hu
        refine .eptr _ _ (fun j => (#[x, y, z] : Array Value).getD j undef) (fun j c hj => ?_) (fun j c hj => ?_) (fun j c hj => ?_)
        · match j with
          | 0 => exact ⟨by rw [show (⟨b, 0, none⟩ : Addr).add 0 = ⟨b, 0, none⟩ from rfl, Lib.cell_of_heap hb]; rfl, .inr (.inl rfl)⟩
          | 1 => exact ⟨by rw [show (⟨b, 0, none⟩ : Addr).add 1 = ⟨b, 1, none⟩ from rfl, Lib.cell_of_heap hb]; rfl, .inr (.inr (.inl rfl))⟩
          | 2 => exact ⟨by rw [show (⟨b, 0, none⟩ : Addr).add 2 = ⟨b, 2, none⟩ from rfl, Lib.cell_of_heap hb]; rfl, .inr (.inr (.inr rfl))⟩
          | j + 3 => cases hj
        · match j with
          | 0 => cases hj; exact .raw _
          | 1 => cases hj; exact .raw _
          | 2 => cases hj; exact (hz.mono (fun _ h => .inl h) (fun _ _ => rfl) (fun _ => Loc.le_refl _)).pure _ hev
          | j + 3 => cases hj
        · match j with
          | 0 => exact hx1
          | 1 => exact hy1
          | 2 => exact hz1
          | j + 3 => cases hj
      | succ i =>
        have hi' : args[i]? = some a := hi
        exact ((ha.2 (i + 1) a u hi' hu).mono (fun _ h => .inl h) (fun _ _ => rfl) (fun _ => Loc.le_refl _)).pure _ (hpa a (List.mem_of_getElem? hi'))
    obtain ⟨henter, hcalls⟩ := hcall _ w vs hS2 hr.tab.bare hC
    refine ⟨henter, Calls.mono hcalls ?_⟩
    rintro e w' ⟨v', S', rfl, hc, hr', he⟩
    cases hc
    have he2 : Ext S (fun _ => .no) [] w S (fun _ => .no) [] w' := ⟨he.os, he.tape, he.output, he.size, he.keep, fun _ h => h, fun a ha => he.cell a (.inl ha), fun _ => Loc.le_refl _, fun _ h => .inl h, fun _ h => .inl h⟩
    obtain ⟨k1, k2⟩ := hr.over he2 (fun a ha => Nat.lt_of_lt_of_le (hr.bnd a ha) he.size)
    exact ⟨_, .raw _, h, S, φ, rfl, hK, .raw _, k1, k2⟩
theorem strU_app (a b : ByteArray) : strU (a ++ b) = strU a ++ strU b := by
  unfold strU
  rw [app_list, List.map_append]

theorem declsE (l : List DEnum) (ds : List DDecl) (hl : okEnums l) (hd : fewD ds) (x y : Value) (hx : x.oneCell' = true) (hy : y.oneCell' = true) : PCall Tryz.prog 50 [.eptr [.raw x, .raw y, .lst 2 (l.map DEnum.enc) none], .lst 6 (ds.map DDecl.enc) none] (.s (declsT l ds)) := by
  have hpe : Go.Abs.Pure (.eptr [.raw x, .raw y, .lst 2 (l.map DEnum.enc) none]) := .eptr _ (pure_cons (.raw _) (pure_cons (.raw _) (pure_cons (DEnum.pures _) pure_nil)))
  refine pcall_of_vc tabOK Tryz.func50 (by kernel_rfl) rfl (pure_cons hpe (pure_cons (DDecl.pures _) pure_nil)) (.raw _) (n := 26) rfl (rs := [.tmp 4]) rfl ?_
  have hdz := declsT_size hl hd
  have hdl := hd.1
  simp only [go_sem]
  intro _
  refine loop_ghost (ghost_tok 5 9 1 rfl) ?_
  refine loop_fr [5, 7, 10, 11, 12, 13, 14, 15, 16, 17, 18, 19, 20, 21, 22, 23] (fun m C hh => ∃ (i : Nat) (r : List Blk), i ≤ ds.length ∧ m = ds.length - i ∧ C = [(10, .raw (.int .i64 (i : Nat))), (5, .lst 1 (((ds.take i).map (declT l)).map AV.s) (some 0))] ∧ hh = .tok 9 1 i :: r) ds.length _ ⟨0, [], by omega, by omega, rfl, rfl⟩ (.cons rfl (.cons rfl .nil)) ?_
  rintro m C j hh ⟨i, r, hi, rfl, rfl, rfl⟩
  simp only [go_sem]
  refine brK_dec (fun hlt => ?_) (fun hge => ?_)
  · obtain ⟨d, hx⟩ : ∃ d, ds[i]? = some d := ⟨_, List.getElem?_eq_getElem (by omega)⟩
    have hdd := hd.2 d (List.mem_of_getElem? hx)
    have hdc := declP l d hl hdd
    have hst : ((ds.take (i + 1)).map (declT l)).map AV.s = ((ds.take i).map (declT l)).map AV.s ++ [.s (declT l d)] := by
      rw [List.take_add_one, hx, List.map_append, List.map_append]
      rfl
    have hli : ((ds.take i).map (declT l)).length = i := by rw [List.length_map, List.length_take]; omega
    repeat' first
      | simp only [go_sem]
      | refine drawK moB (by kernel_rfl) ?_
      | refine elemHave (x := d) (by omega) (by simpa using hx) ?_
      | (refine pcK_of hdc ?_)
      | refine And.intro (by first | omega | (simp <;> omega)) ?_
    exact loopFr _ (by omega) ⟨i + 1, r ++ [.cells 40 [.s d.Name, .i d.Ty.Kind, .i d.Ty.Enum, .i d.Ty.Len, .s d.On, .s d.Ctor], .tok 9 1 1], by omega, rfl, rfl, by simp; omega⟩ (.next rfl (by omega) (.cons (by rw [hst]; simp) .nil)) rfl
  · have hie : i = ds.length := by omega
    subst hie
    rw [List.take_length]
    simp only [go_sem]
    refine PCall.callW (join18 (ds.map (declT l)) semiT (by rw [List.length_map]; omega) (by show (declsT l ds).size ≤ _; omega)) ⟨.tok _ _ _, .refl _, trivial⟩ ?_
    simp only [go_sem]
    exact finSq rfl rfl
abbrev enA (l : List DEnum) : AV := .lst 2 (l.map DEnum.enc) none
theorem declsR {h0 : List Blk} {k : Nat} {t : TypeId} {c0 c1 : AV} (l : List DEnum) (ds : List DDecl) (hl : okEnums l) (hd : fewD ds) (hk : h0[k]? = some (.cells t [c0, c1, enA l])) : RCall Tryz.prog h0 50 [.ptr k 0, .lst 6 (ds.map DDecl.enc) none] (.s (declsT l ds)) :=
  lend hk (DEnum.pures _) (pure_cons (DDecl.pures _) pure_nil) (fun x y hx hy => declsE l ds hl hd x y hx hy)
theorem lineT_size {l : List ByteArray} {b : Nat} (h : ∀ x ∈ l, x.size ≤ b) : (lineT l).size ≤ l.length * b + 1 ∧ (joinB l tNone).size ≤ l.length * b ∧ (lineT l).size = (joinB l tNone).size + 1 := by
  have h1 := joinB_le (l := l) (sep := tNone) (k := b) h
  have e1 : tNone.size = 0 := rfl
  have e2 : (⟨#[10]⟩ : ByteArray).size = 1 := rfl
  rw [e1, Nat.add_zero] at h1
  unfold lineT
  rw [ByteArray.size_append, e2]
  omega

theorem lineP {h : List Blk} {K : AV → List Blk → Prop} {k kb : Nat} {ev : AV} (l : List ByteArray) (tok : Option Nat) (s : ByteArray) (p : Pg h k kb ev (strU s)) (hl : l.length ≤ 1000) (hz : (joinB l tNone).size ≤ 2000000) (hs : s.size ≤ 1000000000) (hK : K (.tup []) (wr h k kb ev (strU (s ++ lineT l)))) : ACall Tryz.prog 21 [.ptr k 0, .lst 1 (l.map AV.s) tok] h K := by
  have hj := join18 l tNone (by omega) (by omega)
  have e2 : (⟨#[10]⟩ : ByteArray).size = 1 := rfl
  have hlz : (lineT l).size = (joinB l tNone).size + 1 := by unfold lineT; rw [ByteArray.size_append, e2]
  rw [strU_app] at hK
  have hw := ws_acall (K := K) (lineT l) p (by omega) (by rw [strU_len]; omega)
  refine acallK_of_vc tabOK Tryz.func21 (by kernel_rfl) rfl (n := 11) rfl (rs := []) rfl ?_
  simp only [go_sem]
  refine drawZ moB (by kernel_rfl) rfl ?_
  simp only [List.dropLast_cons_cons, List.dropLast_singleton, List.getLast_cons_cons, List.getLast_singleton]
  simp only [go_sem]
  refine pcK_ofW hj ⟨.tok _ _ _, .refl _, trivial⟩ ?_
  simp only [go_sem]
  refine And.intro (by first | omega | (simp <;> omega)) ?_
  try simp only [go_sem]
  refine ws_acall (lineT l) p (by omega) (by rw [strU_len]; omega) ?_
  simp only [go_sem]
  exact ⟨[], rfl, .tup [], .refl _, hK⟩
theorem Pg.app {h : List Blk} {k kb : Nat} {ev : AV} {es : List AV} (p : Pg h k kb ev es) (r : List Blk) : Pg (h ++ r) k kb ev es := by
  obtain ⟨h1, h2⟩ := p.lt
  obtain ⟨pv, q1, q2⟩ := p.page
  exact ⟨⟨pv, by rw [List.getElem?_append_left h1]; exact q1, q2⟩, by rw [List.getElem?_append_left h2]; exact p.own, p.ne⟩
theorem lineA {h r : List Blk} {K : AV → List Blk → Prop} {k kb : Nat} {ev : AV} (l : List ByteArray) (tok : Option Nat) (s : ByteArray) (p : Pg h k kb ev (strU s)) (hl : l.length ≤ 1000) (hz : (joinB l tNone).size ≤ 2000000) (hs : s.size ≤ 1000000000) (hK : K (.tup []) (wr h k kb ev (strU (s ++ lineT l)) ++ r)) : ACall Tryz.prog 21 [.ptr k 0, .lst 1 (l.map AV.s) tok] (h ++ r) K :=
  lineP l tok s (p.app r) hl hz hs (by rw [wr_app p.lt.1 p.lt.2]; exact hK)
theorem lineB {h r : List Blk} {K : AV → List Blk → Prop} {k kb : Nat} {ev : AV} {es : List AV} (l : List ByteArray) (tok : Option Nat) (s : ByteArray) (p : Pg h k kb ev es) (hl : l.length ≤ 1000) (hz : (joinB l tNone).size ≤ 2000000) (hs : s.size ≤ 1000000000) (hK : K (.tup []) (wr h k kb ev (strU (s ++ lineT l)) ++ r)) : ACall Tryz.prog 21 [.ptr k 0, .lst 1 (l.map AV.s) tok] (wr h k kb ev (strU s) ++ r) K :=
  lineA l tok s (wr_pg p.lt.1 p.lt.2 p.ne) hl hz hs (by rw [wr_wr p.ne]; exact hK)
structure NdOK (l : List DEnum) (n : DNode) : Prop where
  en : okEnums l
  nd : okNode n
  num : ∀ x ∈ n.Eqs, ∀ y ∈ parts x.E, I64 y.n
abbrev nodeBx (n : DNode) : Blk := .cells 35 [.s n.Name, .lst 6 (n.Ins.map DDecl.enc) none, .lst 6 (n.Outs.map DDecl.enc) none, .lst 6 (n.Vars.map DDecl.enc) none, .lst 7 (n.Eqs.map DEq.enc) none]
theorem nodeL_size {l : List DEnum} {n : DNode} (h : NdOK l n) : ∀ x ∈ nodeL l n, x.size ≤ 12040 := by
  have h1 := declsT_size h.en h.nd.1
  have h2 := declsT_size h.en h.nd.2.1
  have h3 := h.nd.2.2.2.2.1
  intro x hx
  simp only [nodeL, List.mem_cons, List.not_mem_nil, or_false] at hx
  rcases hx with rfl | rfl | rfl | rfl | rfl | rfl | rfl
  · show 5 ≤ _; omega
  · omega
  · show 1 ≤ _; omega
  · exact h1
  · show 11 ≤ _; omega
  · exact h2
  · show 1 ≤ _; omega
theorem varsL_size {l : List DEnum} {n : DNode} (h : NdOK l n) : ∀ x ∈ varsL l n, x.size ≤ 12040 := by
  have h1 := declsT_size h.en h.nd.2.2.1
  intro x hx
  simp only [varsL, List.mem_cons, List.not_mem_nil, or_false] at hx
  rcases hx with rfl | rfl | rfl
  · show 4 ≤ _; omega
  · exact h1
  · show 1 ≤ _; omega
theorem eqL_size {l : List DEnum} {n : DNode} (h : NdOK l n) {q : DEq} (hq : q ∈ n.Eqs) : ∀ x ∈ eqL q, x.size ≤ 200000 := by
  have h0 := h.nd.2.2.2.2.2 q hq
  have h1 := namesT_size h0.1 h0.2.2
  have h2 := exprT_size h0.2.1 (h.num q hq)
  intro x hx
  simp only [eqL, List.mem_cons, List.not_mem_nil, or_false] at hx
  rcases hx with rfl | rfl | rfl | rfl | rfl
  · show 2 ≤ _; omega
  · omega
  · show 3 ≤ _; omega
  · exact h2
  · show 1 ≤ _; omega
theorem eqsT_size {l : List DEnum} {n : DNode} (h : NdOK l n) (s : ByteArray) : ∀ i, i ≤ n.Eqs.length → (eqsT s (n.Eqs.take i)).size ≤ s.size + i * 1000001
  | 0, _ => by show s.size ≤ _; omega
  | i + 1, hi => by
    obtain ⟨q, hq⟩ : ∃ q, n.Eqs[i]? = some q := ⟨_, List.getElem?_eq_getElem (by omega)⟩
    have ih := eqsT_size h s i (by omega)
    have h1 := (lineT_size (eqL_size h (List.mem_of_getElem? hq))).1
    have hl : (eqL q).length = 5 := rfl
    rw [eqsT_next hq, ByteArray.size_append]
    rw [hl] at h1
    omega
/-- The head of a node: what is written ahead of its equations. -/
noncomputable def headN (s : ByteArray) (l : List DEnum) (n : DNode) : ByteArray := ((s ++ lineT (nodeL l n)) ++ varsT l n) ++ lineT letL
theorem varsT_size {l : List DEnum} {n : DNode} (h : NdOK l n) : (varsT l n).size ≤ 40000 := by
  unfold varsT
  split
  · have h1 := (lineT_size (varsL_size h)).1
    have hl : (varsL l n).length = 3 := rfl
    rw [hl] at h1
    omega
  · show 0 ≤ _; omega
theorem headN_size {l : List DEnum} {n : DNode} (h : NdOK l n) (s : ByteArray) : (headN s l n).size ≤ s.size + 140000 := by
  have h1 := (lineT_size (nodeL_size h)).1
  have hl : (nodeL l n).length = 7 := rfl
  rw [hl] at h1
  have h2 := varsT_size h
  have h3 : (lineT letL).size = 4 := rfl
  unfold headN
  rw [ByteArray.size_append, ByteArray.size_append, ByteArray.size_append]
  omega
theorem nodeT_eq (s : ByteArray) (l : List DEnum) (n : DNode) : nodeT s l n = eqsT (headN s l n) n.Eqs ++ lineT telL := rfl
theorem nodeT_size {l : List DEnum} {n : DNode} (h : NdOK l n) (s : ByteArray) : (nodeT s l n).size ≤ s.size + 31000000 := by
  have h1 := headN_size h s
  have h2 := eqsT_size h (headN s l n) n.Eqs.length (Nat.le_refl _)
  have h3 : (lineT telL).size = 4 := rfl
  have h4 := h.nd.2.2.2.1
  rw [List.take_length] at h2
  rw [nodeT_eq, ByteArray.size_append]
  omega
theorem wr_lenA {h r : List Blk} {k kb : Nat} {ev : AV} {es : List AV} : (wr h k kb ev es ++ r).length = h.length + r.length := by rw [List.length_append, wr_len]
theorem at_wr {h r : List Blk} {k kb : Nat} {ev : AV} {es : List AV} {b : Blk} : (wr h k kb ev es ++ (b :: r))[h.length]? = some b := by
  rw [List.getElem?_append_right (by rw [wr_len]; exact Nat.le_refl _), wr_len, Nat.sub_self]
  rfl
theorem declsA {h : List Blk} {K : AV → List Blk → Prop} {k : Nat} {t : TypeId} {c0 c1 : AV} (l : List DEnum) (ds : List DDecl) (hl : okEnums l) (hd : fewD ds) (hk : h[k]? = some (.cells t [c0, c1, enA l])) (hK : K (.s (declsT l ds)) h) : ACall Tryz.prog 50 [.ptr k 0, .lst 6 (ds.map DDecl.enc) none] h K :=
  declsR l ds hl hd hk h K (MonoH.refl h) hK

theorem nodeP {h : List Blk} {K : AV → List Blk → Prop} {k kb : Nat} (l : List DEnum) (n : DNode) (ho : NdOK l n) (s : ByteArray) (p : Pg h k kb (enA l) (strU s)) (hs : s.size ≤ 500000000) (hK : ∀ r, K (.tup []) (wr h k kb (enA l) (strU (nodeT s l n)) ++ r)) : ACall Tryz.prog 23 [.ptr k 0, n.enc] h K := by
  have hns := lineT_size (nodeL_size ho)
  have hvs := lineT_size (varsL_size ho)
  have hl7 : (nodeL l n).length = 7 := rfl
  have hl3 : (varsL l n).length = 3 := rfl
  rw [hl7] at hns
  rw [hl3] at hvs
  have hhz := headN_size ho s
  have hvz := varsT_size ho
  obtain ⟨pv, hpk, hpv⟩ := p.page
  have hkl := p.lt
  have hat0 : ∀ r : List Blk, (h ++ (nodeBx n :: r))[h.length]? = some (nodeBx n) := fun r => by rw [List.getElem?_append_right (Nat.le_refl _), Nat.sub_self]; rfl
  have hpg : ∀ (r : List Blk), (h ++ (nodeBx n :: r))[k]? = some (.cells 59 [pv, .own 1 kb (strU s).length, enA l]) := fun r => by rw [List.getElem?_append_left hkl.1]; exact hpk
  have hwk : ∀ (es : List AV) (r : List Blk), (wr h k kb (enA l) es ++ (nodeBx n :: r))[k]? = some (pgB k kb es.length (enA l)) := fun es r => by rw [List.getElem?_append_left (by rw [wr_len]; exact hkl.1)]; exact wr_k hkl.1
  have hwa : ∀ (es : List AV) (r : List Blk), (wr h k kb (enA l) es ++ (nodeBx n :: r))[h.length]? = some (nodeBx n) := fun es r => at_wr
  have d1 := declsR (h0 := h ++ [nodeBx n]) l n.Ins ho.en ho.nd.1 (hpg [])
  have d2 := declsR (h0 := h ++ [nodeBx n]) l n.Outs ho.en ho.nd.2.1 (hpg [])
  refine acallK_of_vc tabOK Tryz.func23 (by kernel_rfl) rfl (n := 53) rfl (rs := []) rfl ?_
  simp only [go_sem]
  refine drawZ moB (by kernel_rfl) rfl ?_
  simp only [List.dropLast_cons_cons, List.dropLast_singleton, List.getLast_cons_cons, List.getLast_singleton]
  simp only [go_sem, hat0]
  refine pcK_ofR d1 ?_
  simp only [go_sem, hat0]
  refine pcK_ofR d2 ?_
  simp only [go_sem, hat0]
  refine lineA (r := [nodeBx n, .tok 9 1 7]) (nodeL l n) (some _) s p (by show 7 ≤ 1000; omega) (by omega) (by omega) ?_
  have hs1 : (s ++ lineT (nodeL l n)).size ≤ 600000000 := by rw [ByteArray.size_append]; omega
  simp only [go_sem, hwa]
  intro _
  refine brK_dec (fun hv => ?_) (fun hv => ?_)
  · have hvt : varsT l n = lineT (varsL l n) := if_pos (by omega)
    have hhead : headN s l n = ((s ++ lineT (nodeL l n)) ++ lineT (varsL l n)) ++ lineT letL := by unfold headN; rw [hvt]
    have hs2 : ((s ++ lineT (nodeL l n)) ++ lineT (varsL l n)).size ≤ 700000000 := by rw [ByteArray.size_append]; omega
    simp only [go_sem, hwa]
    refine declsA l n.Vars ho.en ho.nd.2.2.1 (hwk _ _) ?_
    simp only [go_sem]
    refine lineB (varsL l n) (some _) (s ++ lineT (nodeL l n)) p (by show 3 ≤ 1000; omega) (by omega) (by omega) ?_
    simp only [go_sem]
    refine lineB letL (some _) (((s ++ lineT (nodeL l n)) ++ lineT (varsL l n))) p (by show 1 ≤ 1000; omega) (by show 3 ≤ 2000000; omega) (by omega) ?_
    rw [← hhead]
    simp only [go_sem, hwa]
    intro _
    refine loop_fr [5, 36, 37, 38, 39, 40, 41, 42, 43, 44, 45, 46, 47, 48, 49] (fun m C hh => ∃ (i : Nat) (r : List Blk), i ≤ n.Eqs.length ∧ m = n.Eqs.length - i ∧ C = [(36, .raw (.int .i64 (i : Nat)))] ∧ hh = wr h k kb (enA l) (strU (eqsT (headN s l n) (n.Eqs.take i))) ++ (nodeBx n :: r)) n.Eqs.length _ ⟨0, _, by omega, by omega, rfl, rfl⟩ (.cons rfl .nil) ?_
    rintro m C j hh ⟨i, r, hi, rfl, rfl, rfl⟩
    simp only [go_sem]
    refine brK_dec (fun hlt => ?_) (fun hge => ?_)
    · obtain ⟨q, hq⟩ : ∃ q, n.Eqs[i]? = some q := ⟨_, List.getElem?_eq_getElem (by omega)⟩
      have hqm := List.mem_of_getElem? hq
      have h0 := ho.nd.2.2.2.2.2 q hqm
      have hjn := join18 q.Names commaT (by have := h0.1; omega) (by have := namesT_size h0.1 h0.2.2; unfold namesT at this; omega)
      have hex := expr13 q.E h0.2.1 (ho.num q hqm)
      have hez := lineT_size (eqL_size ho hqm)
      have hl5 : (eqL q).length = 5 := rfl
      rw [hl5] at hez
      have hts := eqsT_size ho (headN s l n) i hi
      have h30 := ho.nd.2.2.2.1
      simp only [go_sem]
      refine elemHave (x := q) (by omega) (by simpa using hq) ?_
      simp only [go_sem]
      have hlen : ∀ (es : List AV) (r : List Blk), (wr h k kb (enA l) es ++ r).length = h.length + r.length := fun es r => wr_lenA
      refine drawZ moB (by kernel_rfl) rfl ?_
      simp only [List.dropLast_cons_cons, List.dropLast_singleton, List.getLast_cons_cons, List.getLast_singleton]
      simp only [go_sem]
      refine pcK_of hjn ?_
      simp only [go_sem]
      first
        | refine pcK_of hex ?_
        | refine pcK_ofW hex ⟨by repeat' first | exact trivial | exact .nil _ | exact .refl _ | exact .tok _ _ _ | refine ⟨?_, ?_⟩ | refine weak_ex ?_ ?_ | refine weak_subs rfl ?_ | simp only [flat_nil, flat_agg, flat_ex, flat_ex0, enc_cells, List.cons_append, List.nil_append, Ex.kind, Ex.n, Ex.name, Ex.op, Ex.arms, Ex.subs], trivial⟩ ?_
      simp only [go_sem]
      refine lineB (eqL q) (some _) (eqsT (headN s l n) (n.Eqs.take i)) p (by show 5 ≤ 1000; omega) (by omega) (by omega) ?_
      rw [← eqsT_next hq]
      simp only [go_sem]
      exact loopFr _ (by omega) ⟨i + 1, _, by omega, rfl, rfl, rfl⟩ (.next rfl (by omega) .nil) rfl
    · have hie : i = n.Eqs.length := by omega
      subst hie
      rw [List.take_length]
      have hez := eqsT_size ho (headN s l n) n.Eqs.length (Nat.le_refl _)
      have h30 := ho.nd.2.2.2.1
      rw [List.take_length] at hez
      simp only [go_sem]
      refine lineB telL (some _) (eqsT (headN s l n) n.Eqs) p (by show 1 ≤ 1000; omega) (by show 3 ≤ 2000000; omega) (by omega) ?_
      rw [← nodeT_eq]
      simp only [go_sem]
      exact ⟨[], rfl, .tup [], .refl _, hK _⟩

  · have hvt : varsT l n = tNone := if_neg (by omega)
    have hhead : headN s l n = (s ++ lineT (nodeL l n)) ++ lineT letL := by
      unfold headN
      rw [hvt, show (s ++ lineT (nodeL l n)) ++ tNone = s ++ lineT (nodeL l n) from bytes_ext (by rw [app_list]; exact List.append_nil _)]
    have hs2 : (s ++ lineT (nodeL l n)).size ≤ 700000000 := by omega
    simp only [go_sem]
    refine lineB letL (some _) ((s ++ lineT (nodeL l n))) p (by show 1 ≤ 1000; omega) (by show 3 ≤ 2000000; omega) (by omega) ?_
    rw [← hhead]
    simp only [go_sem, hwa]
    intro _
    refine loop_fr [5, 36, 37, 38, 39, 40, 41, 42, 43, 44, 45, 46, 47, 48, 49] (fun m C hh => ∃ (i : Nat) (r : List Blk), i ≤ n.Eqs.length ∧ m = n.Eqs.length - i ∧ C = [(36, .raw (.int .i64 (i : Nat)))] ∧ hh = wr h k kb (enA l) (strU (eqsT (headN s l n) (n.Eqs.take i))) ++ (nodeBx n :: r)) n.Eqs.length _ ⟨0, _, by omega, by omega, rfl, rfl⟩ (.cons rfl .nil) ?_
    rintro m C j hh ⟨i, r, hi, rfl, rfl, rfl⟩
    simp only [go_sem]
    refine brK_dec (fun hlt => ?_) (fun hge => ?_)
    · obtain ⟨q, hq⟩ : ∃ q, n.Eqs[i]? = some q := ⟨_, List.getElem?_eq_getElem (by omega)⟩
      have hqm := List.mem_of_getElem? hq
      have h0 := ho.nd.2.2.2.2.2 q hqm
      have hjn := join18 q.Names commaT (by have := h0.1; omega) (by have := namesT_size h0.1 h0.2.2; unfold namesT at this; omega)
      have hex := expr13 q.E h0.2.1 (ho.num q hqm)
      have hez := lineT_size (eqL_size ho hqm)
      have hl5 : (eqL q).length = 5 := rfl
      rw [hl5] at hez
      have hts := eqsT_size ho (headN s l n) i hi
      have h30 := ho.nd.2.2.2.1
      simp only [go_sem]
      refine elemHave (x := q) (by omega) (by simpa using hq) ?_
      simp only [go_sem]
      have hlen : ∀ (es : List AV) (r : List Blk), (wr h k kb (enA l) es ++ r).length = h.length + r.length := fun es r => wr_lenA
      refine drawZ moB (by kernel_rfl) rfl ?_
      simp only [List.dropLast_cons_cons, List.dropLast_singleton, List.getLast_cons_cons, List.getLast_singleton]
      simp only [go_sem]
      refine pcK_of hjn ?_
      simp only [go_sem]
      first
        | refine pcK_of hex ?_
        | refine pcK_ofW hex ⟨by repeat' first | exact trivial | exact .nil _ | exact .refl _ | exact .tok _ _ _ | refine ⟨?_, ?_⟩ | refine weak_ex ?_ ?_ | refine weak_subs rfl ?_ | simp only [flat_nil, flat_agg, flat_ex, flat_ex0, enc_cells, List.cons_append, List.nil_append, Ex.kind, Ex.n, Ex.name, Ex.op, Ex.arms, Ex.subs], trivial⟩ ?_
      simp only [go_sem]
      refine lineB (eqL q) (some _) (eqsT (headN s l n) (n.Eqs.take i)) p (by show 5 ≤ 1000; omega) (by omega) (by omega) ?_
      rw [← eqsT_next hq]
      simp only [go_sem]
      exact loopFr _ (by omega) ⟨i + 1, _, by omega, rfl, rfl, rfl⟩ (.next rfl (by omega) .nil) rfl
    · have hie : i = n.Eqs.length := by omega
      subst hie
      rw [List.take_length]
      have hez := eqsT_size ho (headN s l n) n.Eqs.length (Nat.le_refl _)
      have h30 := ho.nd.2.2.2.1
      rw [List.take_length] at hez
      simp only [go_sem]
      refine lineB telL (some _) (eqsT (headN s l n) n.Eqs) p (by show 1 ≤ 1000; omega) (by show 3 ≤ 2000000; omega) (by omega) ?_
      rw [← nodeT_eq]
      simp only [go_sem]
      exact ⟨[], rfl, .tup [], .refl _, hK _⟩

theorem wr_c {a b c : Blk} {r : List Blk} {ev : AV} {es : List AV} : wr (a :: b :: c :: r) 1 2 ev es = a :: pgB 1 2 es.length ev :: .own 5 1 es :: r := rfl
theorem nodeT_pos (s : ByteArray) (l : List DEnum) (n : DNode) : 0 < (nodeT s l n).size := by
  have h3 : (lineT telL).size = 4 := rfl
  rw [nodeT_eq, ByteArray.size_append]
  omega

theorem nodeText (l : List DEnum) (n : DNode) (ho : NdOK l n) : PCall Tryz.prog 15 [.lst 2 (l.map DEnum.enc) none, n.enc] (.s (nodeT tNone l n)) := by
  refine pcall_of_vc tabOK Tryz.func15 (by kernel_rfl) rfl (by first | exact pureL | exact pureI) (.raw _) (n := 16) rfl (rs := [.tmp 4]) rfl ?_
  simp only [go_sem]
  refine acall_gb (ghost_ownc 1 1 5 1 rfl rfl) ?_
  refine nodeP (k := 1) (kb := 2) l n ho tNone ⟨⟨_, rfl, .inl rfl⟩, rfl, by decide⟩ (by show 0 ≤ _; omega) (fun r => ?_)
  simp only [go_sem]
  refine str_acall (nodeT tNone l n) ((wr_pg (by show 1 < 3; omega) (by show 2 < 3; omega) (by decide)).app r) (nodeT_pos _ _ _) ?_
  simp only [go_sem]
  exact finSq rfl rfl
structure PrOK (p : DProg) : Prop where
  prog : okProg p
  num : ∀ n ∈ p.Nodes, ∀ x ∈ n.Eqs, ∀ y ∈ parts x.E, I64 y.n
theorem PrOK.node {p : DProg} (h : PrOK p) {n : DNode} (hn : n ∈ p.Nodes) : NdOK p.Enums n := ⟨h.prog.1, h.prog.2.2 n hn, h.num n hn⟩
theorem enumL_size {p : DProg} (h : PrOK p) {e : DEnum} (he : e ∈ p.Enums) : ∀ x ∈ enumL e, x.size ≤ 2040 := by
  have h0 := h.prog.1.2 e he
  have h1 := namesT_size (l := e.Ctors) (by have := h0.1; omega) h0.2.2
  intro x hx
  simp only [enumL, List.mem_cons, List.not_mem_nil, or_false] at hx
  rcases hx with rfl | rfl | rfl | rfl | rfl
  · show 5 ≤ _; omega
  · omega
  · show 3 ≤ _; omega
  · exact h1
  · show 3 ≤ _; omega
theorem enumsT_size {p : DProg} (h : PrOK p) : ∀ i, i ≤ p.Enums.length → (enumsT (p.Enums.take i)).size ≤ i * 10201
  | 0, _ => by
    have h0 : (enumsT (p.Enums.take 0)).size = 0 := rfl
    omega
  | i + 1, hi => by
    obtain ⟨q, hq⟩ : ∃ q, p.Enums[i]? = some q := ⟨_, List.getElem?_eq_getElem (by omega)⟩
    have ih := enumsT_size h i (by omega)
    have h1 := (lineT_size (enumL_size h (List.mem_of_getElem? hq))).1
    have hl : (enumL q).length = 5 := rfl
    rw [enumsT_next hq, ByteArray.size_append]
    rw [hl] at h1
    omega
theorem nodesT_size {p : DProg} (h : PrOK p) (s : ByteArray) : ∀ i, i ≤ p.Nodes.length → (nodesT s p.Enums (p.Nodes.take i)).size ≤ s.size + i * 31000000
  | 0, _ => by show s.size ≤ _; omega
  | i + 1, hi => by
    obtain ⟨q, hq⟩ : ∃ q, p.Nodes[i]? = some q := ⟨_, List.getElem?_eq_getElem (by omega)⟩
    have ih := nodesT_size h s i (by omega)
    have h1 := nodeT_size (h.node (List.mem_of_getElem? hq)) (nodesT s p.Enums (p.Nodes.take i))
    rw [nodesT_next hq]
    omega
theorem nodesT_pos {p : DProg} (s : ByteArray) (hn : ¬ p.Nodes.length = 0) : 0 < (nodesT s p.Enums p.Nodes).size := by
  obtain ⟨q, hq⟩ : ∃ q, p.Nodes[p.Nodes.length - 1]? = some q := ⟨_, List.getElem?_eq_getElem (by omega)⟩
  have h := nodesT_next (s := s) (l := p.Enums) hq
  rw [show p.Nodes.length - 1 + 1 = p.Nodes.length by omega, List.take_length] at h
  rw [h]
  exact nodeT_pos _ _ _
theorem check_nodes {p : DProg} (h : checkF p = 0) : ¬ p.Nodes.length = 0 := fun q => by
  unfold checkF at h
  split at h
  · rename_i hne
    exact hne h
  · exact absurd h (by decide)

theorem textP (p : DProg) (ho : PrOK p) : PCall Tryz.prog 8 [p.enc] (.s (textT p)) := by
  refine pcall_of_vc tabOK Tryz.func8 (by kernel_rfl) rfl (by first | exact pureL | exact pureI) (.raw _) (n := 46) rfl (rs := [.tmp 2]) rfl ?_
  have hck := checkP p ho.prog
  have hp8 := ho.prog.1.1
  have hp10 := ho.prog.2.1
  unfold textT
  by_cases hc : checkF p = 0
  case neg =>
    rw [if_neg hc]
    simp only [go_sem]
    refine PCall.call hck ?_
    simp only [go_sem]
    refine brK_dec (fun _ => ?_) (fun q => by exfalso; exact q hc)
    simp only [go_sem]
    exact finSq rfl rfl
  rw [if_pos hc]
  rw [hc] at hck
  simp only [go_sem]
  refine PCall.call hck ?_
  simp only [go_sem]
  intro _
  refine loop_ghost (ghost_ownc 1 1 5 1 rfl rfl) ?_
  refine loop_fr [5, 18, 19, 20, 21, 22, 23, 24, 25, 26, 27, 28, 29, 30] (fun m C hh => ∃ (i : Nat) (pv : AV) (r : List Blk), i ≤ p.Enums.length ∧ (pv = .raw (.pointer none) ∨ pv = .ptr 1 0) ∧ m = p.Enums.length - i ∧ C = [(18, .raw (.int .i64 (i : Nat)))] ∧ hh = progBd p :: .cells 59 [pv, .own 1 2 (strU (enumsT (p.Enums.take i))).length, enA p.Enums] :: .own 5 1 (strU (enumsT (p.Enums.take i))) :: r) p.Enums.length _ ⟨0, _, [], by omega, .inl rfl, by omega, rfl, rfl⟩ (.cons rfl .nil) ?_
  rintro m C j hh ⟨i, pv, r, hi, hpv, rfl, rfl, rfl⟩
  simp only [go_sem]
  refine brK_dec (fun hlt => ?_) (fun hge => ?_)
  · obtain ⟨e, he⟩ : ∃ e, p.Enums[i]? = some e := ⟨_, List.getElem?_eq_getElem (by omega)⟩
    have hem := List.mem_of_getElem? he
    have h0 := ho.prog.1.2 e hem
    have hjn := join18 e.Ctors commaT (by have := h0.1; omega) (by have := namesT_size (l := e.Ctors) (by have := h0.1; omega) h0.2.2; unfold namesT at this; omega)
    have hez := lineT_size (enumL_size ho hem)
    have hl5 : (enumL e).length = 5 := rfl
    rw [hl5] at hez
    have hts := enumsT_size ho i hi
    simp only [go_sem]
    refine elemHave (x := e) (by omega) (by simpa using he) ?_
    simp only [go_sem]
    refine drawZ moB (by kernel_rfl) rfl ?_
    simp only [List.dropLast_cons_cons, List.dropLast_singleton, List.getLast_cons_cons, List.getLast_singleton]
    simp only [go_sem]
    refine pcK_of hjn ?_
    simp only [go_sem]
    refine lineP (k := 1) (kb := 2) (enumL e) (some _) (enumsT (p.Enums.take i)) ⟨⟨_, rfl, hpv⟩, rfl, by decide⟩ (by show 5 ≤ 1000; omega) (by omega) (by omega) ?_
    rw [← enumsT_next he, wr_c]
    simp only [go_sem]
    exact loopFr _ (by omega) ⟨i + 1, _, _, by omega, .inr rfl, rfl, rfl, rfl⟩ (.next rfl (by omega) .nil) rfl
  · have hie : i = p.Enums.length := by omega
    subst hie
    rw [List.take_length]
    have hts := enumsT_size ho p.Enums.length (Nat.le_refl _)
    rw [List.take_length] at hts
    simp only [go_sem]
    intro _
    refine loop_fr [7, 34, 35, 36, 37, 38, 39, 40, 41] (fun m C hh => ∃ (i : Nat) (pv : AV) (r : List Blk), i ≤ p.Nodes.length ∧ (pv = .raw (.pointer none) ∨ pv = .ptr 1 0) ∧ m = p.Nodes.length - i ∧ C = [(34, .raw (.int .i64 (i : Nat)))] ∧ hh = progBd p :: .cells 59 [pv, .own 1 2 (strU (nodesT (enumsT p.Enums) p.Enums (p.Nodes.take i))).length, enA p.Enums] :: .own 5 1 (strU (nodesT (enumsT p.Enums) p.Enums (p.Nodes.take i))) :: r) p.Nodes.length _ ⟨0, pv, _, by omega, hpv, by omega, rfl, rfl⟩ (.cons rfl .nil) ?_
    rintro m C j2 hh ⟨i, pv2, r2, hi2, hpv2, rfl, rfl, rfl⟩
    simp only [go_sem]
    refine brK_dec (fun hlt => ?_) (fun hge => ?_)
    · obtain ⟨n, hn⟩ : ∃ n, p.Nodes[i]? = some n := ⟨_, List.getElem?_eq_getElem (by omega)⟩
      have hnm := List.mem_of_getElem? hn
      have hns := nodesT_size ho (enumsT p.Enums) i hi2
      simp only [go_sem]
      refine elemHave (x := n) (by omega) (by simpa using hn) ?_
      simp only [go_sem]
      refine nodeP (k := 1) (kb := 2) p.Enums n (ho.node hnm) (nodesT (enumsT p.Enums) p.Enums (p.Nodes.take i)) ⟨⟨_, rfl, hpv2⟩, rfl, by decide⟩ (by omega) (fun r3 => ?_)
      rw [← nodesT_next hn, wr_c]
      simp only [go_sem]
      exact loopFr _ (by omega) ⟨i + 1, _, _, by omega, .inr rfl, rfl, rfl, rfl⟩ (.next rfl (by omega) .nil) rfl
    · have hie : i = p.Nodes.length := by omega
      subst hie
      rw [List.take_length]
      simp only [go_sem]
      refine str_acall (kb := 2) (nodesT (enumsT p.Enums) p.Enums p.Nodes) ⟨⟨_, rfl, hpv2⟩, rfl, by decide⟩ (nodesT_pos _ (check_nodes hc)) ?_
      simp only [go_sem]
      exact finSq rfl rfl
theorem sign31 (op : Int) : PCall Tryz.prog 86 [.i op] (.s (signT op)) := by
  refine pcall_of_vc tabOK Tryz.func86 (by kernel_rfl) rfl pureL pureI (n := 15) rfl (rs := [.tmp 2]) rfl ?_
  by_cases h : 1 ≤ op ∧ op ≤ 16
  · rcases (show op = 1 ∨ op = 2 ∨ op = 3 ∨ op = 4 ∨ op = 5 ∨ op = 6 ∨ op = 7 ∨ op = 8 ∨ op = 9 ∨ op = 10 ∨ op = 11 ∨ op = 12 ∨ op = 13 ∨ op = 14 ∨ op = 15 ∨ op = 16 by omega) with rfl | rfl | rfl | rfl | rfl | rfl | rfl | rfl | rfl | rfl | rfl | rfl | rfl | rfl | rfl | rfl
    all_goals
      simp only [go_sem]
      unfold ElemK
      refine ⟨_, ⟨by decide, rfl⟩, ?_⟩
      simp only [go_sem]
      exact finSq rfl (by simp [signT])
  · have hs : signT op = ⟨#[]⟩ := by
      unfold signT
      repeat rw [if_neg (by omega)]
    rw [hs]
    repeat' first
    | exact finB rfl
    | exact finI rfl
    | exact finP rfl
    | exact absurd rfl (by assumption)
    | simp only [go_sem]
    | (intro _)
    | refine brK_dec (fun _ => ?_) (fun _ => ?_)
    | refine brK_any ?_ ?_
    | refine gK_dec (fun _ => ?_) (fun _ => ?_)
    | refine gK_any ?_ ?_
    | refine gqK_dec (fun _ => ?_) (fun _ => ?_)
    | refine ⟨by omega, ?_⟩
    | refine elemHave (by omega) (by assumption) ?_
    | refine elemMap (by omega) (by omega) (fun x hx => ?_)
    | refine drawK mo (by kernel_rfl) ?_
    | (exfalso; omega)
    | (exact finSq rfl rfl)
theorem leaf35 (e : Ex) (hn : I64 e.n) (hs : e.name.size ≤ 200) (h2 : e.kind = 2 → e.n = 0 ∨ e.n = 1) : PCall Tryz.prog 89 [e.enc] (.s (leafT e)) := by
  refine pcall_of_vc tabOK Tryz.func89 (by kernel_rfl) rfl pureL pureI (n := 23) rfl (rs := [.tmp 2]) rfl ?_
  unfold leafT
  repeat' first
    | exact finB rfl
    | exact finI rfl
    | exact finP rfl
    | exact absurd rfl (by assumption)
    | simp only [go_sem]
    | (intro _)
    | refine brK_dec (fun _ => ?_) (fun _ => ?_)
    | refine brK_any ?_ ?_
    | refine gK_dec (fun _ => ?_) (fun _ => ?_)
    | refine gK_any ?_ ?_
    | refine gqK_dec (fun _ => ?_) (fun _ => ?_)
    | refine ⟨by omega, ?_⟩
    | refine elemHave (by omega) (by assumption) ?_
    | refine elemMap (by omega) (by omega) (fun x hx => ?_)
    | refine drawK mo (by kernel_rfl) ?_
    | (exfalso; omega)
    | (refine PCall.call (digits59 e.n hn) ?_)
    | (refine ⟨by first | omega | (simp; omega), ?_⟩)
    | (refine finSq rfl ?_; simp [*]; done)
    | (refine finSq rfl ?_; rw [if_neg (by omega), if_pos (by omega)]; first | (rw [if_pos (by omega)]; done) | (rw [if_neg (by omega)]; done))
    | (refine finSq rfl ?_; rw [if_neg (by omega), if_neg (by omega), if_pos (by omega)]; exact bytes_ext (by simp [catB_list, app_list]))
abbrev TextX (x : Ex) : Prop := PCall Tryz.prog 63 [x.enc] (.s (showT x))
def lstT (l : List Ex) : ByteArray := joinB (showL l) ⟨#[44, 32]⟩
theorem lstT_snoc {l : List Ex} {i : Nat} {x : Ex} (h : l[i]? = some x) : lstT (l.take (i + 1)) = (if i = 0 then ⟨#[]⟩ else lstT (l.take i) ++ ⟨#[44, 32]⟩) ++ showT x := by
  have hi : i < l.length := by
    rcases Nat.lt_or_ge i l.length with q | q
    · exact q
    · rw [List.getElem?_eq_none q] at h; cases h
  unfold lstT
  rw [List.take_add_one, h, showL_map, List.map_append, ← showL_map]
  show joinB (showL (l.take i) ++ [showT x]) _ = _
  rw [joinB_snoc]
  by_cases h0 : i = 0
  · subst h0; simp [showL]
  · rw [if_neg h0, if_neg]
    intro q
    have : (showL (l.take i)).length = i := by rw [showL_map, List.length_map, List.length_take]; omega
    rw [q] at this
    simp at this
    omega
theorem lstT_size {l : List Ex} {i : Nat} (hb : l.length ≤ 1000) (hs : sumS (showL l) ≤ 1000000) : (lstT (l.take i)).size ≤ 1010000 := by
  unfold lstT
  have h1 := joinB_size (showL (l.take i)) ⟨#[44, 32]⟩
  have h2 : showL (l.take i) = (showL l).take i := by rw [showL_map, showL_map, List.map_take]
  have h3 := sumS_take (showL l) i
  have h4 : (showL (l.take i)).length ≤ 1000 := by rw [showL_map, List.length_map, List.length_take]; omega
  rw [h2] at h1 h4 ⊢
  have e1 : (⟨#[44, 32]⟩ : ByteArray).size = 2 := rfl
  rw [e1] at h1
  omega
theorem sub_size {l : List Ex} {x : Ex} (hx : x ∈ l) : (showT x).size ≤ sumS (showL l) := by
  induction l with
  | nil => cases hx
  | cons a l ih =>
    rw [showL, sumS_cons]
    rcases List.mem_cons.1 hx with rfl | h
    · omega
    · have := ih h; omega

theorem list34 (l : List Ex) (hb : l.length ≤ 1000) (hs : sumS (showL l) ≤ 1000000) (ih : ∀ x ∈ l, TextX x) : PCall Tryz.prog 88 [.lst 6 (l.map Ex.enc) none] (.s (lstT l)) := by
  refine pcall_of_vc tabOK Tryz.func88 (by kernel_rfl) rfl pureL pureI (n := 23) rfl (rs := [.tmp 2]) rfl ?_
  simp only [go_sem]
  refine loop_frH [3, 4, 5, 6, 7, 8, 9, 10, 11, 12, 13, 14, 15, 16, 17, 18, 19, 20, 21] (fun m C => ∃ i : Nat, i ≤ l.length ∧ m = l.length - i ∧ C = [(4, .raw (.int .i64 (i : Nat))), (3, .s (lstT (l.take i)))]) l.length _ ⟨0, by omega, by omega, rfl⟩ (.cons rfl (.cons (by simp [lstT, showL, joinB_nil]) .nil)) ?_
  rintro m C j ⟨i, hi, rfl, rfl⟩
  simp only [go_sem]
  intro _
  refine brK_dec (fun hlt => ?_) (fun hge => ?_)
  · obtain ⟨x, hx⟩ : ∃ x, l[i]? = some x := ⟨_, List.getElem?_eq_getElem (by omega)⟩
    have hm := List.mem_of_getElem? hx
    have hz := sub_size hm
    have hl1 := lstT_size (i := i) hb hs
    have hn := lstT_snoc hx
    simp only [go_sem]
    refine brK_dec (fun h0 => ?_) (fun h0 => ?_)
    · rw [if_neg (by omega)] at hn
      have e1 : (⟨#[44, 32]⟩ : ByteArray).size = 2 := rfl
      simp only [go_sem]
      refine ⟨by first | omega | (simp; omega), ?_⟩
      refine elemHave (x := x) (by omega) (by simpa using hx) ?_
      simp only [go_sem]
      refine PCall.call (ih x hm) ?_
      simp only [go_sem]
      refine ⟨by first | omega | (simp; omega), ?_⟩
      rw [← hn]
      exact loopFrH _ (by omega) ⟨i + 1, by omega, rfl, rfl⟩ (.next rfl (by omega) (.cons rfl .nil)) rfl
    · have hi0 : i = 0 := by omega
      subst hi0
      rw [if_pos rfl] at hn
      have hl0 : lstT (l.take 0) = ⟨#[]⟩ := rfl
      rw [hl0]
      simp only [go_sem]
      refine elemHave (x := x) (by omega) (by simpa using hx) ?_
      simp only [go_sem]
      refine PCall.call (ih x hm) ?_
      simp only [go_sem]
      refine ⟨by simp; omega, ?_⟩
      rw [← hn]
      exact loopFrH _ (by omega) ⟨1, by omega, rfl, rfl⟩ (.next rfl (by omega) (.cons rfl .nil)) rfl
  · have hie : i = l.length := by omega
    subst hie
    rw [List.take_length]
    simp only [go_sem]
    exact finSq rfl rfl

theorem call33 (e : Ex) (hb : e.subs.length ≤ 1000) (hn : e.n = 0 ∨ e.n = 1) (hlen : e.n ≤ (e.subs.length : Int)) (hs : e.name.size ≤ 200) (ht : sumS (showL e.subs) ≤ 1000000) (ih : ∀ x ∈ e.subs, TextX x) : PCall Tryz.prog 87 [e.enc] (.s (callTx e (showL e.subs))) := by
  refine pcall_of_vc tabOK Tryz.func87 (by kernel_rfl) rfl pureL pureI (n := 36) rfl (rs := [.tmp 2]) rfl ?_
  have hll : (showL e.subs).length = e.subs.length := by rw [showL_map, List.length_map]
  obtain ⟨N, hN⟩ : ∃ N : Nat, N = e.subs.length - e.n.toNat := ⟨_, rfl⟩
  have hw : IntKind.i64.wrap ((e.subs.length : Int) - e.n) = (N : Int) := by rw [wrap_in _ (by omega) (by omega)]; omega
  have hL : sumS (showL (e.subs.take N)) ≤ 1000000 := by
    rw [show showL (e.subs.take N) = (showL e.subs).take N by rw [showL_map, showL_map, List.map_take]]
    have := sumS_take (showL e.subs) N
    omega
  have hlt : (e.subs.take N).length ≤ 1000 := by rw [List.length_take]; omega
  have hc := list34 (e.subs.take N) hlt hL (fun x hx => ih x (List.mem_of_mem_take hx))
  have hz := lstT_size (i := N) hb ht
  have hR : callTx e (showL e.subs) = if e.n = 0 then e.name ++ (⟨#[40]⟩ ++ (lstT (e.subs.take N) ++ ⟨#[41]⟩)) else ⟨#[40]⟩ ++ ((e.name ++ (⟨#[40]⟩ ++ (lstT (e.subs.take N) ++ ⟨#[41]⟩))) ++ (⟨#[32, 101, 118, 101, 114, 121, 32]⟩ ++ ((showL e.subs).getD N ⟨#[]⟩ ++ ⟨#[41]⟩))) := by
    unfold callTx lstT
    rw [hll, ← hN, show showL (e.subs.take N) = (showL e.subs).take N by rw [showL_map, showL_map, List.map_take]]
    dsimp only
    split <;> exact bytes_ext (by simp [catB_list, app_list])
  rw [hR]
  generalize lstT (e.subs.take N) = J at hc hz
  simp only [go_sem]
  intro _
  rw [hw]
  repeat' first
    | (exfalso; omega)
    | simp only [go_sem]
    | (intro _)
    | refine drawK mo (by kernel_rfl) ?_
    | refine ⟨by first | omega | (simp; omega), ?_⟩
    | (refine pcK_of hc ?_)
    | refine brK_dec (fun _ => ?_) (fun _ => ?_)
  · have h1 : e.n = 1 := by omega
    obtain ⟨x, hx⟩ : ∃ x, e.subs[N]? = some x := ⟨_, List.getElem?_eq_getElem (by rw [h1] at hN hlen; simp at hN; omega)⟩
    have hz2 := sub_size (List.mem_of_getElem? hx)
    have hg : (showL e.subs).getD N ⟨#[]⟩ = showT x := by
      rw [showL_map, List.getD_eq_getElem?_getD, List.getElem?_map, hx]
      rfl
    rw [hg]
    refine elemHave (x := x) (by omega) (by simpa using hx) ?_
    simp only [go_sem]
    refine PCall.call (ih x (List.mem_of_getElem? hx)) ?_
    repeat' first
      | simp only [go_sem]
      | (refine finSq rfl ?_; rw [if_neg (by omega)]; exact bytes_ext (by simp [app_list]))
      | refine ⟨by first | omega | (simp; omega), ?_⟩
  · refine finSq rfl ?_
    rw [if_pos (by omega)]
    exact bytes_ext (by simp [app_list])
set_option maxHeartbeats 8000000
theorem merge_big (e : Ex) (ts : List ByteArray) (i : Nat) (hb : ts.length ≤ 1000) (hs : e.name.size ≤ 200) (ha : ∀ a ∈ e.arms, a.size ≤ 100) (ht : sumS ts ≤ 1000000) : (catB (⟨#[40]⟩ :: mergeL e ts i)).size ≤ 9000000 := by
  have h1 := armsT2_sum (cs := e.arms.take i) (ts := ts.take i) fun a h => ha a (List.mem_of_mem_take h)
  have h2 := sumS_take ts i
  have h3 : (ts.take i).length ≤ ts.length := by rw [List.length_take]; omega
  rw [catB_size, sumS_cons]
  unfold mergeL
  rw [sumS_append, sumS_cons, sumS_cons]
  have e0 : (⟨#[40]⟩ : ByteArray).size = 1 := rfl
  have e1 : (⟨#[109, 101, 114, 103, 101, 32]⟩ : ByteArray).size = 6 := rfl
  have e2 : sumS [] = 0 := rfl
  omega
abbrev toT (n : Nat) : Blk := .tok 9 1 n

theorem text15 (e : Ex) : ShowOK e → TextX e := by
  induction e using Ex.ind with
  | _ e ih =>
  intro h
  obtain ⟨hk, hlo, hhi, h11, h12, h0, h13, h17, h2b, h5b⟩ := part_more (h.part e (self_parts e))
  have hnm := (h.ok.2 e (self_parts e)).1
  have harm := (h.ok.2 e (self_parts e)).2
  have hsl := subs_leS h.ok
  have ih' : ∀ x ∈ e.subs, TextX x := fun x hx => ih x hx (h.sub hx)
  have hlen : (showL e.subs).length = e.subs.length := by rw [showL_map, List.length_map]
  have hsum : sumS (showL e.subs) ≤ 1000000 := by
    have h1 := showL_sum (l := e.subs) fun x hx => showT_size x (h.sub hx)
    have h2 : (parts e).length = (partsL e.subs).length + 1 := by rw [parts_eq, List.length_cons]
    have h3 := h.ok.1
    omega
  have hlist : PCall Tryz.prog 88 [.lst 6 (e.subs.map Ex.enc) none] (.s (joinB (showL e.subs) ⟨#[44, 32]⟩)) := list34 e.subs (by omega) hsum ih'
  have hcall : e.kind = 13 → _ := fun q => call33 e (by omega) (h13 q) (by
    have : (subsE e).1 = e.n := by simp [subsE, q]
    omega) hnm hsum ih'
  have hleaf := leaf35 e (h.num e (self_parts e)) hnm h2b
  unfold TextX
  rw [showT_eq]
  refine pcall_of_vc tabOK Tryz.func63 (by kernel_rfl) rfl pureL pureI (n := 191) rfl (rs := [.tmp 2]) rfl ?_
  have hmap : showL e.subs = e.subs.map showT := showL_map _
  simp only [go_sem]
  refine loop_fr [3, 4, 8, 9, 10, 11, 12, 13, 14, 15, 16, 17, 18, 19, 20, 21, 22, 23] (fun m C hh => ∃ (i : Nat) (r : List Blk), i ≤ e.subs.length ∧ m = e.subs.length - i ∧ C = [(4, .raw (.int .i64 (i : Nat))), (3, .lst 1 (((e.subs.take i).map showT).map AV.s) (some 1))] ∧ hh = exBs e :: toT i :: r) e.subs.length _ ⟨0, [], by omega, by omega, rfl, rfl⟩ (.cons rfl (.cons rfl .nil)) ?_
  rintro m C ja hh ⟨i, r, hi, rfl, rfl, rfl⟩
  simp only [go_sem]
  intro _
  refine brK_dec (fun hlt => ?_) (fun hge => ?_)
  · obtain ⟨x, hx⟩ : ∃ x, e.subs[i]? = some x := ⟨_, List.getElem?_eq_getElem (by omega)⟩
    have hti : (e.subs.take i).length = i := by rw [List.length_take]; omega
    simp only [go_sem]
    refine elemHave (x := x) (by omega) (by simpa using hx) ?_
    simp only [go_sem]
    refine PCall.call (ih' x (List.mem_of_getElem? hx)) ?_
    simp only [go_sem]
    refine ⟨by omega, ?_⟩
    exact loopFr _ (by omega) ⟨i + 1, _, by omega, rfl, rfl, by rw [hti]⟩ (.next rfl (by omega) (.cons (by rw [take_mapS (f := showT) (by simpa using hx)]; simp) .nil)) rfl
  rw [List.take_of_length_le (by omega), ← hmap]
  generalize showL e.subs = ts at hlen hsum hcall hlist
  have hg := fun i => sumS_getD ts i
  have hq : ∀ i, i < ts.length → ts[((i : Nat) : Int).toNat]? = some (ts.getD i ⟨#[]⟩) := fun i hi => by rw [Int.toNat_natCast]; exact at_getD hi
  have hg0 := hg 0
  have hg1 := hg 1
  have hg2 := hg 2
  rcases (show e.kind = 5 ∨ e.kind = 6 ∨ e.kind = 7 ∨ e.kind = 8 ∨ e.kind = 9 ∨ e.kind = 10 ∨ e.kind = 11 ∨ e.kind = 12 ∨ e.kind = 13 ∨ e.kind = 14 ∨ e.kind = 15 ∨ e.kind = 16 ∨ (e.kind ≤ 4 ∨ 17 ≤ e.kind) by omega) with k | k | k | k | k | k | k | k | k | k | k | k | k
  · have hl2 : (subsE e).1 = 1 := by simp [subsE, k]
    have hf : headT e ts = catB [⟨#[40]⟩, if e.op = 1 then ⟨#[45]⟩ else ⟨#[110, 111, 116, 32]⟩, ts.getD 0 ⟨#[]⟩, ⟨#[41]⟩] := by unfold headT; simp [k]
    rw [hf]
    repeat' first
      | (exfalso; omega)
      | simp only [go_sem, k]
      | refine brK_dec (fun _ => ?_) (fun _ => ?_)
      | refine drawK mo (by kernel_rfl) ?_
      | refine elemHave (x := ts.getD 0 ⟨#[]⟩) (by omega) (hq 0 (by omega)) ?_
      | refine elemHave (x := ts.getD 1 ⟨#[]⟩) (by omega) (hq 1 (by omega)) ?_
      | refine elemHave (x := ts.getD 2 ⟨#[]⟩) (by omega) (hq 2 (by omega)) ?_
      | (refine finSq rfl ?_; (first | rw [if_pos (by assumption)] | rw [if_neg (by assumption)]); exact bytes_ext (by simp [catB_list, app_list]))
      | refine And.intro (by first | omega | (simp [-List.getD_eq_getElem?_getD]; omega)) ?_
  · have hl2 : (subsE e).1 = 2 := by simp [subsE, k]
    have hsg := signT_size e.op
    have hf : headT e ts = catB [⟨#[40]⟩, ts.getD 0 ⟨#[]⟩, ⟨#[32]⟩, signT e.op, ⟨#[32]⟩, ts.getD 1 ⟨#[]⟩, ⟨#[41]⟩] := by unfold headT; simp [k]
    rw [hf]
    repeat' first
      | (exfalso; omega)
      | simp only [go_sem, k]
      | refine brK_dec (fun _ => ?_) (fun _ => ?_)
      | refine drawK mo (by kernel_rfl) ?_
      | refine elemHave (x := ts.getD 0 ⟨#[]⟩) (by omega) (hq 0 (by omega)) ?_
      | refine elemHave (x := ts.getD 1 ⟨#[]⟩) (by omega) (hq 1 (by omega)) ?_
      | refine elemHave (x := ts.getD 2 ⟨#[]⟩) (by omega) (hq 2 (by omega)) ?_
      | (refine pcK_of (sign31 e.op) ?_)
      | (refine finSq rfl ?_;  exact bytes_ext (by simp [catB_list, app_list]))
      | refine And.intro (by first | omega | (simp [-List.getD_eq_getElem?_getD]; omega)) ?_
  · have hl2 : (subsE e).1 = 3 := by simp [subsE, k]
    have hf : headT e ts = catB [⟨#[40]⟩, ⟨#[105, 102, 32]⟩, ts.getD 0 ⟨#[]⟩, ⟨#[32, 116, 104, 101, 110, 32]⟩, ts.getD 1 ⟨#[]⟩, ⟨#[32, 101, 108, 115, 101, 32]⟩, ts.getD 2 ⟨#[]⟩, ⟨#[41]⟩] := by unfold headT; simp [k]
    rw [hf]
    repeat' first
      | (exfalso; omega)
      | simp only [go_sem, k]
      | refine brK_dec (fun _ => ?_) (fun _ => ?_)
      | refine drawK mo (by kernel_rfl) ?_
      | refine elemHave (x := ts.getD 0 ⟨#[]⟩) (by omega) (hq 0 (by omega)) ?_
      | refine elemHave (x := ts.getD 1 ⟨#[]⟩) (by omega) (hq 1 (by omega)) ?_
      | refine elemHave (x := ts.getD 2 ⟨#[]⟩) (by omega) (hq 2 (by omega)) ?_
      | (refine finSq rfl ?_;  exact bytes_ext (by simp [catB_list, app_list]))
      | refine And.intro (by first | omega | (simp [-List.getD_eq_getElem?_getD]; omega)) ?_
  · have hl2 : (subsE e).1 = 2 := by simp [subsE, k]
    have hf : headT e ts = catB [⟨#[40]⟩, ts.getD 0 ⟨#[]⟩, ⟨#[32, 102, 98, 121, 32]⟩, ts.getD 1 ⟨#[]⟩, ⟨#[41]⟩] := by unfold headT; simp [k]
    rw [hf]
    repeat' first
      | (exfalso; omega)
      | simp only [go_sem, k]
      | refine brK_dec (fun _ => ?_) (fun _ => ?_)
      | refine drawK mo (by kernel_rfl) ?_
      | refine elemHave (x := ts.getD 0 ⟨#[]⟩) (by omega) (hq 0 (by omega)) ?_
      | refine elemHave (x := ts.getD 1 ⟨#[]⟩) (by omega) (hq 1 (by omega)) ?_
      | refine elemHave (x := ts.getD 2 ⟨#[]⟩) (by omega) (hq 2 (by omega)) ?_
      | (refine finSq rfl ?_;  exact bytes_ext (by simp [catB_list, app_list]))
      | refine And.intro (by first | omega | (simp [-List.getD_eq_getElem?_getD]; omega)) ?_
  · have hl2 : (subsE e).1 = 2 := by simp [subsE, k]
    have hf : headT e ts = catB [⟨#[40]⟩, ts.getD 0 ⟨#[]⟩, ⟨#[32, 45, 62, 32]⟩, ts.getD 1 ⟨#[]⟩, ⟨#[41]⟩] := by unfold headT; simp [k]
    rw [hf]
    repeat' first
      | (exfalso; omega)
      | simp only [go_sem, k]
      | refine brK_dec (fun _ => ?_) (fun _ => ?_)
      | refine drawK mo (by kernel_rfl) ?_
      | refine elemHave (x := ts.getD 0 ⟨#[]⟩) (by omega) (hq 0 (by omega)) ?_
      | refine elemHave (x := ts.getD 1 ⟨#[]⟩) (by omega) (hq 1 (by omega)) ?_
      | refine elemHave (x := ts.getD 2 ⟨#[]⟩) (by omega) (hq 2 (by omega)) ?_
      | (refine finSq rfl ?_;  exact bytes_ext (by simp [catB_list, app_list]))
      | refine And.intro (by first | omega | (simp [-List.getD_eq_getElem?_getD]; omega)) ?_
  · have hl2 : (subsE e).1 = 1 := by simp [subsE, k]
    have hf : headT e ts = catB [⟨#[40]⟩, ⟨#[112, 114, 101, 32]⟩, ts.getD 0 ⟨#[]⟩, ⟨#[41]⟩] := by unfold headT; simp [k]
    rw [hf]
    repeat' first
      | (exfalso; omega)
      | simp only [go_sem, k]
      | refine brK_dec (fun _ => ?_) (fun _ => ?_)
      | refine drawK mo (by kernel_rfl) ?_
      | refine elemHave (x := ts.getD 0 ⟨#[]⟩) (by omega) (hq 0 (by omega)) ?_
      | refine elemHave (x := ts.getD 1 ⟨#[]⟩) (by omega) (hq 1 (by omega)) ?_
      | refine elemHave (x := ts.getD 2 ⟨#[]⟩) (by omega) (hq 2 (by omega)) ?_
      | (refine finSq rfl ?_;  exact bytes_ext (by simp [catB_list, app_list]))
      | refine And.intro (by first | omega | (simp [-List.getD_eq_getElem?_getD]; omega)) ?_
  · have hl2 : (subsE e).1 = 1 := by simp [subsE, k]
    obtain ⟨a, haa⟩ : ∃ a, e.arms[0]? = some a := ⟨_, List.getElem?_eq_getElem (by have := h11 k; omega)⟩
    have has := harm a (List.mem_of_getElem? haa)
    have hos := onT_size e.name a
    have hf : headT e ts = catB [⟨#[40]⟩, ts.getD 0 ⟨#[]⟩, ⟨#[32, 119, 104, 101, 110, 32]⟩, onT e.name a, ⟨#[41]⟩] := by unfold headT; rw [headD_at1 haa]; simp [k]
    rw [hf]
    repeat' first
      | (exfalso; omega)
      | simp only [go_sem, k]
      | refine brK_dec (fun _ => ?_) (fun _ => ?_)
      | refine drawK mo (by kernel_rfl) ?_
      | refine elemHave (x := ts.getD 0 ⟨#[]⟩) (by omega) (hq 0 (by omega)) ?_
      | refine elemHave (x := ts.getD 1 ⟨#[]⟩) (by omega) (hq 1 (by omega)) ?_
      | refine elemHave (x := ts.getD 2 ⟨#[]⟩) (by omega) (hq 2 (by omega)) ?_
      | refine elemHave (x := a) (by omega) (by simpa using haa) ?_
      | (refine pcK_of (on7 e.name a (by omega) (by omega)) ?_)
      | (refine finSq rfl ?_;  exact bytes_ext (by simp [catB_list, app_list]))
      | refine And.intro (by first | omega | (simp [-List.getD_eq_getElem?_getD]; omega)) ?_
  · have hl2 : (subsE e).1 = e.arms.length := by simp [subsE, k]
    have hhi2 : (subsE e).2 = e.arms.length := by simp [subsE, k]
    have hl : ts.length = e.arms.length := by omega
    have hf : headT e ts = catB ([⟨#[40]⟩, ⟨#[109, 101, 114, 103, 101, 32]⟩, e.name] ++ armsT2 e.arms ts ++ [⟨#[41]⟩]) := by unfold headT; simp [k]
    have hbig := fun i => merge_big e ts i (by omega) hnm harm hsum
    rw [hf]
    generalize hR : catB ([⟨#[40]⟩, ⟨#[109, 101, 114, 103, 101, 32]⟩, e.name] ++ armsT2 e.arms ts ++ [⟨#[41]⟩]) = R
    repeat' first
      | (exfalso; omega)
      | simp only [go_sem, k]
      | refine brK_dec (fun _ => ?_) (fun _ => ?_)
      | refine And.intro (by first | omega | (simp [-List.getD_eq_getElem?_getD]; omega)) ?_
    refine loop_frH [5, 6, 127, 128, 129, 130, 131, 132, 133, 134, 135, 136, 137, 138, 139, 140, 141, 142, 143, 144, 145, 146, 147] (fun m C => ∃ i : Nat, i ≤ ts.length ∧ m = ts.length - i ∧ C = [(6, .raw (.int .i64 (i : Nat))), (5, .s (catB (⟨#[40]⟩ :: mergeL e ts i)))]) ts.length _ ⟨0, by omega, by omega, rfl⟩ (.cons rfl (.cons (congrArg some (congrArg AV.s (bytes_ext (by simp [catB_list, app_list, mergeL, armsT2])))) .nil)) ?_
    rintro m C j ⟨i, hi, rfl, rfl⟩
    simp only [go_sem]
    intro _
    refine brK_dec (fun hlt => ?_) (fun hge => ?_)
    · obtain ⟨t, htt⟩ : ∃ t, ts[i]? = some t := ⟨_, List.getElem?_eq_getElem (by omega)⟩
      obtain ⟨c, hc⟩ : ∃ c, e.arms[i]? = some c := ⟨_, List.getElem?_eq_getElem (by omega)⟩
      have hnx : catB (⟨#[40]⟩ :: mergeL e ts (i + 1)) = catB (⟨#[40]⟩ :: mergeL e ts i) ++ (⟨#[32, 40]⟩ ++ (c ++ (⟨#[32, 45, 62, 32]⟩ ++ (t ++ ⟨#[41]⟩)))) := by
        unfold mergeL
        rw [armsT2_next hc htt]
        exact bytes_ext (by simp [catB_list, app_list])
      have hcs := harm c (List.mem_of_getElem? hc)
      have hts := hg i
      rw [List.getD_eq_getElem?_getD, htt] at hts
      simp only [Option.getD_some] at hts
      have hbi := hbig i
      generalize catB (⟨#[40]⟩ :: mergeL e ts i) = S at hbi hnx
      repeat' first
        | simp only [go_sem]
        | refine drawK mo (by kernel_rfl) ?_
        | refine elemHave (x := c) (by omega) (by simpa using hc) ?_
        | refine elemHave (x := t) (by omega) (by simpa using htt) ?_
        | exact loopFrH _ (by omega) ⟨i + 1, by omega, rfl, rfl⟩ (.next rfl (by omega) (.cons (by rw [hnx]; exact congrArg some (congrArg AV.s (bytes_ext (by simp [app_list])))) .nil)) rfl
        | refine And.intro (by first | omega | (simp [-List.getD_eq_getElem?_getD]; omega)) ?_
    · have hie : i = ts.length := by omega
      have hbi := hbig i
      subst hie
      have hfin : catB (⟨#[40]⟩ :: mergeL e ts ts.length) ++ ⟨#[41]⟩ = R := by
        rw [← hR]
        unfold mergeL
        rw [List.take_of_length_le (Nat.le_refl _), List.take_of_length_le (by omega)]
        exact bytes_ext (by simp [catB_list, app_list])
      generalize catB (⟨#[40]⟩ :: mergeL e ts ts.length) = S at hbi hfin
      repeat' first
        | simp only [go_sem]
        | exact finSq rfl hfin
        | refine And.intro (by first | omega | (simp [-List.getD_eq_getElem?_getD]; omega)) ?_
  · have hf : headT e ts = callTx e ts := by unfold headT; simp [k]
    have hc := hcall k
    rw [hf]
    generalize callTx e ts = R at hc
    repeat' first
      | (exfalso; omega)
      | simp only [go_sem]
      | refine brK_dec (fun _ => ?_) (fun _ => ?_)
      | (refine PCall.call hc ?_)
      | exact finSq rfl rfl
  · have hf : headT e ts = catB [⟨#[91]⟩, joinB ts ⟨#[44, 32]⟩, ⟨#[93]⟩] := by unfold headT; simp [k]
    have hj : (joinB ts ⟨#[44, 32]⟩).size ≤ 1010000 := by
      have h1 := joinB_size ts ⟨#[44, 32]⟩
      rw [zs2] at h1
      omega
    rw [hf]
    repeat' first
      | (exfalso; omega)
      | simp only [go_sem, k]
      | (refine PCall.call hlist ?_)
      | exact finSq rfl (bytes_ext (by simp [catB_list, app_list]))
      | refine And.intro (by first | omega | (simp [-List.getD_eq_getElem?_getD]; omega)) ?_
  · have hl2 : (subsE e).1 = 2 := by simp [subsE, k]
    have hf : headT e ts = catB [ts.getD 0 ⟨#[]⟩, ⟨#[91]⟩, ts.getD 1 ⟨#[]⟩, ⟨#[93]⟩] := by unfold headT; simp [k]
    rw [hf]
    repeat' first
      | (exfalso; omega)
      | simp only [go_sem, k]
      | refine brK_dec (fun _ => ?_) (fun _ => ?_)
      | refine drawK mo (by kernel_rfl) ?_
      | refine elemHave (x := ts.getD 0 ⟨#[]⟩) (by omega) (hq 0 (by omega)) ?_
      | refine elemHave (x := ts.getD 1 ⟨#[]⟩) (by omega) (hq 1 (by omega)) ?_
      | refine elemHave (x := ts.getD 2 ⟨#[]⟩) (by omega) (hq 2 (by omega)) ?_
      | (refine finSq rfl ?_;  exact bytes_ext (by simp [catB_list, app_list]))
      | refine And.intro (by first | omega | (simp [-List.getD_eq_getElem?_getD]; omega)) ?_
  · have hl2 : (subsE e).1 = 3 := by simp [subsE, k]
    have hf : headT e ts = catB [⟨#[40]⟩, ts.getD 0 ⟨#[]⟩, ⟨#[32, 119, 105, 116, 104, 32, 91]⟩, ts.getD 1 ⟨#[]⟩, ⟨#[93, 32, 61, 32]⟩, ts.getD 2 ⟨#[]⟩, ⟨#[41]⟩] := by unfold headT; simp [k]
    rw [hf]
    repeat' first
      | (exfalso; omega)
      | simp only [go_sem, k]
      | refine brK_dec (fun _ => ?_) (fun _ => ?_)
      | refine drawK mo (by kernel_rfl) ?_
      | refine elemHave (x := ts.getD 0 ⟨#[]⟩) (by omega) (hq 0 (by omega)) ?_
      | refine elemHave (x := ts.getD 1 ⟨#[]⟩) (by omega) (hq 1 (by omega)) ?_
      | refine elemHave (x := ts.getD 2 ⟨#[]⟩) (by omega) (hq 2 (by omega)) ?_
      | (refine finSq rfl ?_;  exact bytes_ext (by simp [catB_list, app_list]))
      | refine And.intro (by first | omega | (simp [-List.getD_eq_getElem?_getD]; omega)) ?_
  · have hf : headT e ts = leafT e := by
      unfold headT
      rw [if_neg (by omega), if_neg (by omega), if_neg (by omega), if_neg (by omega), if_neg (by omega), if_neg (by omega), if_neg (by omega), if_neg (by omega), if_neg (by omega), if_neg (by omega), if_neg (by omega), if_neg (by omega)]
    rw [hf]
    generalize leafT e = R at hleaf
    repeat' first
      | (exfalso; omega)
      | simp only [go_sem]
      | refine brK_dec (fun _ => ?_) (fun _ => ?_)
      | (refine PCall.call hleaf ?_)
      | exact finSq rfl rfl
theorem parts_num {e : Ex} : e.ok → ∀ y ∈ parts e, I64 y.n := by
  induction e using Ex.ind with
  | _ e ih =>
  intro h y hy
  obtain ⟨_, q2, _, _, _, q6⟩ := (Ex.ok_eq e).1 h
  rw [parts_eq] at hy
  rcases List.mem_cons.1 hy with rfl | hy
  · exact q2
  · obtain ⟨x, hx, hp⟩ := mem_partsL hy
    exact ih x hx (q6 x hx) y hp
theorem literal51 (e : Ex) : PCall Tryz.prog 146 [e.enc] (.b (litE e)) := by
  refine pcall_of_vc tabOK Tryz.func146 (by kernel_rfl) rfl pureL pureI (n := 36) rfl (rs := [.tmp 2]) rfl ?_
  repeat' first
    | (exfalso; omega)
    | simp only [go_sem]
    | (intro _)
    | refine brK_dec (fun _ => ?_) (fun _ => ?_)
    | refine gK_dec (fun _ => ?_) (fun _ => ?_)
    | refine elemMap (by omega) (by omega) (fun x hx => ?_)
    | (refine finBq rfl ?_; have hk := k0_at hx; simp [litE, *]; done)
    | (refine finBq rfl ?_; simp [litE, *]; done)
    | (refine finBq rfl ?_; have h1 : ¬ e.subs.length = 1 := (by omega); simp [litE, *]; done)
    | (refine finBq rfl ?_; have h1 : e.subs.length = 1 := (by omega); have hk := k0_at hx; simp [litE, *]; done)
theorem const19 (e : Ex) : PCall Tryz.prog 122 [e.enc] (.b (constE e)) := by
  refine pcall_of_vc tabOK Tryz.func122 (by kernel_rfl) rfl pureL pureI (n := 23) rfl (rs := [.tmp 2]) rfl ?_
  repeat' first
    | exact finB rfl
    | exact finI rfl
    | exact finP rfl
    | exact absurd rfl (by assumption)
    | simp only [go_sem]
    | (intro _)
    | refine brK_dec (fun _ => ?_) (fun _ => ?_)
    | refine brK_any ?_ ?_
    | refine gK_dec (fun _ => ?_) (fun _ => ?_)
    | refine gK_any ?_ ?_
    | refine gqK_dec (fun _ => ?_) (fun _ => ?_)
    | refine ⟨by omega, ?_⟩
    | refine elemHave (by omega) (by assumption) ?_
    | refine elemMap (by omega) (by omega) (fun x hx => ?_)
    | refine drawK mo (by kernel_rfl) ?_
    | ((fail_if_success (clear hx)); have hk14 : ¬ e.kind = 14 := (by assumption); refine PCall.call (literal51 e) ?_)
    | (have hk14 : e.kind = 14 := (by omega); refine PCall.call (literal51 x) ?_; generalize hpx : litE x = q; cases q)
    | (refine pcK_of (literal51 x) ?_; generalize hpx : litE x = q; cases q)
    | (refine finBq rfl ?_; simp [constE, *]; done)
    | (have hk14 : e.kind = 14 := (by omega); refine finBq rfl ?_; unfold constE; rw [if_pos hk14]; first | (rw [List.all_eq_true.2 (take_full hpi (by omega))]) | (rw [List.all_eq_false.2 ⟨x, List.mem_of_getElem? hx, by simp [hpx]⟩]))
    | exact loopFrH _ (by omega) ⟨i + 1, by omega, rfl, take_all hpi (by simpa using hx) hpx, rfl⟩ (.next rfl (by omega) .nil) rfl
    | (refine loop_frH [2, 3, 9, 10, 11, 12, 13, 14, 15, 16, 17, 18, 19, 20, 21, 22] (fun mm_ CC_ => ∃ (i : Nat), i ≤ e.subs.length ∧ mm_ = e.subs.length - i ∧ (∀ x ∈ e.subs.take i, litE x = true) ∧ CC_ = [(3, .raw (.int .i64 ((i : Nat) : Int)))]) (e.subs.length) _ ⟨0, by omega, by omega, by simp, rfl⟩ (.cons rfl .nil) ?_; rintro mm_ CC_ ji ⟨i, hi, rfl, hpi, rfl⟩)
theorem numbers72 (e : Ex) : PCall Tryz.prog 118 [e.enc] (.b (numbersE e)) := by
  refine pcall_of_vc tabOK Tryz.func118 (by kernel_rfl) rfl pureL pureI (n := 46) rfl (rs := [.tmp 2]) rfl ?_
  repeat' first
    | exact finB rfl
    | exact finI rfl
    | exact finP rfl
    | exact absurd rfl (by assumption)
    | simp only [go_sem]
    | (intro _)
    | refine brK_dec (fun _ => ?_) (fun _ => ?_)
    | refine brK_any ?_ ?_
    | refine gK_dec (fun _ => ?_) (fun _ => ?_)
    | refine gK_any ?_ ?_
    | refine gqK_dec (fun _ => ?_) (fun _ => ?_)
    | refine ⟨by omega, ?_⟩
    | refine elemHave (by omega) (by assumption) ?_
    | refine elemMap (by omega) (by omega) (fun x hx => ?_)
    | refine drawK mo (by kernel_rfl) ?_
    | (exfalso; omega)
    | (refine finBq rfl ?_; simp [numbersE, *]; done)
    | (refine finBq rfl ?_; simp [numbersE, *] <;> omega)
    | (refine finBq rfl ?_; simp [numbersE, *]; intros; omega)
theorem named73 (e : Ex) (hn : e.name.size ≤ 1000000) : PCall Tryz.prog 119 [e.enc] (.b (namedE e)) := by
  refine pcall_of_vc tabOK Tryz.func119 (by kernel_rfl) rfl pureL pureI (n := 26) rfl (rs := [.tmp 2]) rfl ?_
  repeat' first
    | exact finB rfl
    | exact finI rfl
    | exact finP rfl
    | exact absurd rfl (by assumption)
    | simp only [go_sem]
    | (intro _)
    | refine brK_dec (fun _ => ?_) (fun _ => ?_)
    | refine brK_any ?_ ?_
    | refine gK_dec (fun _ => ?_) (fun _ => ?_)
    | refine gK_any ?_ ?_
    | refine gqK_dec (fun _ => ?_) (fun _ => ?_)
    | refine ⟨by omega, ?_⟩
    | refine elemHave (by omega) (by assumption) ?_
    | refine elemMap (by omega) (by omega) (fun x hx => ?_)
    | refine drawK mo (by kernel_rfl) ?_
    | (refine PCall.call (low_x _) ?_)
    | (refine PCall.call (high_x _) ?_)
    | (refine PCall.call (path_x _ hn) ?_)
    | (refine finBq rfl ?_; simp [namedE, *]; done)
theorem arm91x (s : ByteArray) : PCall Tryz.prog 145 [.s s] (.b (armE s)) := by
  refine pcall_of_vc tabOK Tryz.func145 (by kernel_rfl) rfl pureL pureI (n := 13) rfl (rs := [.tmp 2]) rfl ?_
  unfold armE
  repeat' first
    | exact finB rfl
    | exact finI rfl
    | exact finP rfl
    | exact absurd rfl (by assumption)
    | simp only [go_sem]
    | (intro _)
    | refine brK_dec (fun _ => ?_) (fun _ => ?_)
    | refine brK_split (fun hb_ => ?_) (fun hb_ => ?_)
    | refine gK_dec (fun _ => ?_) (fun _ => ?_)
    | refine gK_split (fun hb_ => ?_) (fun hb_ => ?_)
    | refine gqK_dec (fun _ => ?_) (fun _ => ?_)
    | refine ⟨by omega, ?_⟩
    | refine elemHave (by omega) (by assumption) ?_
    | refine elemMap (by omega) (by omega) (fun x hx => ?_)
    | refine drawK mo (by kernel_rfl) ?_
    | (refine PCall.call (high_x s) ?_; generalize highF s = q; cases q)
    | (exact finBq rfl (by simp [*]))
theorem pure_ii (a b : Int) : Go.Abs.Pure (.tup [.i a, .i b]) := .tup _ (pure_cons (.raw _) (pure_cons (.raw _) pure_nil))
theorem finII {T : TypeId → TI} {rs : List ResultVar} {s : List AV} {h : List Blk} {p : Int × Int} {a b : Int} (hr : resAV T s h rs = some [.i a, .i b]) (hp : p = (a, b)) : Go.Abs.Fin T rs (.tup [.i p.1, .i p.2]) s h := by
  subst hp
  exact ⟨_, hr, false, .refl _⟩
theorem subs75 (e : Ex) (h13 : e.kind = 13 → e.n = 0 ∨ e.n = 1) : PCall Tryz.prog 121 [e.enc] (.tup [.i (subsE e).1, .i (subsE e).2]) := by
  refine pcall_of_vc tabOK Tryz.func121 (by kernel_rfl) rfl (by first | exact pureL | exact pureI) (pure_ii _ _) (n := 35) rfl (rs := [.tmp 2, .tmp 3]) rfl ?_
  have hw : e.kind = 13 → IntKind.i64.wrap (6 + e.n) = 6 + e.n := fun h => by have := h13 h; rw [wrap_in _ (by omega) (by omega)]
  repeat' first
    | (exfalso; omega)
    | simp only [go_sem]
    | (intro _)
    | refine brK_dec (fun _ => ?_) (fun _ => ?_)
    | refine gK_dec (fun _ => ?_) (fun _ => ?_)
    | (refine drawK mo (by kernel_rfl) ?_)
    | (refine finII rfl ?_; simp [subsE, *]; done)
theorem arms74 (e : Ex) : PCall Tryz.prog 120 [e.enc] (.b (armsE e)) := by
  refine pcall_of_vc tabOK Tryz.func120 (by kernel_rfl) rfl pureL pureI (n := 47) rfl (rs := [.tmp 2]) rfl ?_
  repeat' first
    | exact finB rfl
    | exact finI rfl
    | exact finP rfl
    | exact absurd rfl (by assumption)
    | simp only [go_sem]
    | (intro _)
    | refine brK_dec (fun _ => ?_) (fun _ => ?_)
    | refine brK_any ?_ ?_
    | refine gK_dec (fun _ => ?_) (fun _ => ?_)
    | refine gK_any ?_ ?_
    | refine gqK_dec (fun _ => ?_) (fun _ => ?_)
    | refine ⟨by omega, ?_⟩
    | refine elemHave (by omega) (by assumption) ?_
    | refine elemMap (by omega) (by omega) (fun x hx => ?_)
    | refine drawK mo (by kernel_rfl) ?_
    | (exfalso; omega)
    | (refine PCall.call (arm91x x) ?_; generalize hpx : armE x = q; cases q)
    | (refine PCall.call (once_x e.arms) ?_; generalize ho : onceB e.arms = o; cases o)
    | (have hall : e.arms.all armE = false := List.all_eq_false.2 ⟨x, List.mem_of_getElem? hx, by simp [hpx]⟩; refine finBq rfl ?_; unfold armsE; rw [hall]; simp; done)
    | (have hall : e.arms.all armE = true := List.all_eq_true.2 (take_full hpi (by omega)); refine finBq rfl ?_; unfold armsE; rw [hall]; first | (simp [*]; done) | (simp [*]; omega))
    | exact loopFrH _ (by omega) ⟨i + 1, by omega, rfl, take_all hpi (by simpa using hx) hpx, rfl⟩ (.next rfl (by omega) .nil) rfl
    | (refine loop_frH [2, 3, 4, 5, 6, 7, 8, 9, 10, 11, 12, 13, 14, 15, 16, 17] (fun mm_ CC_ => ∃ (i : Nat), i ≤ e.arms.length ∧ mm_ = e.arms.length - i ∧ (∀ x ∈ e.arms.take i, armE x = true) ∧ CC_ = [(3, .raw (.int .i64 ((i : Nat) : Int)))]) (e.arms.length) _ ⟨0, by omega, by omega, by simp, rfl⟩ (.cons rfl .nil) ?_; rintro mm_ CC_ ji ⟨i, hi, rfl, hpi, rfl⟩)
theorem part47 (e : Ex) (hn : e.name.size ≤ 1000000) : PCall Tryz.prog 85 [e.enc] (.b (partE e)) := by
  refine pcall_of_vc tabOK Tryz.func85 (by kernel_rfl) rfl pureL pureI (n := 57) rfl (rs := [.tmp 2]) rfl ?_
  have h8 : e.kind = 8 → (subsE e).1 = 2 := fun h => by simp [subsE, h]
  have h13 : numbersE e = true → e.kind = 13 → e.n = 0 ∨ e.n = 1 := fun h h13 => by
    simp [numbersE, h13] at h
    exact h.2
  unfold partE
  repeat' first
    | (exfalso; omega)
    | simp only [go_sem]
    | (intro _)
    | refine brK_dec (fun _ => ?_) (fun _ => ?_)
    | refine gK_dec (fun _ => ?_) (fun _ => ?_)
    | (refine PCall.call (numbers72 e) ?_; generalize hnu : numbersE e = q at h13 ⊢; cases q)
    | (refine PCall.call (named73 e hn) ?_; generalize namedE e = q; cases q)
    | (refine PCall.call (arms74 e) ?_; generalize armsE e = q; cases q)
    | (refine PCall.call (subs75 e (h13 rfl)) ?_; generalize subsE e = R at h8 ⊢; obtain ⟨lo, hi⟩ := R; dsimp only at h8)
    | refine elemMap (by omega) (by omega) (fun x hx => ?_)
    | (refine PCall.call (const19 _) ?_)
    | (refine finBq rfl ?_; simp [*]; done)
    | (refine finBq rfl ?_; have hk : ¬ (1 ≤ e.kind ∧ e.kind ≤ 17) := (by omega); simp [hk]; done)
    | (refine finBq rfl ?_; have hk : 1 ≤ e.kind ∧ e.kind ≤ 17 := (by omega); rw [decide_eq_true hk]; first | (simp [*]; done) | (rw [head_at hx]; simp [*]; done) | (simp [*]; omega))
theorem size21 : ∀ (e : Ex), (parts e).length ≤ 100000 → PCall Tryz.prog 83 [e.enc] (.i ((parts e).length : Nat)) := by
  intro e
  induction e using Ex.ind with
  | _ e ih =>
  intro hl
  refine pcall_of_vc tabOK Tryz.func83 (by kernel_rfl) rfl pureL pureI (n := 21) rfl (rs := [.tmp 2]) rfl ?_
  have hp : (parts e).length = 1 + (partsL e.subs).length := by rw [parts_eq]; simp; omega
  simp only [go_sem]
  refine loop_frH [3, 4, 5, 6, 7, 8, 9, 10, 11, 12, 13, 14, 15, 16, 17, 18, 19] (fun m C => ∃ i : Nat, i ≤ e.subs.length ∧ m = e.subs.length - i ∧ C = [(4, .raw (.int .i64 (i : Nat))), (3, .raw (.int .i64 ((1 + (partsL (e.subs.take i)).length : Nat) : Int)))]) e.subs.length _ ⟨0, by omega, by omega, rfl⟩ (.cons rfl (.cons (by simp [partsL]) .nil)) ?_
  rintro m C j ⟨i, hi, rfl, rfl⟩
  simp only [go_sem]
  intro _
  refine brK_dec (fun hlt => ?_) (fun hge => ?_)
  · simp only [go_sem]
    refine elemMap (by omega) (by omega) (fun x hx => ?_)
    have hx' : e.subs[i]? = some x := by simpa using hx
    simp only [go_sem]
    refine PCall.call (ih x (List.mem_of_getElem? hx') (sub_small (List.mem_of_getElem? hx') hl)) ?_
    have h1 := parts_len hx'
    have h2 := partsL_le (l := e.subs) (k := i + 1)
    have hw : IntKind.i64.wrap (((1 + (partsL (e.subs.take i)).length : Nat) : Int) + ((parts x).length : Nat)) = ((1 + (partsL (e.subs.take (i + 1))).length : Nat) : Int) := by rw [wrap_in _ (by omega) (by omega)]; omega
    simp only [go_sem, hw]
    exact loopFrH _ (by omega) ⟨i + 1, by omega, rfl, rfl⟩ (.next rfl (by omega) (.cons rfl .nil)) rfl
  · have hie : i = e.subs.length := by omega
    subst hie
    rw [List.take_length, hp]
    simp only [go_sem]
    exact ⟨_, rfl, false, .refl _⟩
theorem depth23 : ∀ (e : Ex), (parts e).length ≤ 100000 → PCall Tryz.prog 84 [e.enc] (.i (depthE e : Nat)) := by
  intro e
  induction e using Ex.ind with
  | _ e ih =>
  intro hl
  refine pcall_of_vc tabOK Tryz.func84 (by kernel_rfl) rfl pureL pureI (n := 22) rfl (rs := [.tmp 2]) rfl ?_
  simp only [go_sem]
  refine loop_frH [3, 4, 5, 6, 7, 8, 9, 10, 11, 12, 13, 14, 15, 16, 17, 18, 19] (fun m C => ∃ i : Nat, i ≤ e.subs.length ∧ m = e.subs.length - i ∧ C = [(4, .raw (.int .i64 (i : Nat))), (3, .raw (.int .i64 (depthL (e.subs.take i) : Nat)))]) e.subs.length _ ⟨0, by omega, by omega, rfl⟩ (.cons rfl (.cons (by simp [depthL]) .nil)) ?_
  rintro m C j ⟨i, hi, rfl, rfl⟩
  simp only [go_sem]
  intro _
  refine brK_dec (fun hlt => ?_) (fun hge => ?_)
  · simp only [go_sem]
    refine elemMap (by omega) (by omega) (fun x hx => ?_)
    have hx' : e.subs[i]? = some x := by simpa using hx
    simp only [go_sem]
    refine PCall.call (ih x (List.mem_of_getElem? hx') (sub_small (List.mem_of_getElem? hx') hl)) ?_
    simp only [go_sem, max_step hx']
    exact loopFrH _ (by omega) ⟨i + 1, by omega, rfl, rfl⟩ (.next rfl (by omega) (.cons rfl .nil)) rfl
  · have hie : i = e.subs.length := by omega
    subst hie
    have hd := depth_le e
    rw [depthE_eq] at hd ⊢
    rw [List.take_length]
    simp only [go_sem]
    rw [wrap_in _ (by omega) (by omega)]
    exact ⟨_, rfl, false, .refl _⟩
theorem right17x (e : Ex) (ho : okE e) : PCall Tryz.prog 62 [e.enc] (.b (rightE e)) := by
  have hb : (parts e).length ≤ 100000 := by have := ho.1; omega
  refine pcall_of_vc tabOK Tryz.func62 (by kernel_rfl) rfl pureL pureI (n := 27) rfl (rs := [.tmp 2]) rfl ?_
  unfold rightE
  repeat' first
    | exact finB rfl
    | exact finI rfl
    | exact finP rfl
    | exact absurd rfl (by assumption)
    | simp only [go_sem]
    | (intro _)
    | refine brK_dec (fun _ => ?_) (fun _ => ?_)
    | refine brK_any ?_ ?_
    | refine gK_dec (fun _ => ?_) (fun _ => ?_)
    | refine gK_any ?_ ?_
    | refine gqK_dec (fun _ => ?_) (fun _ => ?_)
    | refine ⟨by omega, ?_⟩
    | refine elemHave (by omega) (by assumption) ?_
    | refine elemMap (by omega) (by omega) (fun x hx => ?_)
    | refine drawK mo (by kernel_rfl) ?_
    | (exfalso; omega)
    | (refine PCall.call (size21 e hb) ?_)
    | (refine PCall.call (depth23 e hb) ?_)
    | (refine PCall.call (parts_spec e (by omega)) ?_)
    | (have hoz := ho.2 x (List.mem_of_getElem? hx); refine PCall.call (part47 x (by omega)) ?_; generalize hpx : partE x = q; cases q)
    | (have hk : ¬ (parts e).length ≤ 60 := (by omega); refine finBq rfl ?_; simp [hk]; done)
    | (have hk : ¬ depthE e ≤ 12 := (by omega); refine finBq rfl ?_; simp [hk]; done)
    | (have hk1 : (parts e).length ≤ 60 := (by omega); have hk2 : depthE e ≤ 12 := (by omega); refine finBq rfl ?_; rw [decide_eq_true hk1, decide_eq_true hk2]; first | (rw [List.all_eq_true.2 (take_full hpi (by omega))]; rfl) | (rw [List.all_eq_false.2 ⟨x, List.mem_of_getElem? hx, by simp [hpx]⟩]; rfl))
    | exact loopFrH _ (by omega) ⟨i + 1, by omega, rfl, take_all hpi (by simpa using hx) hpx, rfl⟩ (.next rfl (by omega) .nil) rfl
    | (refine loop_frH [2, 4, 15, 16, 17, 18, 19, 20, 21, 22, 23, 24, 25, 26] (fun mm_ CC_ => ∃ (i : Nat), i ≤ (parts e).length ∧ mm_ = (parts e).length - i ∧ (∀ x ∈ (parts e).take i, partE x = true) ∧ CC_ = [(4, .raw (.int .i64 ((i : Nat) : Int)))]) ((parts e).length) _ ⟨0, by omega, by omega, by simp, rfl⟩ (.cons rfl .nil) ?_; rintro mm_ CC_ ji ⟨i, hi, rfl, hpi, rfl⟩)

theorem exprX (e : Ex) (ho : okE e) (hn : ∀ y ∈ parts e, I64 y.n) : PCall Tryz.prog 37 [e.enc] (.s (exprT e)) := by
  refine pcall_of_vc tabOK Tryz.func37 (by kernel_rfl) rfl pureL pureI (n := 8) rfl (rs := [.tmp 2]) rfl ?_
  unfold exprT
  simp only [go_sem]
  refine PCall.call (right17x e ho) ?_
  cases hr : rightE e
  · simp only [go_sem]
    exact finSq rfl rfl
  · simp only [go_sem]
    refine PCall.call (text15 e (right_ok hr ho hn)) ?_
    simp only [go_sem]
    exact finSq rfl rfl
theorem allVn {n : DNode} (h : okNode n) : (allV n).length ≤ 60 := by
  have h1 := h.1.1
  have h2 := h.2.1.1
  have h3 := h.2.2.1.1
  simp [allV]
  omega
theorem map_app (l m : List ByteArray) : l.map AV.s ++ m.map AV.s = (l ++ m).map AV.s := by simp
def okAB (i : Nat) (a b : List ByteArray) : Prop := a.length ≤ i ∧ b.length ≤ 12 * i ∧ ∀ s ∈ b, s.size ≤ 100
theorem okAB.zero : okAB 0 [] [] := ⟨by simp, by simp, by simp⟩
theorem okAB.next {l : List DEnum} {i : Nat} {a b : List ByteArray} {x : DEnum} (h : okAB i a b) (hl : okEnums l) (hx : l[((i : Nat) : Int).toNat]? = some x) : okAB (i + 1) (a ++ [x.Name]) (b ++ x.Ctors) := by
  have hm := hl.2 x (List.mem_of_getElem? hx)
  have h1 := hm.1
  refine ⟨by have := h.1; simp; omega, by have := h.2.1; simp; omega, fun s hs => ?_⟩
  rcases List.mem_append.1 hs with q | q
  · exact h.2.2 s q
  · exact hm.2.2 s q

theorem nm_next {l : List DDecl} {i : Nat} {a : List ByteArray} {x : DDecl} (h : a = (l.take i).map DDecl.Name ∧ a.length ≤ i) (hx : l[((i : Nat) : Int).toNat]? = some x) : a ++ [x.Name] = (l.take (i + 1)).map DDecl.Name ∧ (a ++ [x.Name]).length ≤ i + 1 :=
  ⟨by rw [take_mapS hx, h.1], by have := h.2; simp; omega⟩
theorem names83 (l : List DDecl) (hl : l.length ≤ 100000) : PCall Tryz.prog 29 [.lst 6 (l.map DDecl.enc) none] (.lst 1 ((l.map DDecl.Name).map AV.s) none) := by
  refine pcall_of_vc tabOK Tryz.func29 (by kernel_rfl) rfl pureL pureI (n := 21) rfl (rs := [.tmp 2]) rfl ?_
  repeat' first
    | exact finB rfl
    | exact finI rfl
    | exact finP rfl
    | exact absurd rfl (by assumption)
    | simp only [go_sem]
    | (intro _)
    | refine brK_dec (fun _ => ?_) (fun _ => ?_)
    | refine brK_any ?_ ?_
    | refine gK_dec (fun _ => ?_) (fun _ => ?_)
    | refine gK_any ?_ ?_
    | refine gqK_dec (fun _ => ?_) (fun _ => ?_)
    | refine ⟨by omega, ?_⟩
    | refine elemHave (by omega) (by assumption) ?_
    | refine elemMap (by omega) (by omega) (fun x hx => ?_)
    | refine drawK mo (by kernel_rfl) ?_
    | (simp only [map_snoc])
    | (refine ⟨by have := hpi.2; first | omega | (simp; omega), ?_⟩)
    | (rw [show l.map DDecl.Name = a by rw [hpi.1, List.take_of_length_le (by omega)]]; exact ⟨_, rfl, false, .tok _ _ _⟩)
    | exact loopFr _ (by omega) ⟨i + 1, a ++ [x.Name], _, by omega, rfl, nm_next hpi hx, rfl, (by first | rfl | (simp; done) | (simp; rfl))⟩ (.next rfl (by omega) (.cons (by first | rfl | (simp; done) | (simp; rfl)) .nil)) rfl
    | (refine loop_fr [3, 4, 6, 7, 8, 9, 10, 11, 12, 13, 14, 15, 16, 17, 18, 19] (fun mm_ CC_ hh_ => ∃ (i : Nat) (a : List ByteArray) (r_ : List Blk), i ≤ l.length ∧ mm_ = l.length - i ∧ ((a = (l.take i).map DDecl.Name ∧ a.length ≤ i)) ∧ CC_ = [(4, .raw (.int .i64 ((i : Nat) : Int))), (3, .lst 1 (a.map AV.s) (some 0))] ∧ hh_ = .tok 9 1 a.length :: r_) (l.length) _ ⟨0, [], _, by omega, by omega, ⟨by simp, by simp⟩, rfl, (by first | rfl | (simp; done) | (simp; rfl))⟩ (.cons (by first | rfl | (simp; done) | (simp; rfl)) (.cons (by first | rfl | (simp; done) | (simp; rfl)) .nil)) ?_; rintro mm_ CC_ ji hh_ ⟨i, a, ri, hi, rfl, hpi, rfl, rfl⟩)
abbrev progBc (p : DProg) : Blk := .cells 25 [.lst 2 (p.Enums.map DEnum.enc) none, .lst 5 (p.Nodes.map DNode.enc) none]
theorem rightTyX (l : List DEnum) (t : DTy) : PCall Tryz.prog 61 [.lst 2 (l.map DEnum.enc) none, t.enc] (.b (rightTyF l.length t)) := by
  refine pcall_of_vc tabOK Tryz.func61 (by kernel_rfl) rfl pureL pureI (n := 39) rfl (rs := [.tmp 4]) rfl ?_
  repeat' first
    | exact finB rfl
    | exact finI rfl
    | exact finP rfl
    | exact absurd rfl (by assumption)
    | simp only [go_sem]
    | (intro _)
    | refine brK_dec (fun _ => ?_) (fun _ => ?_)
    | refine brK_any ?_ ?_
    | refine gK_dec (fun _ => ?_) (fun _ => ?_)
    | refine gK_any ?_ ?_
    | refine gqK_dec (fun _ => ?_) (fun _ => ?_)
    | refine ⟨by omega, ?_⟩
    | refine elemHave (by omega) (by assumption) ?_
    | refine elemMap (by omega) (by omega) (fun x hx => ?_)
    | refine drawK mo (by kernel_rfl) ?_
    | (exfalso; omega)
    | (refine finBq rfl ?_; unfold rightTyF; exact (decide_eq_true (by omega)).symm)
    | (refine finBq rfl ?_; unfold rightTyF; exact (decide_eq_false (by omega)).symm)
    | (refine finBq rfl ?_; unfold rightTyF; exact decide_eq_decide.2 (by omega))
theorem armX (s : ByteArray) : PCall Tryz.prog 81 [.s s] (.b (armE s)) := by
  refine pcall_of_vc tabOK Tryz.func81 (by kernel_rfl) rfl pureL pureI (n := 13) rfl (rs := [.tmp 2]) rfl ?_
  unfold armE
  repeat' first
    | exact finB rfl
    | exact finI rfl
    | exact finP rfl
    | exact absurd rfl (by assumption)
    | simp only [go_sem]
    | (intro _)
    | refine brK_dec (fun _ => ?_) (fun _ => ?_)
    | refine brK_split (fun hb_ => ?_) (fun hb_ => ?_)
    | refine gK_dec (fun _ => ?_) (fun _ => ?_)
    | refine gK_split (fun hb_ => ?_) (fun hb_ => ?_)
    | refine gqK_dec (fun _ => ?_) (fun _ => ?_)
    | refine ⟨by omega, ?_⟩
    | refine elemHave (by omega) (by assumption) ?_
    | refine elemMap (by omega) (by omega) (fun x hx => ?_)
    | refine drawK mo (by kernel_rfl) ?_
    | (refine PCall.call (high_x s) ?_; generalize highF s = q; cases q)
    | (exact finBq rfl (by simp [*]))
theorem declX (l : List DEnum) (d : DDecl) : PCall Tryz.prog 54 [.lst 2 (l.map DEnum.enc) none, d.enc] (.b (declaredF l.length d)) := by
  refine pcall_of_vc tabOK Tryz.func54 (by kernel_rfl) rfl pureL pureI (n := 34) rfl (rs := [.tmp 4]) rfl ?_
  repeat' first
    | exact finB rfl
    | exact finI rfl
    | exact finP rfl
    | exact absurd rfl (by assumption)
    | simp only [go_sem]
    | (intro _)
    | refine brK_dec (fun _ => ?_) (fun _ => ?_)
    | refine brK_split (fun hb_ => ?_) (fun hb_ => ?_)
    | refine gK_dec (fun _ => ?_) (fun _ => ?_)
    | refine gK_split (fun hb_ => ?_) (fun hb_ => ?_)
    | refine gqK_dec (fun _ => ?_) (fun _ => ?_)
    | refine ⟨by omega, ?_⟩
    | refine elemHave (by omega) (by assumption) ?_
    | refine elemMap (by omega) (by omega) (fun x hx => ?_)
    | refine drawK mo (by kernel_rfl) ?_
    | (refine PCall.call (low_x d.Name) ?_; generalize h1 : lowF d.Name = q; cases q)
    | (refine PCall.call (low_x d.On) ?_; generalize h2 : lowF d.On = q; cases q)
    | (refine PCall.call (rightTyX l d.Ty) ?_; generalize h3 : rightTyF l.length d.Ty = q; cases q)
    | (refine PCall.call (armX d.Ctor) ?_; generalize h4 : armE d.Ctor = q; cases q)
    | (refine finBq rfl ?_; first | (simp only [declaredF, bareF, h1, h2, h3, h4]; simp [*]; done) | (simp only [declaredF, bareF, h1, h2, h3]; simp [*]; done) | (simp only [declaredF, bareF, h1, h3]; simp [*]; done) | (simp only [declaredF, bareF, h1]; simp [*]; done))
theorem eqX (q : DEq) (hq : okEq q) : PCall Tryz.prog 55 [q.enc] (.b (eqF q)) := by
  refine pcall_of_vc tabOK Tryz.func55 (by kernel_rfl) rfl pureL pureI (n := 39) rfl (rs := [.tmp 2]) rfl ?_
  repeat' first
    | exact finB rfl
    | exact finI rfl
    | exact finP rfl
    | exact absurd rfl (by assumption)
    | simp only [go_sem]
    | (intro _)
    | refine brK_dec (fun _ => ?_) (fun _ => ?_)
    | refine brK_split (fun hb_ => ?_) (fun hb_ => ?_)
    | refine gK_dec (fun _ => ?_) (fun _ => ?_)
    | refine gK_split (fun hb_ => ?_) (fun hb_ => ?_)
    | refine gqK_dec (fun _ => ?_) (fun _ => ?_)
    | refine ⟨by omega, ?_⟩
    | refine elemHave (by omega) (by assumption) ?_
    | refine elemMap (by omega) (by omega) (fun x hx => ?_)
    | refine drawK mo (by kernel_rfl) ?_
    | (refine PCall.call (low_x x) ?_; generalize hpx : lowF x = b; cases b)
    | (refine PCall.call (right17x _ hq.2.1) ?_; generalize hrx : rightE q.E = b; cases b)
    | (refine finBq rfl ?_; unfold eqF; rw [List.all_eq_false.2 ⟨x, List.mem_of_getElem? hx, by simp [hpx]⟩]; simp; done)
    | (have hall := List.all_eq_true.2 (take_full hpi (by omega)); refine finBq rfl ?_; unfold eqF; rw [hall]; (try rw [decide_eq_true (p := 0 < q.Names.length) (by omega)]); (try rw [decide_eq_false (p := 0 < q.Names.length) (by omega)]); (try rw [decide_eq_true (p := q.Names.length ≤ 1) (by omega)]); (try rw [decide_eq_false (p := q.Names.length ≤ 1) (by omega)]); simp [*]; done)
    | exact loopFrH _ (by omega) ⟨i + 1, by omega, rfl, take_all hpi (by simpa using hx) hpx, rfl⟩ (.next rfl (by omega) .nil) rfl
    | (refine loop_frH [2, 3, 4, 5, 6, 7, 8, 9, 10, 11, 12, 13, 14, 15, 16, 17] (fun mm_ CC_ => ∃ (i : Nat), i ≤ q.Names.length ∧ mm_ = q.Names.length - i ∧ (∀ s ∈ q.Names.take i, lowF s = true) ∧ CC_ = [(3, .raw (.int .i64 ((i : Nat) : Int)))]) (q.Names.length) _ ⟨0, by omega, by omega, by simp, rfl⟩ (.cons rfl .nil) ?_; rintro mm_ CC_ ji ⟨i, hi, rfl, hpi, rfl⟩)
theorem nodeX (l : List DEnum) (n : DNode) (hn : okNode n) : PCall Tryz.prog 27 [.lst 2 (l.map DEnum.enc) none, n.enc] (.b (nodeF l.length n)) := by
  refine pcall_of_vc tabOK Tryz.func27 (by kernel_rfl) rfl pureL pureI (n := 65) rfl (rs := [.tmp 4]) rfl ?_
  have hal := allVn hn
  have h1 := hn.1.1
  have h2 := hn.2.1.1
  have hw : IntKind.i64.wrap ((n.Ins.length : Int) + (n.Outs.length : Int)) = (n.Ins.length : Int) + (n.Outs.length : Int) := wrap_in _ (by omega) (by omega)
  repeat' first
    | exact finB rfl
    | exact finI rfl
    | exact finP rfl
    | exact absurd rfl (by assumption)
    | simp only [go_sem]
    | (intro _)
    | refine brK_dec (fun _ => ?_) (fun _ => ?_)
    | refine brK_split (fun hb_ => ?_) (fun hb_ => ?_)
    | refine gK_dec (fun _ => ?_) (fun _ => ?_)
    | refine gK_split (fun hb_ => ?_) (fun hb_ => ?_)
    | refine gqK_dec (fun _ => ?_) (fun _ => ?_)
    | refine ⟨by omega, ?_⟩
    | refine elemHave (by omega) (by assumption) ?_
    | refine elemMap (by omega) (by omega) (fun x hx => ?_)
    | refine drawK mo (by kernel_rfl) ?_
    | (refine PCall.call (all66 n (by omega)) ?_)
    | (refine PCall.call (declX l x) ?_; generalize hdx : declaredF l.length x = b; cases b)
    | (refine PCall.call (eqX x (hn.2.2.2.2.2 _ (List.mem_of_getElem? hx))) ?_; generalize hqx : eqF x = b; cases b)
    | (refine PCall.call (low_x n.Name) ?_; generalize hlx : lowF n.Name = b; cases b)
    | (refine finBq rfl ?_; rw [node_no hx hdx]; done)
    | (refine finBq rfl ?_; rw [node_no2 (bare_no hx (by omega) (by assumption))]; done)
    | (refine finBq rfl ?_; rw [node_no3 hx hqx]; done)
    | (refine finBq rfl ?_; rw [node_yes hpi.1 (by omega) (bare_yes hpi.2 (by omega)) hpj (by omega), hlx]; first | rfl | (simp; done) | (simp; omega))
    | exact loopFrH _ (by omega) ⟨i + 1, by omega, rfl, ⟨take_all hpi.1 (by simpa using hx) hdx, bare_next hpi.2 hx (fun hlt => by first | assumption | omega | exact Classical.not_not.1 (by assumption))⟩, rfl⟩ (.next rfl (by omega) .nil) rfl
    | (refine loop_frH [4, 6, 10, 11, 12, 13, 14, 15, 16, 17, 18, 19, 20, 21, 22, 23, 24, 25, 26, 27, 28, 29, 30, 31, 32, 33, 34, 35, 36, 37, 38, 39, 40, 41] (fun mm_ CC_ => ∃ (i : Nat), i ≤ (allV n).length ∧ mm_ = (allV n).length - i ∧ ((∀ d ∈ (allV n).take i, declaredF l.length d = true) ∧ (∀ d ∈ (n.Ins ++ n.Outs).take i, decide (d.On = ⟨#[]⟩) = true)) ∧ CC_ = [(6, .raw (.int .i64 ((i : Nat) : Int)))]) ((allV n).length) _ ⟨0, by omega, by omega, ⟨by simp, by simp⟩, rfl⟩ (.cons rfl .nil) ?_; rintro mm_ CC_ ji ⟨i, hi, rfl, hpi, rfl⟩)
    | exact loopFrH _ (by omega) ⟨j + 1, by omega, rfl, take_all hpj (by simpa using hx) hqx, rfl⟩ (.next rfl (by omega) .nil) rfl
    | (refine loop_frH [4, 7, 42, 43, 44, 45, 46, 47, 48, 49, 50, 51, 52, 53, 54, 55] (fun mm_ CC_ => ∃ (j : Nat), j ≤ n.Eqs.length ∧ mm_ = n.Eqs.length - j ∧ (∀ q ∈ n.Eqs.take j, eqF q = true) ∧ CC_ = [(7, .raw (.int .i64 ((j : Nat) : Int)))]) (n.Eqs.length) _ ⟨0, by omega, by omega, by simp, rfl⟩ (.cons rfl .nil) ?_; rintro mm_ CC_ jj ⟨j, hj, rfl, hpj, rfl⟩)
def okAX (l : List DEnum) (i : Nat) (a b : List ByteArray) : Prop := okAB i a b ∧ a = (l.take i).map DEnum.Name ∧ b = (l.take i).flatMap DEnum.Ctors ∧ ∀ e ∈ l.take i, e.Ctors.length ≤ 6
theorem okAX.zero {l : List DEnum} : okAX l 0 [] [] := ⟨.zero, by simp, by simp, by simp⟩
theorem okAX.next {l : List DEnum} {i : Nat} {a b : List ByteArray} {x : DEnum} (h : okAX l i a b) (hl : okEnums l) (hx : l[((i : Nat) : Int).toNat]? = some x) (h6 : x.Ctors.length ≤ 6) : okAX l (i + 1) (a ++ [x.Name]) (b ++ x.Ctors) :=
  ⟨h.1.next hl hx, by rw [take_mapS hx, h.2.1], by rw [flatMap_next _ (by simpa using hx), h.2.2.1], take_all h.2.2.2 (by simpa using hx) h6⟩
theorem en_ok {e : DEnum} (h : lowF e.Name = true) (h2 : 0 < e.Ctors.length) : (lowF e.Name && decide (0 < e.Ctors.length)) = true := by simp [h, h2]
theorem en_bad {e : DEnum} {b : Bool} (h : lowF e.Name = b) (h2 : ¬ 0 < e.Ctors.length) : (lowF e.Name && decide (0 < e.Ctors.length)) = false := by rw [decide_eq_false h2, Bool.and_false]
theorem en_bad0 {e : DEnum} (h : lowF e.Name = false) : (lowF e.Name && decide (0 < e.Ctors.length)) = false := by rw [h, Bool.false_and]
theorem enumsX (l : List DEnum) (hl : okEnums l) : PCall Tryz.prog 26 [.lst 2 (l.map DEnum.enc) none] (.i (enumsF l)) := by
  refine pcall_of_vc tabOK Tryz.func26 (by kernel_rfl) rfl pureL pureI (n := 83) rfl (rs := [.tmp 2]) rfl ?_
  have hl8 := hl.1
  repeat' first
    | exact finB rfl
    | exact finI rfl
    | exact finP rfl
    | exact absurd rfl (by assumption)
    | simp only [go_sem]
    | (intro _)
    | refine brK_dec (fun _ => ?_) (fun _ => ?_)
    | refine brK_split (fun hb_ => ?_) (fun hb_ => ?_)
    | refine gK_dec (fun _ => ?_) (fun _ => ?_)
    | refine gK_split (fun hb_ => ?_) (fun hb_ => ?_)
    | refine gqK_dec (fun _ => ?_) (fun _ => ?_)
    | refine ⟨by omega, ?_⟩
    | refine elemHave (by omega) (by assumption) ?_
    | refine elemMap (by omega) (by omega) (fun x hx => ?_)
    | refine drawK mo (by kernel_rfl) ?_
    | (simp only [map_snoc])
    | (simp only [map_app])
    | (refine ⟨by have h8 := hpi.1.1; have h9 := hpi.1.2.1; have h7 := (hl.2 _ (List.mem_of_getElem? hx)).1; first | omega | (simp; omega), ?_⟩)
    | ((fail_if_success (clear hax)); have hax : a = l.map DEnum.Name := (by rw [hpi.2.1, List.take_of_length_le (by omega)]; done); have hbx : b = l.flatMap DEnum.Ctors := (by rw [hpi.2.2.1, List.take_of_length_le (by omega)]; done); have hgx : greatE l = false := en_small (by omega) hpi.2.2.2 (by omega); subst hax hbx)
    | (refine PCall.call (low_x x.Name) ?_; generalize hlx : lowF x.Name = q; cases q)
    | (refine PCall.call (high_x x) ?_; generalize hhx : highF x = q; cases q)
    | (refine PCall.callW (once_x (l.map DEnum.Name)) ⟨.tok _ _ _, trivial⟩ ?_; generalize ho1 : onceB (l.map DEnum.Name) = q; cases q)
    | (refine PCall.callW (once_x (l.flatMap DEnum.Ctors)) ⟨.tok _ _ _, trivial⟩ ?_; generalize ho2 : onceB (l.flatMap DEnum.Ctors) = q; cases q)
    | (refine finIq rfl ?_; rw [en_many (en_great1 (by omega))]; done)
    | (refine finIq rfl ?_; rw [en_many (en_great2 hx (by omega))]; done)
    | (refine finIq rfl ?_; rw [en_arg1 hgx hx (en_bad0 hlx)]; done)
    | (refine finIq rfl ?_; rw [en_arg1 hgx hx (en_bad hlx (by omega))]; done)
    | (refine finIq rfl ?_; rw [en_arg2 hgx hx hhx]; done)
    | (refine finIq rfl ?_; rw [en_end hgx hpj (by omega) hpk (by omega)]; simp [*]; done)
    | exact loopFr _ (by omega) ⟨i + 1, a ++ [x.Name], b ++ x.Ctors, _, by omega, rfl, hpi.next hl hx (by omega), rfl, (by first | rfl | (simp; done) | (simp; rfl))⟩ (.next rfl (by omega) (.cons (by first | rfl | (simp; done) | (simp; rfl)) (.cons (by first | rfl | (simp; done) | (simp; rfl)) .nil))) rfl
    | (refine loop_fr [2, 3, 4, 5, 13, 14, 15, 16, 17, 18, 19, 20, 21, 22, 23, 24, 25, 26, 27, 28, 29, 30, 31, 32, 33, 34, 35, 36, 37, 38, 39, 40] (fun mm_ CC_ hh_ => ∃ (i : Nat) (a : List ByteArray) (b : List ByteArray) (r_ : List Blk), i ≤ l.length ∧ mm_ = l.length - i ∧ (okAX l i a b) ∧ CC_ = [(5, .raw (.int .i64 ((i : Nat) : Int))), (3, .lst 1 (a.map AV.s) (some 0)), (4, .lst 1 (b.map AV.s) (some 1))] ∧ hh_ = .tok 9 1 a.length :: .tok 9 1 b.length :: r_) (l.length) _ ⟨0, [], [], _, by omega, by omega, .zero, rfl, (by first | rfl | (simp; done) | (simp; rfl))⟩ (.cons (by first | rfl | (simp; done) | (simp; rfl)) (.cons (by first | rfl | (simp; done) | (simp; rfl)) (.cons (by first | rfl | (simp; done) | (simp; rfl)) .nil))) ?_; rintro mm_ CC_ ji hh_ ⟨i, a, b, ri, hi, rfl, hpi, rfl, rfl⟩)
    | exact loopFrH _ (by omega) ⟨j + 1, by omega, rfl, take_all hpj (by simpa using hx) (en_ok hlx (by omega)), rfl⟩ (.next rfl (by omega) .nil) rfl
    | (refine loop_frH [2, 6, 41, 42, 43, 44, 45, 46, 47, 48, 49, 50, 51, 52, 53, 54, 55, 56, 57, 58, 59, 60, 61, 62] (fun mm_ CC_ => ∃ (j : Nat), j ≤ l.length ∧ mm_ = l.length - j ∧ (∀ e ∈ l.take j, (lowF e.Name && decide (0 < e.Ctors.length)) = true) ∧ CC_ = [(6, .raw (.int .i64 ((j : Nat) : Int)))]) (l.length) _ ⟨0, by omega, by omega, by simp, rfl⟩ (.cons rfl .nil) ?_; rintro mm_ CC_ jj ⟨j, hj, rfl, hpj, rfl⟩)
    | exact loopFrH _ (by omega) ⟨k + 1, by omega, rfl, take_all hpk (by simpa using hx) hhx, rfl⟩ (.next rfl (by omega) .nil) rfl
    | (refine loop_frH [2, 7, 63, 64, 65, 66, 67, 68, 69, 70, 71, 72, 73, 74] (fun mm_ CC_ => ∃ (k : Nat), k ≤ (l.flatMap DEnum.Ctors).length ∧ mm_ = (l.flatMap DEnum.Ctors).length - k ∧ (∀ c ∈ (l.flatMap DEnum.Ctors).take k, highF c = true) ∧ CC_ = [(7, .raw (.int .i64 ((k : Nat) : Int)))]) ((l.flatMap DEnum.Ctors).length) _ ⟨0, by omega, by omega, by simp, rfl⟩ (.cons rfl .nil) ?_; rintro mm_ CC_ jk ⟨k, hk, rfl, hpk, rfl⟩)
end Go.Proofs.YtkjfhhioomnbfaaGreatDoor

namespace Go.Proofs.YtkjfhhioomnbfaaGreatDoor
open Go.Abs
set_option maxRecDepth 20000
set_option linter.unusedSimpArgs false
set_option linter.unusedVariables false
set_option maxHeartbeats 1000000
attribute [local irreducible] vc vcOps vcStep vcGuard prK hrK gK gsK brK callK ElemK SeqK BlockK ScopeK OpsK CallK LoopK LoopGo finPost ACall PCall PCallE BCall vqOps vqStep vqGuard qrK heK pcK gqK gqsK QOpsK qcallK DrawK
theorem okN_lenX {n : DNode} (h : okNode n) : (allV n).length ≤ 60 := by
  have h1 := h.1.1
  have h2 := h.2.1.1
  have h3 := h.2.2.1.1
  simp [allV]
  omega
def chkX (p : DProg) (i : Nat) (a : List ByteArray) (u v : Bool) : Prop := a = (p.Nodes.take i).map DNode.Name ∧ u = (p.Nodes.take i).all (nodeF p.Enums.length) ∧ v = (p.Nodes.take i).all onceN ∧ ∀ n ∈ p.Nodes.take i, greatF n = false
theorem chkX.zero {p : DProg} : chkX p 0 [] true true := ⟨by simp, by simp, by simp, by simp⟩
theorem chkX.next {p : DProg} {i : Nat} {a : List ByteArray} {u v u' v' : Bool} {n : DNode} (h : chkX p i a u v) (hx : p.Nodes[((i : Nat) : Int).toNat]? = some n) (hg : greatF n = false) (hu : u' = (u && nodeF p.Enums.length n)) (hv : v' = (v && onceN n)) : chkX p (i + 1) (a ++ [n.Name]) u' v' :=
  ⟨by rw [take_mapS hx, h.1], by rw [hu, all_nextZ _ hx, h.2.1], by rw [hv, all_nextZ _ hx, h.2.2.1], take_all h.2.2.2 (by simpa using hx) hg⟩
theorem chk_some {p : DProg} {i : Nat} {n : DNode} (hx : p.Nodes[((i : Nat) : Int).toNat]? = some n) (hg : greatF n = true) : p.Nodes.any greatF = true := List.any_eq_true.2 ⟨n, List.mem_of_getElem? hx, hg⟩
theorem chk_none {p : DProg} {i : Nat} {a : List ByteArray} {u v : Bool} (h : chkX p i a u v) (hi : p.Nodes.length ≤ i) : p.Nodes.any greatF = false ∧ p.Nodes.all (nodeF p.Enums.length) = u ∧ p.Nodes.all onceN = v ∧ p.Nodes.map DNode.Name = a := by
  obtain ⟨h1, h2, h3, h4⟩ := h
  have e : p.Nodes.take i = p.Nodes := List.take_of_length_le hi
  rw [e] at h1 h2 h3 h4
  refine ⟨?_, h2.symm, h3.symm, h1.symm⟩
  rw [List.any_eq_false]
  intro n hn
  rw [h4 n hn]; simp
theorem great_no {n : DNode} (h1 : ¬ ((n.Ins.length : Int) > 6)) (h2 : ¬ ((n.Outs.length : Int) > 6)) (h3 : ¬ ((n.Vars.length : Int) > 12)) (h4 : ¬ ((n.Eqs.length : Int) > 18)) : greatF n = false := by
  unfold greatF
  rw [decide_eq_false (by omega), decide_eq_false (by omega), decide_eq_false (by omega), decide_eq_false (by omega)]
  rfl
theorem great_yes {n : DNode} (h : (n.Ins.length : Int) > 6 ∨ (n.Outs.length : Int) > 6 ∨ (n.Vars.length : Int) > 12 ∨ (n.Eqs.length : Int) > 18) : greatF n = true := by
  unfold greatF
  simp only [Bool.or_eq_true, decide_eq_true_eq]
  omega
theorem onceX (x : DNode) : PCall Tryz.prog 28 [.lst 1 (((allV x).map DDecl.Name).map AV.s) none] (.b (onceN x)) := once_x _
noncomputable def checkG (p : DProg) (en : Int) : Int :=
  if ¬ en = 0 then en
  else if p.Nodes.length = 0 then 5
  else if (decide (p.Nodes.length > 6) || p.Nodes.any greatF) = true then 4
  else if p.Nodes.all (nodeF p.Enums.length) = true then (if (p.Nodes.all onceN && onceB (p.Nodes.map DNode.Name)) = true then 0 else 6) else 1
theorem checkG_eq (p : DProg) : checkF p = checkG p (enumsF p.Enums) := rfl
section
variable {p : DProg} {en : Int}
theorem cg_en (h : en ≠ 0) : checkG p en = en := by unfold checkG; rw [if_pos h]
theorem cg_none (h : ¬ en ≠ 0) (h1 : (p.Nodes.length : Int) = 0) : checkG p en = 5 := by unfold checkG; rw [if_neg h, if_pos (by omega)]
theorem cg_many1 (h : ¬ en ≠ 0) (h1 : ¬ (p.Nodes.length : Int) = 0) (h2 : (p.Nodes.length : Int) > 6) : checkG p en = 4 := by unfold checkG; rw [if_neg h, if_neg (by omega), decide_eq_true (by omega)]; simp
theorem cg_many2 (h : ¬ en ≠ 0) (h1 : ¬ (p.Nodes.length : Int) = 0) (h2 : p.Nodes.any greatF = true) : checkG p en = 4 := by unfold checkG; rw [if_neg h, if_neg (by omega), h2]; simp
theorem cg_arg (h : ¬ en ≠ 0) (h1 : ¬ (p.Nodes.length : Int) = 0) (h2 : ¬ (p.Nodes.length : Int) > 6) {u v : Bool} (f1 : p.Nodes.any greatF = false) (f2 : p.Nodes.all (nodeF p.Enums.length) = u) (f3 : p.Nodes.all onceN = v) (hu : (!u) = true) : checkG p en = 1 := by
  unfold checkG; rw [if_neg h, if_neg (by omega), decide_eq_false (by omega), f1, f2, f3]; simp at hu; simp [hu]
theorem cg_there1 (h : ¬ en ≠ 0) (h1 : ¬ (p.Nodes.length : Int) = 0) (h2 : ¬ (p.Nodes.length : Int) > 6) {u v : Bool} (f1 : p.Nodes.any greatF = false) (f2 : p.Nodes.all (nodeF p.Enums.length) = u) (f3 : p.Nodes.all onceN = v) (hu : ¬ (!u) = true) (hv : (!v) = true) : checkG p en = 6 := by
  unfold checkG; rw [if_neg h, if_neg (by omega), decide_eq_false (by omega), f1, f2, f3]; simp at hu hv; simp [hu, hv]
theorem cg_there2 (h : ¬ en ≠ 0) (h1 : ¬ (p.Nodes.length : Int) = 0) (h2 : ¬ (p.Nodes.length : Int) > 6) {u v : Bool} (f1 : p.Nodes.any greatF = false) (f2 : p.Nodes.all (nodeF p.Enums.length) = u) (f3 : p.Nodes.all onceN = v) (hu : ¬ (!u) = true) (hv : ¬ (!v) = true) (hw : onceB (p.Nodes.map DNode.Name) = false) : checkG p en = 6 := by
  unfold checkG; rw [if_neg h, if_neg (by omega), decide_eq_false (by omega), f1, f2, f3]; simp at hu hv; simp [hu, hv, hw]
theorem cg_ok (h : ¬ en ≠ 0) (h1 : ¬ (p.Nodes.length : Int) = 0) (h2 : ¬ (p.Nodes.length : Int) > 6) {u v : Bool} (f1 : p.Nodes.any greatF = false) (f2 : p.Nodes.all (nodeF p.Enums.length) = u) (f3 : p.Nodes.all onceN = v) (hu : ¬ (!u) = true) (hv : ¬ (!v) = true) (hw : onceB (p.Nodes.map DNode.Name) = true) : checkG p en = 0 := by
  unfold checkG; rw [if_neg h, if_neg (by omega), decide_eq_false (by omega), f1, f2, f3]; simp at hu hv; simp [hu, hv, hw]
end
theorem checkX (p : DProg) (hp : okProg p) : PCall Tryz.prog 10 [p.enc] (.i (checkF p)) := by
  refine pcall_of_vc tabOK Tryz.func10 (by kernel_rfl) rfl pureL pureI (n := 86) rfl (rs := [.tmp 2]) rfl ?_
  have hpn := hp.2.1
  rw [checkG_eq]
  repeat' first
    | exact finB rfl
    | exact finI rfl
    | exact finP rfl
    | exact absurd rfl (by assumption)
    | simp only [go_sem]
    | (intro _)
    | refine brK_dec (fun _ => ?_) (fun _ => ?_)
    | refine brK_split (fun hb_ => ?_) (fun hb_ => ?_)
    | refine gK_dec (fun _ => ?_) (fun _ => ?_)
    | refine gK_split (fun hb_ => ?_) (fun hb_ => ?_)
    | refine gqK_dec (fun _ => ?_) (fun _ => ?_)
    | refine ⟨by omega, ?_⟩
    | refine elemHave (by omega) (by assumption) ?_
    | refine elemMap (by omega) (by omega) (fun x hx => ?_)
    | refine drawK mo (by kernel_rfl) ?_
    | (refine PCall.call (enumsX _ hp.1) ?_; generalize enumsF p.Enums = en)
    | (simp only [map_snoc])
    | (refine PCall.call (all66 x (by have := okN_lenX (hp.2.2 _ (List.mem_of_getElem? hx)); omega)) ?_)
    | (refine PCall.call (names83 _ (by have := okN_lenX (hp.2.2 _ (List.mem_of_getElem? hx)); omega)) ?_)
    | (refine PCall.call (nodeX _ x (hp.2.2 _ (List.mem_of_getElem? hx))) ?_; generalize hnx : nodeF p.Enums.length x = b; cases b)
    | (refine PCall.call (onceX x) ?_; generalize hox : onceN x = b; cases b)
    | ((fail_if_success (clear hfin)); have hfin := chk_none hpi.2 (by omega); obtain ⟨f1, f2, f3, f4⟩ := hfin; have hfin := f1; subst f4)
    | (refine PCall.callW (once_x (p.Nodes.map DNode.Name)) ⟨.tok _ _ _, trivial⟩ ?_; generalize hwx : onceB (p.Nodes.map DNode.Name) = b; cases b)
    | (refine ⟨by first | omega | (simp; omega), ?_⟩)
    | (exact finIq rfl (cg_en (p := p) (en := en) (by assumption)).symm)
    | (exact finIq rfl (cg_none (p := p) (en := en) (by assumption) (by assumption)).symm)
    | (exact finIq rfl (cg_many1 (p := p) (en := en) (by assumption) (by assumption) (by assumption)).symm)
    | (have hgr := great_yes (n := x) (by omega); exact finIq rfl (cg_many2 (p := p) (en := en) (by assumption) (by assumption) (chk_some hx hgr)).symm)
    | (refine finIq rfl (cg_arg (p := p) (en := en) (by assumption) (by assumption) (by assumption) f1 f2 f3 ?_).symm; first | assumption | (simp [*]; done))
    | (refine finIq rfl (cg_there1 (p := p) (en := en) (by assumption) (by assumption) (by assumption) f1 f2 f3 ?_ ?_).symm <;> first | assumption | (simp [*]; done))
    | (refine finIq rfl (cg_there2 (p := p) (en := en) (by assumption) (by assumption) (by assumption) f1 f2 f3 ?_ ?_ hwx).symm <;> first | assumption | (simp [*]; done))
    | (refine finIq rfl (cg_ok (p := p) (en := en) (by assumption) (by assumption) (by assumption) f1 f2 f3 ?_ ?_ hwx).symm <;> first | assumption | (simp [*]; done))
    | exact loopFr _ (by omega) ⟨i + 1, a ++ [x.Name], (Bool.and u (nodeF p.Enums.length x)), (Bool.and v (onceN x)), _, by omega, rfl, ⟨by have := hpi.1 <;> simp <;> omega, hpi.2.next hx (great_no (by assumption) (by assumption) (by assumption) (by assumption)) rfl rfl⟩, rfl, (by first | rfl | (simp; done) | (simp; rfl) | (simp [*]))⟩ (.next rfl (by omega) (.cons (by first | rfl | (simp; done) | (simp; rfl) | (simp [*])) (.cons (by first | rfl | (simp; done) | (simp; rfl) | (simp [*])) (.cons (by first | rfl | (simp; done) | (simp; rfl) | (simp [*])) .nil)))) rfl
    | (refine loop_fr [2, 4, 5, 6, 7, 8, 24, 25, 26, 27, 28, 29, 30, 31, 32, 33, 34, 35, 36, 37, 38, 39, 40, 41, 42, 43, 44, 45, 46, 47, 48, 49, 50, 51, 52, 53, 54, 55, 56, 57, 58, 59, 60, 61, 62, 63, 64, 65, 66, 67, 68, 69, 70, 71, 72, 73, 74, 75, 76] (fun mm_ CC_ hh_ => ∃ (i : Nat) (a : List ByteArray) (u : Bool) (v : Bool) (r_ : List Blk), i ≤ p.Nodes.length ∧ mm_ = p.Nodes.length - i ∧ ((a.length ≤ i ∧ chkX p i a u v)) ∧ CC_ = [(7, .raw (.int .i64 ((i : Nat) : Int))), (4, .lst 1 (a.map AV.s) (some 1)), (5, .b u), (6, .b v)] ∧ hh_ = progBc p :: .tok 9 1 a.length :: r_) (p.Nodes.length) _ ⟨0, [], _, _, _, by omega, by omega, ⟨by simp, chkX.zero⟩, rfl, (by first | rfl | (simp; done) | (simp; rfl))⟩ (.cons (by first | rfl | (simp; done) | (simp; rfl)) (.cons (by first | rfl | (simp; done) | (simp; rfl)) (.cons (by first | rfl | (simp; done) | (simp; rfl)) (.cons (by first | rfl | (simp; done) | (simp; rfl)) .nil)))) ?_; rintro mm_ CC_ ji hh_ ⟨i, a, u, v, ri, hi, rfl, hpi, rfl, rfl⟩)
end Go.Proofs.YtkjfhhioomnbfaaGreatDoor

namespace Go.Proofs.YtkjfhhioomnbfaaGreatDoor
open Go.Abs
set_option maxRecDepth 20000
set_option linter.unusedSimpArgs false
set_option linter.unusedVariables false
set_option maxHeartbeats 1000000
attribute [local irreducible] vc vcOps vcStep vcGuard prK hrK gK gsK brK callK ElemK SeqK BlockK ScopeK OpsK CallK LoopK LoopGo finPost ACall PCall PCallE BCall vqOps vqStep vqGuard qrK heK pcK gqK gqsK QOpsK qcallK DrawK

theorem typeX (l : List DEnum) (t : DTy) (hl : okEnums l) : PCall Tryz.prog 34 [.lst 2 (l.map DEnum.enc) none, t.enc] (.s (typeT l t)) := by
  refine pcall_of_vc tabOK Tryz.func34 (by kernel_rfl) rfl (by first | exact pureL | exact pureI) (.raw _) (n := 36) rfl (rs := [.tmp 4]) rfl ?_
  have hbz := baseT_size hl t
  have hr := rightTyX l t
  unfold typeT
  cases hrt : rightTyF l.length t with
  | false =>
    rw [hrt] at hr
    rw [if_neg (by decide)]
    simp only [go_sem]
    refine PCall.call hr ?_
    simp only [go_sem]
    exact finSq rfl rfl
  | true =>
  rw [hrt] at hr
  rw [if_pos rfl]
  unfold rightTyF at hrt
  have hrt := of_decide_eq_true hrt
  have e1 : (⟨#[91]⟩ : ByteArray).size = 1 := rfl
  have e2 : (⟨#[93]⟩ : ByteArray).size = 1 := rfl
  have hb : baseT l t = if t.Kind = 2 then tBool else if t.Kind = 3 then enumN l t.Enum.toNat else tInt := rfl
  have fin : t.Len > 0 → ∀ b : ByteArray, ((b ++ ⟨#[91]⟩) ++ ⟨#[UInt8.ofNat (48 + t.Len).toNat]⟩) ++ ⟨#[93]⟩ = b ++ ((⟨#[91]⟩ ++ digB t.Len) ++ ⟨#[93]⟩) := fun h b => by
    rw [u8_48 t.Len (by omega) (by omega)]
    simp only [app_assoc]
  have hw : t.Len > 0 → IntKind.u8.wrap (IntKind.i64.wrap (48 + t.Len)) = 48 + t.Len := fun h => by rw [wrap_in _ (by omega) (by omega), u8_in _ (by omega) (by omega)]
  have hz : ∀ b : ByteArray, (b ++ ⟨#[91]⟩).size = b.size + 1 := fun b => by rw [ByteArray.size_append, e1]
  have hz2 : ∀ (b : ByteArray) (c : UInt8), ((b ++ ⟨#[91]⟩) ++ ⟨#[c]⟩).size = b.size + 2 := fun b c => by rw [ByteArray.size_append, hz]; rfl
  by_cases hlen : t.Len > 0
  · rw [if_pos hlen, ← fin hlen]
    have hw := hw hlen
    simp only [go_sem]
    refine PCall.call hr ?_
    simp only [go_sem]
    refine brK_dec (fun h2 => ?_) (fun h2 => ?_)
    · rw [if_pos h2] at hb
      rw [hb] at hbz ⊢
      repeat' first
        | (exfalso; omega)
        | simp only [go_sem, hw]
        | refine brK_dec (fun q => ?_) (fun q => ?_)
        | refine And.intro (by first | omega | (simp <;> omega)) ?_
        | exact finSq rfl rfl
    rw [if_neg h2] at hb
    simp only [go_sem]
    refine brK_dec (fun h3 => ?_) (fun h3 => ?_)
    · obtain ⟨e, he⟩ : ∃ e, l[t.Enum.toNat]? = some e := ⟨_, List.getElem?_eq_getElem (by omega)⟩
      have hen : enumN l t.Enum.toNat = e.Name := by unfold enumN; rw [he]
      rw [if_pos h3, hen] at hb
      rw [hb] at hbz ⊢
      simp only [go_sem]
      refine elemHave (x := e) (by omega) he ?_
      repeat' first
        | (exfalso; omega)
        | simp only [go_sem, hw]
        | refine brK_dec (fun q => ?_) (fun q => ?_)
        | refine And.intro (by first | omega | (simp <;> omega)) ?_
        | exact finSq rfl rfl
    · rw [if_neg h3] at hb
      rw [hb] at hbz ⊢
      repeat' first
        | (exfalso; omega)
        | simp only [go_sem, hw]
        | refine brK_dec (fun q => ?_) (fun q => ?_)
        | refine And.intro (by first | omega | (simp <;> omega)) ?_
        | exact finSq rfl rfl
  · rw [if_neg hlen]
    simp only [go_sem]
    refine PCall.call hr ?_
    simp only [go_sem]
    refine brK_dec (fun h2 => ?_) (fun h2 => ?_)
    · rw [if_pos h2] at hb
      rw [hb] at hbz ⊢
      repeat' first
        | (exfalso; omega)
        | simp only [go_sem]
        | refine brK_dec (fun q => ?_) (fun q => ?_)
        | exact finSq rfl rfl
    rw [if_neg h2] at hb
    simp only [go_sem]
    refine brK_dec (fun h3 => ?_) (fun h3 => ?_)
    · obtain ⟨e, he⟩ : ∃ e, l[t.Enum.toNat]? = some e := ⟨_, List.getElem?_eq_getElem (by omega)⟩
      have hen : enumN l t.Enum.toNat = e.Name := by unfold enumN; rw [he]
      rw [if_pos h3, hen] at hb
      rw [hb] at hbz ⊢
      simp only [go_sem]
      refine elemHave (x := e) (by omega) he ?_
      repeat' first
        | (exfalso; omega)
        | simp only [go_sem]
        | refine brK_dec (fun q => ?_) (fun q => ?_)
        | exact finSq rfl rfl
    · rw [if_neg h3] at hb
      rw [hb] at hbz ⊢
      repeat' first
        | (exfalso; omega)
        | simp only [go_sem]
        | refine brK_dec (fun q => ?_) (fun q => ?_)
        | exact finSq rfl rfl

theorem dclX (l : List DEnum) (d : DDecl) (hl : okEnums l) (hd : d.Name.size ≤ 100 ∧ d.On.size ≤ 100 ∧ d.Ctor.size ≤ 100) : PCall Tryz.prog 14 [.lst 2 (l.map DEnum.enc) none, d.enc] (.s (declT l d)) := by
  refine pcall_of_vc tabOK Tryz.func14 (by kernel_rfl) rfl (by first | exact pureL | exact pureI) (.raw _) (n := 26) rfl (rs := [.tmp 4]) rfl ?_
  have hty := typeX l d.Ty hl
  have htz := typeT_size hl d.Ty
  have hon := on7 d.On d.Ctor (by omega) (by omega)
  have hoz := onT_size d.On d.Ctor
  have e1 : (⟨#[58, 32]⟩ : ByteArray).size = 2 := rfl
  have e2 : (⟨#[32, 119, 104, 101, 110, 32]⟩ : ByteArray).size = 6 := rfl
  have z1 : (d.Name ++ ⟨#[58, 32]⟩).size = d.Name.size + 2 := by rw [ByteArray.size_append, e1]
  have z2 : ((d.Name ++ ⟨#[58, 32]⟩) ++ typeT l d.Ty).size = d.Name.size + 2 + (typeT l d.Ty).size := by rw [ByteArray.size_append, z1]
  have z3 : (((d.Name ++ ⟨#[58, 32]⟩) ++ typeT l d.Ty) ++ ⟨#[32, 119, 104, 101, 110, 32]⟩).size = d.Name.size + 8 + (typeT l d.Ty).size := by rw [ByteArray.size_append, z2, e2]; omega
  unfold declT
  by_cases h : d.On = tNone
  · rw [if_pos h]
    repeat' first
      | simp only [go_sem]
      | refine drawK moB (by kernel_rfl) ?_
      | (refine pcK_of hty ?_)
      | refine brK_dec (fun q => absurd h q) (fun _ => ?_)
      | refine And.intro (by first | omega | (simp <;> omega)) ?_
      | exact finSq rfl rfl
  · rw [if_neg h]
    repeat' first
      | simp only [go_sem]
      | refine drawK moB (by kernel_rfl) ?_
      | (refine pcK_of hty ?_)
      | (refine PCall.call hon ?_)
      | refine brK_dec (fun _ => ?_) (fun q => absurd h q)
      | refine And.intro (by first | omega | (simp <;> omega)) ?_
      | exact finSq rfl rfl
theorem joinB_step {l : List ByteArray} {i : Nat} {x : ByteArray} (sep : ByteArray) (h : l[i]? = some x) : joinB (l.take (i + 1)) sep = (if i = 0 then ⟨#[]⟩ else joinB (l.take i) sep ++ sep) ++ x := by
  have hi := (List.getElem?_eq_some_iff.1 h).1
  rw [List.take_add_one, h]
  show joinB (l.take i ++ [x]) sep = _
  rw [joinB_snoc]
  by_cases h0 : i = 0
  · subst h0; simp
  · rw [if_neg h0, if_neg]
    intro q
    have h2 : (l.take i).length = i := by rw [List.length_take]; omega
    rw [q] at h2
    exact h0 h2.symm
theorem joinB_take_le {l : List ByteArray} {sep : ByteArray} {k : Nat} (h : ∀ x ∈ l, x.size ≤ k) (i : Nat) (hi : i ≤ l.length) : (joinB (l.take i) sep).size ≤ i * (k + sep.size) := by
  have h1 := joinB_le (l := l.take i) (sep := sep) (k := k) (fun x hx => h x (List.mem_of_mem_take hx))
  rw [List.length_take, Nat.min_eq_left hi] at h1
  exact h1

theorem listX (l : List ByteArray) (hl : l.length ≤ 20) (hs : ∀ x ∈ l, x.size ≤ 100) : PCall Tryz.prog 25 [.lst 1 (l.map AV.s) none] (.s (namesT l)) := by
  refine pcall_of_vc tabOK Tryz.func25 (by kernel_rfl) rfl (by first | exact pureL | exact pureI) (.raw _) (n := 22) rfl (rs := [.tmp 2]) rfl ?_
  have ec : commaT.size = 2 := rfl
  simp only [go_sem]
  refine loop_frH [3, 4, 5, 6, 7, 8, 9, 10, 11, 12, 13, 14, 15, 16, 17, 18, 19, 20] (fun m C => ∃ i : Nat, i ≤ l.length ∧ m = l.length - i ∧ C = [(4, .raw (.int .i64 (i : Nat))), (3, .s (joinB (l.take i) commaT))]) l.length _ ⟨0, by omega, by omega, rfl⟩ (.cons rfl (.cons rfl .nil)) ?_
  rintro m C j ⟨i, hi, rfl, rfl⟩
  simp only [go_sem]
  intro _
  refine brK_dec (fun hlt => ?_) (fun hge => ?_)
  · obtain ⟨x, hx⟩ : ∃ x, l[i]? = some x := ⟨_, List.getElem?_eq_getElem (by omega)⟩
    have hxs := hs x (List.mem_of_getElem? hx)
    have hst := joinB_step commaT hx
    have hjz := joinB_take_le (sep := commaT) hs i hi
    rw [ec] at hjz
    have hz : (joinB (l.take i) commaT ++ commaT).size = (joinB (l.take i) commaT).size + 2 := by rw [ByteArray.size_append, ec]
    unfold commaT at hst hz ec hjz ⊢
    by_cases h0 : i = 0
    · subst h0
      rw [if_pos rfl] at hst
      have hn0 : joinB (l.take 0) ⟨#[44, 32]⟩ = ⟨#[]⟩ := rfl
      rw [hn0]
      repeat' first
        | simp only [go_sem]
        | refine elemHave (x := x) (by omega) (by simpa using hx) ?_
        | refine brK_dec (fun q => by exfalso; omega) (fun _ => ?_)
        | refine And.intro (by first | omega | (simp <;> omega)) ?_
        | exact loopFrH _ (by omega) ⟨1, by omega, rfl, rfl⟩ (.next rfl (by omega) (.cons (by rw [hst]; rfl) .nil)) rfl
    · rw [if_neg h0] at hst
      repeat' first
        | simp only [go_sem]
        | refine elemHave (x := x) (by omega) (by simpa using hx) ?_
        | refine brK_dec (fun _ => ?_) (fun q => by exfalso; omega)
        | refine And.intro (by first | omega | (simp <;> omega)) ?_
        | exact loopFrH _ (by omega) ⟨i + 1, by omega, rfl, rfl⟩ (.next rfl (by omega) (.cons (by rw [hst]; rfl) .nil)) rfl
  · rw [List.take_of_length_le (by omega)]
    simp only [go_sem]
    exact finSq rfl rfl

theorem dclsX (l : List DEnum) (ds : List DDecl) (hl : okEnums l) (hd : fewD ds) : PCall Tryz.prog 36 [.lst 2 (l.map DEnum.enc) none, .lst 6 (ds.map DDecl.enc) none] (.s (declsT l ds)) := by
  refine pcall_of_vc tabOK Tryz.func36 (by kernel_rfl) rfl (by first | exact pureL | exact pureI) (.raw _) (n := 26) rfl (rs := [.tmp 4]) rfl ?_
  have ec : semiT.size = 2 := rfl
  have hdl := hd.1
  have hsz : ∀ x ∈ ds.map (declT l), x.size ≤ 600 := fun x hx => by
    obtain ⟨d, hm, rfl⟩ := List.mem_map.1 hx
    exact declT_size hl (hd.2 d hm)
  simp only [go_sem]
  refine loop_frH [5, 6, 7, 8, 9, 10, 11, 12, 13, 14, 15, 16, 17, 18, 19, 20, 21, 22, 23, 24] (fun m C => ∃ i : Nat, i ≤ ds.length ∧ m = ds.length - i ∧ C = [(6, .raw (.int .i64 (i : Nat))), (5, .s (joinB ((ds.map (declT l)).take i) semiT))]) ds.length _ ⟨0, by omega, by omega, rfl⟩ (.cons rfl (.cons rfl .nil)) ?_
  rintro m C j ⟨i, hi, rfl, rfl⟩
  simp only [go_sem]
  intro _
  refine brK_dec (fun hlt => ?_) (fun hge => ?_)
  · obtain ⟨d, hx⟩ : ∃ x, ds[i]? = some x := ⟨_, List.getElem?_eq_getElem (by omega)⟩
    have hdm := hd.2 d (List.mem_of_getElem? hx)
    have hdc := dclX l d hl hdm
    have hxs := declT_size hl hdm
    have hx2 : (ds.map (declT l))[i]? = some (declT l d) := by rw [List.getElem?_map, hx]; rfl
    have hst := joinB_step semiT hx2
    have hjz := joinB_take_le (sep := semiT) hsz i (by rw [List.length_map]; exact hi)
    rw [ec] at hjz
    have hz : (joinB ((ds.map (declT l)).take i) semiT ++ semiT).size = (joinB ((ds.map (declT l)).take i) semiT).size + 2 := by rw [ByteArray.size_append, ec]
    unfold semiT at hst hz ec hjz ⊢
    by_cases h0 : i = 0
    · subst h0
      rw [if_pos rfl] at hst
      have hn0 : joinB ((ds.map (declT l)).take 0) ⟨#[59, 32]⟩ = ⟨#[]⟩ := rfl
      rw [hn0]
      repeat' first
        | simp only [go_sem]
        | refine elemHave (x := d) (by omega) (by simpa using hx) ?_
        | (refine PCall.call hdc ?_)
        | refine brK_dec (fun q => by exfalso; omega) (fun _ => ?_)
        | refine And.intro (by first | omega | (simp <;> omega)) ?_
        | exact loopFrH _ (by omega) ⟨1, by omega, rfl, rfl⟩ (.next rfl (by omega) (.cons (by rw [hst]; rfl) .nil)) rfl
    · rw [if_neg h0] at hst
      repeat' first
        | simp only [go_sem]
        | refine elemHave (x := d) (by omega) (by simpa using hx) ?_
        | (refine PCall.call hdc ?_)
        | refine brK_dec (fun _ => ?_) (fun q => by exfalso; omega)
        | refine And.intro (by first | omega | (simp <;> omega)) ?_
        | exact loopFrH _ (by omega) ⟨i + 1, by omega, rfl, rfl⟩ (.next rfl (by omega) (.cons (by rw [hst]; rfl) .nil)) rfl
  · rw [List.take_of_length_le (by rw [List.length_map]; omega)]
    simp only [go_sem]
    exact finSq rfl rfl

theorem line_bts (l : List ByteArray) : bts (lineT l) = (l.map bts).flatten ++ [10] := by
  unfold lineT
  rw [show bts (joinB l tNone ++ ⟨#[10]⟩) = bts (joinB l tNone) ++ bts (⟨#[10]⟩ : ByteArray) from app_list _ _]
  rw [show (tNone : ByteArray) = ⟨#[]⟩ from rfl, joinB_cat]
  rw [show bts (catB l) = (l.map bts).flatten from catB_list l]

theorem ndX (l : List DEnum) (n : DNode) (ho : NdOK l n) : PCall Tryz.prog 16 [.lst 2 (l.map DEnum.enc) none, n.enc] (.s (nodeT tNone l n)) := by
  refine pcall_of_vc tabOK Tryz.func16 (by kernel_rfl) rfl (by first | exact pureL | exact pureI) (.raw _) (n := 66) rfl (rs := [.tmp 4]) rfl ?_
  have c1 := dclsX l n.Ins ho.en ho.nd.1
  have c2 := dclsX l n.Outs ho.en ho.nd.2.1
  have c3 := dclsX l n.Vars ho.en ho.nd.2.2.1
  have z1 := declsT_size ho.en ho.nd.1
  have z2 := declsT_size ho.en ho.nd.2.1
  have z3 := declsT_size ho.en ho.nd.2.2.1
  have hnz := ho.nd.2.2.2.2.1
  have hhz := headN_size ho tNone
  have e0 : tNone.size = 0 := rfl
  have h1 : ((((((⟨#[110, 111, 100, 101, 32]⟩ ++ n.Name) ++ ⟨#[40]⟩) ++ declsT l n.Ins) ++ ⟨#[41, 32, 114, 101, 116, 117, 114, 110, 115, 32, 40]⟩) ++ declsT l n.Outs) ++ ⟨#[41, 10]⟩) = tNone ++ lineT (nodeL l n) := by
    apply bts_inj
    have e : bts (tNone ++ lineT (nodeL l n)) = bts tNone ++ bts (lineT (nodeL l n)) := app_list _ _
    rw [e, line_bts]
    simp only [bts, app_list, nodeL, List.map_cons, List.map_nil, List.flatten_cons, List.flatten_nil]
    simp [tNone]
  have h2 : ∀ S : ByteArray, ((S ++ ⟨#[118, 97, 114, 32]⟩) ++ declsT l n.Vars) ++ ⟨#[59, 10]⟩ = S ++ lineT (varsL l n) := fun S => by
    apply bts_inj
    have e : bts (S ++ lineT (varsL l n)) = bts S ++ bts (lineT (varsL l n)) := app_list _ _
    rw [e, line_bts]
    simp only [bts, app_list, varsL, List.map_cons, List.map_nil, List.flatten_cons, List.flatten_nil]
    simp
  have h3 : (⟨#[108, 101, 116, 10]⟩ : ByteArray) = lineT letL := rfl
  have h4 : (⟨#[116, 101, 108, 10]⟩ : ByteArray) = lineT telL := rfl
  have h5 : ∀ (S : ByteArray) (q : DEq), ((((S ++ ⟨#[32, 32]⟩) ++ namesT q.Names) ++ ⟨#[32, 61, 32]⟩) ++ exprT q.E) ++ ⟨#[59, 10]⟩ = S ++ lineT (eqL q) := fun S q => by
    apply bts_inj
    have e : bts (S ++ lineT (eqL q)) = bts S ++ bts (lineT (eqL q)) := app_list _ _
    rw [e, line_bts]
    simp only [bts, app_list, eqL, List.map_cons, List.map_nil, List.flatten_cons, List.flatten_nil]
    simp
  have hn7 := (lineT_size (nodeL_size ho)).1
  have hl7 : (nodeL l n).length = 7 := rfl
  have hn3 := (lineT_size (varsL_size ho)).1
  have hl3 : (varsL l n).length = 3 := rfl
  rw [hl7] at hn7
  rw [hl3] at hn3
  have hs1 : (tNone ++ lineT (nodeL l n)).size ≤ 100000 := by rw [ByteArray.size_append]; omega
  repeat' first
    | simp only [go_sem]
    | refine drawK moB (by kernel_rfl) ?_
    | (refine pcK_of c1 ?_)
    | (refine pcK_of c2 ?_)
    | (intro _)
    | refine And.intro (by first | omega | (simp <;> omega)) ?_
  rw [h1]
  refine brK_dec (fun hv => ?_) (fun hv => ?_)
  · have hvt : varsT l n = lineT (varsL l n) := if_pos (by omega)
    have hhead : headN tNone l n = ((tNone ++ lineT (nodeL l n)) ++ lineT (varsL l n)) ++ lineT letL := by unfold headN; rw [hvt]
    have hs2 : ((tNone ++ lineT (nodeL l n)) ++ lineT (varsL l n)).size ≤ 200000 := by rw [ByteArray.size_append]; omega
    generalize tNone ++ lineT (nodeL l n) = S0 at hs1 hs2 hhead ⊢
    repeat' first
      | simp only [go_sem]
      | (refine PCall.call c3 ?_)
      | refine And.intro (by first | omega | (simp <;> omega)) ?_
    rw [h2]
    repeat' first
      | simp only [go_sem]
      | refine And.intro (by first | omega | (simp <;> omega)) ?_
    rw [h3, ← hhead]
    refine loop_frH [5, 6, 37, 38, 39, 40, 41, 42, 43, 44, 45, 46, 47, 48, 49, 50, 51, 52, 53, 54, 55, 56, 57, 58, 59, 60, 61, 62, 63] (fun m C => ∃ i : Nat, i ≤ n.Eqs.length ∧ m = n.Eqs.length - i ∧ C = [(6, .raw (.int .i64 (i : Nat))), (5, .s (eqsT (headN tNone l n) (n.Eqs.take i)))]) n.Eqs.length _ ⟨0, by omega, by omega, rfl⟩ (.cons rfl (.cons rfl .nil)) ?_
    rintro m C j ⟨i, hi, rfl, rfl⟩
    simp only [go_sem]
    intro _
    refine brK_dec (fun hlt => ?_) (fun hge => ?_)
    · obtain ⟨q, hq⟩ : ∃ q, n.Eqs[i]? = some q := ⟨_, List.getElem?_eq_getElem (by omega)⟩
      have hqm := List.mem_of_getElem? hq
      have h0 := ho.nd.2.2.2.2.2 q hqm
      have hjn := listX q.Names h0.1 h0.2.2
      have hjz := namesT_size h0.1 h0.2.2
      have hex := exprX q.E h0.2.1 (ho.num q hqm)
      have hxz := exprT_size h0.2.1 (ho.num q hqm)
      have hts := eqsT_size ho (headN tNone l n) i hi
      have h30 := ho.nd.2.2.2.1
      have hnx := eqsT_next (s := headN tNone l n) hq
      rw [← h5] at hnx
      generalize eqsT (headN tNone l n) (n.Eqs.take i) = S at hts hnx
      repeat' first
        | simp only [go_sem]
        | refine drawK moB (by kernel_rfl) ?_
        | refine elemHave (x := q) (by omega) (by simpa using hq) ?_
        | (refine pcK_of hjn ?_)
        | (refine pcK_of hex ?_)
        | (refine pcK_ofW hex ⟨by repeat' first | exact trivial | exact .nil _ | exact .refl _ | exact .tok _ _ _ | refine ⟨?_, ?_⟩ | refine weak_ex ?_ ?_ | refine weak_subs rfl ?_ | simp only [flat_nil, flat_agg, flat_ex, flat_ex0, enc_cells, List.cons_append, List.nil_append, Ex.kind, Ex.n, Ex.name, Ex.op, Ex.arms, Ex.subs], trivial⟩ ?_)
        | refine And.intro (by first | omega | (simp <;> omega)) ?_
        | exact loopFrH _ (by omega) ⟨i + 1, by omega, rfl, rfl⟩ (.next rfl (by omega) (.cons (by rw [hnx]; rfl) .nil)) rfl
    · have hie : i = n.Eqs.length := by omega
      subst hie
      rw [List.take_length]
      have hez := eqsT_size ho (headN tNone l n) n.Eqs.length (Nat.le_refl _)
      have h30 := ho.nd.2.2.2.1
      rw [List.take_length] at hez
      simp only [go_sem]
      refine And.intro (by first | omega | (simp <;> omega)) ?_
      rw [h4, ← nodeT_eq]
      exact finSq rfl rfl

  · have hvt : varsT l n = tNone := if_neg (by omega)
    have hhead : headN tNone l n = (tNone ++ lineT (nodeL l n)) ++ lineT letL := by
      unfold headN
      rw [hvt, show (tNone ++ lineT (nodeL l n)) ++ tNone = tNone ++ lineT (nodeL l n) from app_nil _]
    have hs2 : (tNone ++ lineT (nodeL l n)).size ≤ 200000 := by omega
    generalize tNone ++ lineT (nodeL l n) = S0 at hs1 hs2 hhead ⊢
    repeat' first
      | simp only [go_sem]
      | refine And.intro (by first | omega | (simp <;> omega)) ?_
    rw [h3, ← hhead]
    refine loop_frH [5, 6, 37, 38, 39, 40, 41, 42, 43, 44, 45, 46, 47, 48, 49, 50, 51, 52, 53, 54, 55, 56, 57, 58, 59, 60, 61, 62, 63] (fun m C => ∃ i : Nat, i ≤ n.Eqs.length ∧ m = n.Eqs.length - i ∧ C = [(6, .raw (.int .i64 (i : Nat))), (5, .s (eqsT (headN tNone l n) (n.Eqs.take i)))]) n.Eqs.length _ ⟨0, by omega, by omega, rfl⟩ (.cons rfl (.cons rfl .nil)) ?_
    rintro m C j ⟨i, hi, rfl, rfl⟩
    simp only [go_sem]
    intro _
    refine brK_dec (fun hlt => ?_) (fun hge => ?_)
    · obtain ⟨q, hq⟩ : ∃ q, n.Eqs[i]? = some q := ⟨_, List.getElem?_eq_getElem (by omega)⟩
      have hqm := List.mem_of_getElem? hq
      have h0 := ho.nd.2.2.2.2.2 q hqm
      have hjn := listX q.Names h0.1 h0.2.2
      have hjz := namesT_size h0.1 h0.2.2
      have hex := exprX q.E h0.2.1 (ho.num q hqm)
      have hxz := exprT_size h0.2.1 (ho.num q hqm)
      have hts := eqsT_size ho (headN tNone l n) i hi
      have h30 := ho.nd.2.2.2.1
      have hnx := eqsT_next (s := headN tNone l n) hq
      rw [← h5] at hnx
      generalize eqsT (headN tNone l n) (n.Eqs.take i) = S at hts hnx
      repeat' first
        | simp only [go_sem]
        | refine drawK moB (by kernel_rfl) ?_
        | refine elemHave (x := q) (by omega) (by simpa using hq) ?_
        | (refine pcK_of hjn ?_)
        | (refine pcK_of hex ?_)
        | (refine pcK_ofW hex ⟨by repeat' first | exact trivial | exact .nil _ | exact .refl _ | exact .tok _ _ _ | refine ⟨?_, ?_⟩ | refine weak_ex ?_ ?_ | refine weak_subs rfl ?_ | simp only [flat_nil, flat_agg, flat_ex, flat_ex0, enc_cells, List.cons_append, List.nil_append, Ex.kind, Ex.n, Ex.name, Ex.op, Ex.arms, Ex.subs], trivial⟩ ?_)
        | refine And.intro (by first | omega | (simp <;> omega)) ?_
        | exact loopFrH _ (by omega) ⟨i + 1, by omega, rfl, rfl⟩ (.next rfl (by omega) (.cons (by rw [hnx]; rfl) .nil)) rfl
    · have hie : i = n.Eqs.length := by omega
      subst hie
      rw [List.take_length]
      have hez := eqsT_size ho (headN tNone l n) n.Eqs.length (Nat.le_refl _)
      have h30 := ho.nd.2.2.2.1
      rw [List.take_length] at hez
      simp only [go_sem]
      refine And.intro (by first | omega | (simp <;> omega)) ?_
      rw [h4, ← nodeT_eq]
      exact finSq rfl rfl

theorem app_tN (s : ByteArray) : tNone ++ s = s := nil_app s
theorem eqsT_app : ∀ (l : List DEq) (s t : ByteArray), eqsT (s ++ t) l = s ++ eqsT t l
  | [], _, _ => rfl
  | x :: l, s, t => by
    have h1 : eqsT (s ++ t) (x :: l) = eqsT ((s ++ t) ++ lineT (eqL x)) l := rfl
    have h2 : eqsT t (x :: l) = eqsT (t ++ lineT (eqL x)) l := rfl
    rw [h1, h2, app_assoc, eqsT_app l]
theorem nodeT_app (s : ByteArray) (l : List DEnum) (n : DNode) : nodeT s l n = s ++ nodeT tNone l n := by
  rw [nodeT_eq, nodeT_eq]
  have h : headN s l n = s ++ headN tNone l n := by
    unfold headN
    rw [app_tN]
    simp only [app_assoc]
  rw [h, eqsT_app, app_assoc]

theorem textX (p : DProg) (ho : PrOK p) : PCall Tryz.prog 9 [p.enc] (.s (textT p)) := by
  refine pcall_of_vc tabOK Tryz.func9 (by kernel_rfl) rfl (by first | exact pureL | exact pureI) (.raw _) (n := 53) rfl (rs := [.tmp 2]) rfl ?_
  have hck := checkX p ho.prog
  have hp8 := ho.prog.1.1
  have hp10 := ho.prog.2.1
  unfold textT
  by_cases hc : checkF p = 0
  case neg =>
    rw [if_neg hc]
    simp only [go_sem]
    refine PCall.call hck ?_
    simp only [go_sem]
    refine brK_dec (fun _ => ?_) (fun q => by exfalso; exact q hc)
    simp only [go_sem]
    exact finSq rfl rfl
  rw [if_pos hc]
  rw [hc] at hck
  simp only [go_sem]
  refine PCall.call hck ?_
  simp only [go_sem]
  refine loop_frH [3, 4, 9, 10, 11, 12, 13, 14, 15, 16, 17, 18, 19, 20, 21, 22, 23, 24, 25, 26, 27, 28, 29, 30, 31, 32, 33, 34] (fun m C => ∃ i : Nat, i ≤ p.Enums.length ∧ m = p.Enums.length - i ∧ C = [(4, .raw (.int .i64 (i : Nat))), (3, .s (enumsT (p.Enums.take i)))]) p.Enums.length _ ⟨0, by omega, by omega, rfl⟩ (.cons rfl (.cons rfl .nil)) ?_
  rintro m C j ⟨i, hi, rfl, rfl⟩
  simp only [go_sem]
  intro _
  refine brK_dec (fun hlt => ?_) (fun hge => ?_)
  · obtain ⟨e, he⟩ : ∃ e, p.Enums[i]? = some e := ⟨_, List.getElem?_eq_getElem (by omega)⟩
    have hem := List.mem_of_getElem? he
    have h0 := ho.prog.1.2 e hem
    have hjn := listX e.Ctors (by have := h0.1; omega) h0.2.2
    have hjz := namesT_size (l := e.Ctors) (by have := h0.1; omega) h0.2.2
    have hnm := h0.2.1
    have hts := enumsT_size ho i hi
    have hnx := enumsT_next he
    have h5 : ∀ S : ByteArray, ((((S ++ ⟨#[101, 110, 117, 109, 32]⟩) ++ e.Name) ++ ⟨#[32, 123, 32]⟩) ++ namesT e.Ctors) ++ ⟨#[32, 125, 59, 10]⟩ = S ++ lineT (enumL e) := fun S => by
      apply bts_inj
      have e : bts (S ++ lineT (enumL e)) = bts S ++ bts (lineT (enumL e)) := app_list _ _
      rw [e, line_bts]
      simp only [bts, app_list, enumL, List.map_cons, List.map_nil, List.flatten_cons, List.flatten_nil]
      simp
    rw [← h5] at hnx
    generalize enumsT (p.Enums.take i) = S at hts hnx ⊢
    repeat' first
      | simp only [go_sem]
      | refine drawK moB (by kernel_rfl) ?_
      | refine elemHave (x := e) (by omega) (by simpa using he) ?_
      | (refine pcK_of hjn ?_)
      | refine And.intro (by first | omega | (simp <;> omega)) ?_
      | exact loopFrH _ (by omega) ⟨i + 1, by omega, rfl, rfl⟩ (.next rfl (by omega) (.cons (by rw [hnx]; rfl) .nil)) rfl
  · have hie : i = p.Enums.length := by omega
    subst hie
    rw [List.take_length]
    have hts := enumsT_size ho p.Enums.length (Nat.le_refl _)
    rw [List.take_length] at hts
    simp only [go_sem]
    refine loop_frH [3, 5, 35, 36, 37, 38, 39, 40, 41, 42, 43, 44, 45, 46, 47, 48, 49, 50, 51] (fun m C => ∃ i : Nat, i ≤ p.Nodes.length ∧ m = p.Nodes.length - i ∧ C = [(5, .raw (.int .i64 (i : Nat))), (3, .s (nodesT (enumsT p.Enums) p.Enums (p.Nodes.take i)))]) p.Nodes.length _ ⟨0, by omega, by omega, rfl⟩ (.cons rfl (.cons rfl .nil)) ?_
    rintro m C j2 ⟨i, hi2, rfl, rfl⟩
    simp only [go_sem]
    intro _
    refine brK_dec (fun hlt => ?_) (fun hge => ?_)
    · obtain ⟨n, hn⟩ : ∃ n, p.Nodes[i]? = some n := ⟨_, List.getElem?_eq_getElem (by omega)⟩
      have hnm := List.mem_of_getElem? hn
      have hns := nodesT_size ho (enumsT p.Enums) i hi2
      have hnd := ndX p.Enums n (ho.node hnm)
      have hnz := nodeT_size (ho.node hnm) tNone
      have e0 : tNone.size = 0 := rfl
      have hnx := nodesT_next (s := enumsT p.Enums) (l := p.Enums) hn
      rw [nodeT_app] at hnx
      generalize nodesT (enumsT p.Enums) p.Enums (p.Nodes.take i) = S at hns hnx ⊢
      repeat' first
        | simp only [go_sem]
        | refine drawK moB (by kernel_rfl) ?_
        | refine elemHave (x := n) (by omega) (by simpa using hn) ?_
        | (refine pcK_of hnd ?_)
        | refine And.intro (by first | omega | (simp <;> omega)) ?_
        | exact loopFrH _ (by omega) ⟨i + 1, by omega, rfl, rfl⟩ (.next rfl (by omega) (.cons (by rw [hnx]; rfl) .nil)) rfl
    · rw [List.take_of_length_le (by omega)]
      simp only [go_sem]
      exact finSq rfl rfl
abbrev pA : DDecl := ⟨⟨#[97]⟩, ⟨1, 0, 0⟩, ⟨#[]⟩, ⟨#[]⟩⟩
abbrev pB : DDecl := ⟨⟨#[98]⟩, ⟨1, 0, 0⟩, ⟨#[]⟩, ⟨#[]⟩⟩
abbrev pE : Ex := .mk 3 0 ⟨#[97]⟩ 0 [] []
abbrev pQ : DEq := ⟨[⟨#[98]⟩], pE⟩
abbrev pN : DNode := ⟨⟨#[102]⟩, [pA], [pB], [], [pQ]⟩
abbrev pP : DProg := ⟨[], [pN]⟩
theorem pE_parts : parts pE = [pE] := by simp [parts, partsL]
theorem pE_ok : okE pE := by
  constructor
  · rw [pE_parts]; decide
  · rw [pE_parts]; intro x hx
    rw [List.mem_singleton.1 hx]
    exact ⟨by decide, fun a ha => by simp [Ex.arms] at ha⟩
theorem pP_ok : okProg pP := by
  refine ⟨⟨by decide, by simp⟩, by decide, fun n hn => ?_⟩
  rw [List.mem_singleton.1 hn]
  refine ⟨⟨by decide, fun d hd => ?_⟩, ⟨by decide, fun d hd => ?_⟩, ⟨by decide, by simp⟩, by decide, by decide, fun q hq => ?_⟩
  · rw [List.mem_singleton.1 hd]; decide
  · rw [List.mem_singleton.1 hd]; decide
  · rw [List.mem_singleton.1 hq]
    exact ⟨by decide, pE_ok, fun s hs => by rw [List.mem_singleton.1 hs]; decide⟩
theorem lowP98 : lowF ⟨#[98]⟩ = true := by decide +kernel
theorem lowP97 : lowF ⟨#[97]⟩ = true := by decide +kernel
theorem lowP102 : lowF ⟨#[102]⟩ = true := by decide +kernel
theorem pE_right : rightE pE = true := by
  unfold rightE
  rw [pE_parts]
  simp [partE, numbersE, namedE, armsE, subsE, Ex.kind, Ex.op, Ex.n, Ex.name, Ex.arms, Ex.subs, lowP97, depthE, depthL]
theorem pP_check : checkF pP = 0 := by
  have h1 : enumsF [] = 0 := by
    unfold enumsF greatE rightEn
    simp [onceB_yes]
  have h2 : nodeF 0 pN = true := by
    unfold nodeF bareN eqF declaredF bareF rightTyF
    simp [allV, lowP97, lowP98, lowP102, pE_right]
  have h3 : onceN pN = true := by
    unfold onceN
    exact onceB_yes (by simp [allV])
  have h4 : onceB [(⟨#[102]⟩ : ByteArray)] = true := onceB_yes (by simp)
  have h5 : greatF pN = false := by decide +kernel
  unfold checkF
  simp [h1, h2, h3, h4, h5]
theorem weak_tkP {sz : Nat} {es ds : List AV} {k : Nat} (h : es = ds) : Weak (.lst sz es (some k)) (.lst sz ds none) := h ▸ .tok _ _ _
theorem weakP (a b c d e : Nat) : Weak (.agg [.raw (.slice none 0 0), .lst 5 [.agg [.s ⟨#[102]⟩, .lst 6 [.agg [.s ⟨#[97]⟩, .i 1, .i 0, .i 0, .s ⟨#[]⟩, .s ⟨#[]⟩]] (some a), .lst 6 [.agg [.s ⟨#[98]⟩, .i 1, .i 0, .i 0, .s ⟨#[]⟩, .s ⟨#[]⟩]] (some b), .raw (.slice none 0 0), .lst 7 [.agg [.lst 1 [.s ⟨#[98]⟩] (some c), .i 3, .i 0, .s ⟨#[97]⟩, .i 0, .raw (.slice none 0 0), .raw (.slice none 0 0)]] (some d)]] (some e)]) pP.enc := by
  rw [DProg.enc_eq]
  refine Weak.aggs ⟨.nil _, ?_, trivial⟩
  refine Weak.lsts (by simp) (by intro e he; obtain ⟨x, _, rfl⟩ := List.mem_map.1 he; rw [DNode.enc_cells]; rfl) ?_
  show WeakL _ (flat [pN.enc])
  rw [DNode.enc_eq]
  refine ⟨.refl _, weak_tkP (by simp [DDecl.enc_eq]), weak_tkP (by simp [DDecl.enc_eq]), .nil _, ?_, trivial⟩
  refine Weak.lsts (by simp) (by intro e he; obtain ⟨x, _, rfl⟩ := List.mem_map.1 he; rw [DEq.enc_cells]; rfl) ?_
  show WeakL _ (flat [pQ.enc])
  rw [DEq.enc_eq]
  exact ⟨weak_tkP (by simp), .refl _, .refl _, .refl _, .refl _, .nil _, .nil _, trivial⟩
theorem pE_num : ∀ y ∈ parts pE, I64 y.n := by
  rw [pE_parts]
  intro x hx
  rw [List.mem_singleton.1 hx]
  exact ⟨by decide, by decide⟩
theorem pP_ok2 : PrOK pP := by
  refine ⟨pP_ok, fun n hn x hx => ?_⟩
  rw [List.mem_singleton.1 hn] at hx
  rw [List.mem_singleton.1 hx]
  exact pE_num
theorem pE_text : exprT pE = ⟨#[97]⟩ := by
  unfold exprT
  rw [if_pos pE_right]
  simp only [showT, showL]
  decide +kernel
theorem pQ_line : eqL pQ = [⟨#[32, 32]⟩, ⟨#[98]⟩, ⟨#[32, 61, 32]⟩, ⟨#[97]⟩, ⟨#[59]⟩] := by
  unfold eqL
  rw [pE_text]
  rfl
def pText : ByteArray := ⟨#[110, 111, 100, 101, 32, 102, 40, 97, 58, 32, 105, 110, 116, 41, 32, 114, 101, 116, 117, 114, 110, 115, 32, 40, 98, 58, 32, 105, 110, 116, 41, 10, 108, 101, 116, 10, 32, 32, 98, 32, 61, 32, 97, 59, 10, 116, 101, 108, 10]⟩
theorem pP_text : textT pP = pText := by
  unfold textT
  rw [if_pos pP_check]
  have h : nodesT (enumsT pP.Enums) pP.Enums pP.Nodes = (headN tNone [] pN ++ lineT (eqL pQ)) ++ lineT telL := rfl
  rw [h, pQ_line]
  exact (by kernel_rfl : (headN tNone [] pN ++ lineT [⟨#[32, 32]⟩, ⟨#[98]⟩, ⟨#[32, 61, 32]⟩, ⟨#[97]⟩, ⟨#[59]⟩]) ++ lineT telL = pText)

theorem live13 : PCall Tryz.prog 7 [] (.b true) := by
  have hs := textP pP pP_ok2
  rw [pP_text] at hs
  refine pcall_of_vc tabOK Tryz.func7 (by kernel_rfl) rfl pureL pureI (n := 18) rfl (rs := [.tmp 0]) rfl ?_
  simp only [go_sem]
  refine PCall.callW hs ⟨weakP _ _ _ _ _, trivial⟩ ?_
  simp only [go_sem]
  exact finBq rfl (by decide)
theorem pr_ok {p : DProg} (h : p.ok) (hs : okProg p) : PrOK p := ⟨hs, fun n hn x hx y hy => parts_num ((h.2 n hn).2.2.2.2 x hx).2 y hy⟩

theorem law_texts13 (p : DProg) (hr : p.ok) : PCall Tryz.prog 3 [p.enc] (.b true) := by
  refine pcall_of_vc tabOK Tryz.func3 (by kernel_rfl) rfl (by first | exact pureL | exact pureI) (.raw _) (n := 15) rfl (rs := [.tmp 2]) rfl ?_
  simp only [go_sem]
  refine PCallE.call (small_p p) ?_
  rintro _ ⟨b, rfl, hb⟩
  cases b with
  | false =>
    simp only [go_sem]
    refine PCall.call live13 ?_
    simp only [go_sem]
    exact finBq rfl rfl
  | true =>
  have ho := pr_ok hr (hb rfl)
  have h1 := textP p ho
  have h2 := textX p ho
  repeat' first
    | simp only [go_sem]
    | refine drawK moB (by kernel_rfl) ?_
    | (refine pcK_of h1 ?_)
    | (refine pcK_of h2 ?_)
    | (refine pcK_of live13 ?_)
    | refine gK_dec (fun _ => ?_) (fun _ => ?_)
    | exact finBq rfl rfl
    | (exfalso; contradiction)

theorem law_nodes13 (p : DProg) (hr : p.ok) : PCall Tryz.prog 5 [p.enc] (.b true) := by
  refine pcall_of_vc tabOK Tryz.func5 (by kernel_rfl) rfl (by first | exact pureL | exact pureI) (.raw _) (n := 62) rfl (rs := [.tmp 2]) rfl ?_
  simp only [go_sem]
  refine PCallE.call (small_p p) ?_
  rintro _ ⟨b, rfl, hb⟩
  cases b with
  | false =>
    simp only [go_sem]
    refine PCall.call live13 ?_
    simp only [go_sem]
    exact finBq rfl rfl
  | true =>
  have ho := pr_ok hr (hb rfl)
  have hp10 := ho.prog.2.1
  simp only [go_sem]
  refine loop_frH [2, 3, 4, 5, 10, 11, 12, 13, 14, 15, 16, 17, 18, 19, 20, 21, 22, 23, 24, 25, 26, 27, 28, 29, 30, 31, 32, 33, 34, 35, 36, 37, 38, 39, 40, 41, 42, 43, 44, 45, 46, 47, 48, 49, 50, 51, 52, 53, 54, 55, 56, 57, 58, 59, 60] (fun m C => ∃ i : Nat, i ≤ p.Nodes.length ∧ m = p.Nodes.length - i ∧ C = [(3, .raw (.int .i64 (i : Nat)))]) p.Nodes.length _ ⟨0, by omega, by omega, rfl⟩ (.cons rfl .nil) ?_
  rintro m C j ⟨i, hi, rfl, rfl⟩
  simp only [go_sem]
  intro _
  refine brK_dec (fun hlt => ?_) (fun hge => ?_)
  · obtain ⟨n, hn⟩ : ∃ n, p.Nodes[i]? = some n := ⟨_, List.getElem?_eq_getElem (by omega)⟩
    have hnm := List.mem_of_getElem? hn
    have hno := ho.node hnm
    have hal : (allV n).length ≤ 60 := okN_len (ho.prog.2.2 n hnm)
    have hdm : ∀ d ∈ allV n, d.Name.size ≤ 100 ∧ d.On.size ≤ 100 ∧ d.Ctor.size ≤ 100 := fun d hd => by
      have h := ho.prog.2.2 n hnm
      simp [allV] at hd
      rcases hd with hd | hd | hd
      · exact h.1.2 d hd
      · exact h.2.1.2 d hd
      · exact h.2.2.1.2 d hd
    simp only [go_sem]
    refine elemHave (x := n) (by omega) (by simpa using hn) ?_
    simp only [go_sem]
    refine PCall.call (all66 n (by omega)) ?_
    simp only [go_sem]
    refine loop_frH [2, 5, 23, 24, 25, 26, 27, 28, 29, 30, 31, 32, 33, 34, 35, 36, 37, 38, 39, 40, 41, 42, 43] (fun m C => ∃ k : Nat, k ≤ (allV n).length ∧ m = (allV n).length - k ∧ C = [(5, .raw (.int .i64 (k : Nat)))]) (allV n).length _ ⟨0, by omega, by omega, rfl⟩ (.cons rfl .nil) ?_
    rintro m C j2 ⟨k, hk, rfl, rfl⟩
    simp only [go_sem]
    intro _
    refine brK_dec (fun hlt2 => ?_) (fun hge2 => ?_)
    · obtain ⟨d, hd⟩ : ∃ d, (allV n)[k]? = some d := ⟨_, List.getElem?_eq_getElem (by omega)⟩
      have hds := hdm d (List.mem_of_getElem? hd)
      have h1 := declP p.Enums d ho.prog.1 hds
      have h2 := dclX p.Enums d ho.prog.1 hds
      repeat' first
        | simp only [go_sem]
        | refine drawK moB (by kernel_rfl) ?_
        | refine elemHave (x := d) (by omega) (by simpa using hd) ?_
        | (refine pcK_of h1 ?_)
        | (refine pcK_of h2 ?_)
        | refine brK_dec (fun _ => ?_) (fun _ => ?_)
        | (exfalso; contradiction)
        | exact loopFrH _ (by omega) ⟨k + 1, by omega, rfl, rfl⟩ (.next rfl (by omega) .nil) rfl
    · have h1 := nodeText p.Enums n hno
      have h2 := ndX p.Enums n hno
      repeat' first
        | simp only [go_sem]
        | refine drawK moB (by kernel_rfl) ?_
        | refine elemHave (x := n) (by omega) (by simpa using hn) ?_
        | (refine pcK_of h1 ?_)
        | (refine pcK_of h2 ?_)
        | refine brK_dec (fun _ => ?_) (fun _ => ?_)
        | (exfalso; contradiction)
        | exact loopFrH _ (by omega) ⟨i + 1, by omega, rfl, rfl⟩ (.next rfl (by omega) .nil) rfl
  · simp only [go_sem]
    refine PCall.call live13 ?_
    simp only [go_sem]
    exact finBq rfl rfl
/-- The table of powers lies as the row's condition says. -/
theorem tab_of {W : World} (laid : List (String × DataW Unit)) (hl : laid.filter (fun x => x.1 == "internal/strconv.uint64pow10") = [("internal/strconv.uint64pow10", Lib.tabData .u64 Lib.pow10Tab)]) (hpl : (laid.all fun x => x.2.handleName?.isNone) = true) (h : laidMetH Tryz.prog laid W) :
    ∀ x ∈ tabL, ∃ cs t l, W.heap[x.1]? = some (.cells cs t l) ∧ x.2 cs := by
  rw [MakeChecks.laidMetH_plain _ _ _ hpl] at h
  have h1 := h.filter (fun x => x.1 == "internal/strconv.uint64pow10")
  rw [hl] at h1
  have hg : Tryz.prog.globalNamed "internal/strconv.uint64pow10" = some 1 := by kernel_rfl
  have h2 := Lib.tabIs_of_head (g := 1) (t := 156) (e := 146) (n := 20) hg (by kernel_rfl) Tryz.underlying156 Tryz.underlying146 (by kernel_rfl) (by kernel_rfl) h1
  intro x hx
  obtain rfl := List.mem_singleton.1 hx
  unfold Lib.TabIs World.var? at h2
  rw [hg] at h2
  simp only [Option.bind_some] at h2
  split at h2
  · rename_i cs t l hc
    cases h2
    exact ⟨_, t, l, hc, rfl⟩
  · cases h2
end Go.Proofs.YtkjfhhioomnbfaaGreatDoor
