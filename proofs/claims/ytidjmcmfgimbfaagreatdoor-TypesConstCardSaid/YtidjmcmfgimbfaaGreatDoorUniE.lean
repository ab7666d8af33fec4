/-
  ChkP4, ScopeP4, ChkX, ChkX2, ScopeX1, ScopeX2, ScopeX3, ScopeL, TyL, TyCo, TyCp: put together.
-/
import Derived.Test.YtidjmcmfgimbfaaGreatDoorUniA
import Derived.Test.YtidjmcmfgimbfaaGreatDoorUniB
import Derived.Test.YtidjmcmfgimbfaaGreatDoorUniC
import Derived.Test.YtidjmcmfgimbfaaGreatDoorUniD
namespace Go.Proofs.YtidjmcmfgimbfaaGreatDoor
open Go.Abs
set_option maxRecDepth 20000
set_option linter.unusedSimpArgs false
set_option linter.unusedVariables false
set_option maxHeartbeats 1000000
attribute [local irreducible] vc vcOps vcStep vcGuard prK hrK gK gsK brK callK ElemK SeqK BlockK ScopeK OpsK CallK LoopK LoopGo finPost ACall PCall PCallE BCall vqOps vqStep vqGuard qrK heK pcK gqK gqsK QOpsK qcallK DrawK
abbrev progBd (p : DProg) : Blk := .cells 25 [.lst 2 (p.Enums.map DEnum.enc) none, .lst 5 (p.Nodes.map DNode.enc) none]
theorem n170 : (Tryz.f170.name == "runtime.NumGoroutine") = false := by kernel_rfl
theorem some37 {p : DProg} {q : DNode → Bool} {g : Nat} {first capt : List AV} {h : List Blk} {K : AV → List Blk → Prop} (hp : ∀ x ∈ p.Nodes, ∀ (r : List Blk) (K : AV → List Blk → Prop), K (.b (q x)) (h ++ r) → ACall Tryz.prog g (first ++ DNode.enc x :: capt) (h ++ r) K)
    (hK : K (.b (p.Nodes.any q)) h) : ACall Tryz.prog 170 [p.enc, .fn (.func g) first capt] h K := by
  refine acall_of_vc tabOK Tryz.func170 n170 rfl (n := 9) rfl (rs := [.tmp 4]) rfl ?_
  simp only [go_sem]
  refine containsNo (p := q) (fun x hx K hK => hp x hx _ K hK) ?_
  simp only [go_sem]
  exact finH0 _ rfl (.raw _) hK
theorem n172 : (Tryz.f172.name == "runtime.NumGoroutine") = false := by kernel_rfl
theorem check39 (p : DProg) (n : DNode) (hn : okNode n) {k : Nat} {h : List Blk} {K : AV → List Blk → Prop} (hk : h[k]? = some (progBd p)) (hK : K (.b (!(nodeF p.Enums.length n))) h) : ACall Tryz.prog 172 [n.enc, .ptr k 0] h K := by
  have hkl := (List.getElem?_eq_some_iff.1 hk).1
  have hk1 : ∀ r, (h ++ r)[k]? = some (.cells 25 [.lst 2 (p.Enums.map DEnum.enc) none, .lst 5 (p.Nodes.map DNode.enc) none]) := fun r => by rw [List.getElem?_append_left hkl]; exact hk
  refine acall_of_vc tabOK Tryz.func172 n172 rfl (n := 9) rfl (rs := [.tmp 3]) rfl ?_
  simp only [go_sem, hk1]
  refine PCall.call (rightN p.Enums n hn) ?_
  simp only [go_sem]
  exact finH0 _ rfl (.raw _) hK
theorem n174 : (Tryz.f174.name == "runtime.NumGoroutine") = false := by kernel_rfl
theorem check41 (n : DNode) (hl : (allV n).length ≤ 60) {h : List Blk} {K : AV → List Blk → Prop} (hK : K (.b (!(onceN n))) h) : ACall Tryz.prog 174 [n.enc] h K := by
  refine acall_of_vc tabOK Tryz.func174 n174 rfl (n := 6) rfl (rs := [.tmp 2]) rfl ?_
  simp only [go_sem]
  refine PCall.call (onceP n hl) ?_
  simp only [go_sem]
  exact finH0 _ rfl (.raw _) hK
theorem great_f (n : DNode) {h : List Blk} {K : AV → List Blk → Prop} (hK : K (.b (greatF n)) h) : ACall Tryz.prog 171 [n.enc] h K := by
  refine PCall.call (greatP n) ?_
  exact hK
theorem okN_len {n : DNode} (h : okNode n) : (allV n).length ≤ 60 := by
  have h1 := h.1.1
  have h2 := h.2.1.1
  have h3 := h.2.2.1.1
  simp [allV]
  omega
theorem n114 : (Tryz.f114.name == "runtime.NumGoroutine") = false := by kernel_rfl
theorem checkP (p : DProg) (hp : okProg p) : PCall Tryz.prog 114 [p.enc] (.i (checkF p)) := by
  have hp6 := hp.2.1
  refine pcall_of_vc tabOK Tryz.func114 n114 rfl (by repeat' first | exact pure_nil | refine pure_cons ?_ ?_ | exact .raw _ | exact pure_enc _ | exact pure_lst _ | exact pure_strs _ | exact pure_ints _ | exact DTy.pure _ | exact DTy.pures _ | exact DEnum.pure _ | exact DEnum.pures _ | exact DDecl.pure _ | exact DDecl.pures _ | exact DEq.pure _ | exact DEq.pures _ | exact DNode.pure _ | exact DNode.pures _ | exact DProg.pure _ | exact DProg.pures _ | exact DCond.pure _ | exact DCond.pures _ | exact DAtom.pure _ | exact DAtom.pures _ | exact DPlain.pure _ | exact DPlain.pures _ | exact DFault.pure _ | exact DFault.pures _ | exact pure_list (fun x => DDecl.pures x) _ | exact .fn _ _ _ pure_nil pure_nil | refine .agg _ ?_ | refine .tup _ ?_ | assumption) (by repeat' first | exact pure_nil | refine pure_cons ?_ ?_ | exact .raw _ | exact pure_enc _ | exact pure_lst _ | exact pure_strs _ | exact pure_ints _ | exact DTy.pure _ | exact DTy.pures _ | exact DEnum.pure _ | exact DEnum.pures _ | exact DDecl.pure _ | exact DDecl.pures _ | exact DEq.pure _ | exact DEq.pures _ | exact DNode.pure _ | exact DNode.pures _ | exact DProg.pure _ | exact DProg.pures _ | exact DCond.pure _ | exact DCond.pures _ | exact DAtom.pure _ | exact DAtom.pures _ | exact DPlain.pure _ | exact DPlain.pures _ | exact DFault.pure _ | exact DFault.pures _ | exact pure_list (fun x => DDecl.pures x) _ | exact .fn _ _ _ pure_nil pure_nil | refine .agg _ ?_ | refine .tup _ ?_ | assumption) (n := 52) rfl (rs := [.tmp 2]) rfl ?_
  unfold checkF
  simp only [go_sem]
  refine PCall.call (enumsP p.Enums hp.1) ?_
  generalize enumsF p.Enums = e
  simp only [go_sem]
  refine brK_dec (fun h0 => ?_) (fun h0 => ?_)
  · simp only [go_sem]
    exact finIq rfl (by rw [if_pos (by simpa using h0)])
  rw [if_neg (by simpa using h0)]
  simp only [go_sem]
  intro _
  refine loop_ghost (ghost_tok 4 9 1 rfl) ?_
  refine loop_fr [4, 6, 16, 17, 18, 19, 20, 21, 22, 23, 24, 25] (fun m C hh => ∃ (i : Nat) (r : List Blk), i ≤ p.Nodes.length ∧ m = p.Nodes.length - i ∧ C = [(16, .raw (.int .i64 (i : Nat))), (4, .lst 1 (((p.Nodes.take i).map DNode.Name).map AV.s) (some 1))] ∧ hh = progBd p :: .tok 9 1 (p.Nodes.take i).length :: r) p.Nodes.length _ ⟨0, [], by omega, by omega, rfl, rfl⟩ (.cons rfl (.cons rfl .nil)) ?_
  rintro m C j hh ⟨i, r, hi, rfl, rfl, rfl⟩
  simp only [go_sem]
  refine brK_dec (fun hlt => ?_) (fun hge => ?_)
  · simp only [go_sem]
    refine elemMap (by omega) (by omega) (fun d hd => ?_)
    have hli : (p.Nodes.take i).length = i := by rw [List.length_take]; omega
    have hli2 : (p.Nodes.take (i + 1)).length = i + 1 := by rw [List.length_take]; omega
    have hst := take_mapS (f := DNode.Name) hd
    try simp only [go_sem]
    refine ⟨by simp; omega, ?_⟩
    try simp only [go_sem]
    exact loopFr _ (by omega) ⟨i + 1, _, by omega, rfl, rfl, by rw [hli2, hli]⟩ (.next rfl (by omega) (.cons (by rw [hst]; simp [slot]) .nil)) rfl
  · rw [List.take_of_length_le (by omega)]
    have hany1 : p.Nodes.all (nodeF p.Enums.length) = !(p.Nodes.any fun n => !(nodeF p.Enums.length n)) := List.all_eq_not_any_not
    have hany2 : p.Nodes.all onceN = !(p.Nodes.any fun n => !(onceN n)) := List.all_eq_not_any_not
    rw [hany1, hany2]
    repeat' first
      | (exfalso; omega)
      | simp only [go_sem]
      | (intro _)
      | refine brK_dec (fun _ => ?_) (fun _ => ?_)
      | refine gK_dec (fun _ => ?_) (fun _ => ?_)
      | (refine some37 (q := greatF) (fun x hx r K hK => great_f x hK) ?_; generalize p.Nodes.any greatF = b; cases b)
      | (refine some37 (q := fun n => !(nodeF p.Enums.length n)) (fun x hx r K hK => check39 p x (hp.2.2 x hx) (k := 0) rfl hK) ?_; generalize (p.Nodes.any fun n => !(nodeF p.Enums.length n)) = b; cases b)
      | (refine some37 (q := fun n => !(onceN n)) (fun x hx r K hK => check41 x (okN_len (hp.2.2 x hx)) hK) ?_; generalize (p.Nodes.any fun n => !(onceN n)) = b; cases b)
      | (refine PCall.callW (once12 (p.Nodes.map DNode.Name)) ⟨.tok _ _ _, trivial⟩ ?_; generalize onceB (p.Nodes.map DNode.Name) = b; cases b)
      | (refine finIq rfl ?_; rw [if_pos (c := p.Nodes.length = 0) (by omega)]; done)
      | (refine finIq rfl ?_; (try rw [if_pos (c := p.Nodes.length = 0) (by omega)]); (try rw [if_neg (c := p.Nodes.length = 0) (by omega)]); (try rw [decide_eq_true (p := p.Nodes.length > 6) (by omega)]); (try rw [decide_eq_false (p := p.Nodes.length > 6) (by omega)]); simp; done)
theorem any_next {α : Type} {l : List α} {i : Nat} {x : α} (f : α → Bool) (hx : l[i]? = some x) : (l.take (i + 1)).any f = ((l.take i).any f || f x) := by
  obtain ⟨hi, rfl⟩ := List.getElem?_eq_some_iff.1 hx
  rw [List.take_succ_eq_append_getElem hi, List.any_append]
  simp
def nmD (l : List DDecl) (s : ByteArray) : Bool := l.any fun d => decide (d.Name = s)
theorem nmD_next {l : List DDecl} {i : Nat} {x : DDecl} (hx : l[i]? = some x) (s : ByteArray) : nmD (l.take (i + 1)) s = (nmD (l.take i) s || decide (x.Name = s)) := any_next _ hx
def gOpen (l m : List DDecl) (s : ByteArray) : Nat := if nmD l s = true then 1 else if nmD m s = true then 2 else 0
theorem gOpen_end (n : DNode) (s : ByteArray) : gOpen n.Ins (n.Outs ++ n.Vars) s = knF n [] s := by
  unfold gOpen knF inF nmD memB
  simp
theorem open_free {f : Value → Option AV} {W : List DDecl} {i : Nat} {d : DDecl} (hM : MapN f (gOpen [] (W.take i))) (hd : W[i]? = some d) : MapN (mput f (.string d.Name) (.raw (.int .i64 2))) (gOpen [] (W.take (i + 1))) := by
  refine hM.put d.Name 2 _ ?_ (fun s hs => ?_)
  · unfold gOpen; rw [nmD_next hd]; simp [nmD]
  · have : ¬ d.Name = s := fun e => hs e.symm
    unfold gOpen; rw [nmD_next hd]; simp [this]
theorem open_in {f : Value → Option AV} {L W : List DDecl} {i : Nat} {d : DDecl} (hM : MapN f (gOpen (L.take i) W)) (hd : L[i]? = some d) : MapN (mput f (.string d.Name) (.raw (.int .i64 1))) (gOpen (L.take (i + 1)) W) := by
  refine hM.put d.Name 1 _ ?_ (fun s hs => ?_)
  · unfold gOpen; rw [nmD_next hd]; simp
  · have : ¬ d.Name = s := fun e => hs e.symm
    unfold gOpen; rw [nmD_next hd]; simp [this]
theorem snoc3 {α : Type} (h : List α) (a b c : α) : h ++ [a, b, c] = (h ++ [a]) ++ [b, c] := by simp
theorem n115 : (Tryz.f115.name == "runtime.NumGoroutine") = false := by kernel_rfl
theorem open48 {p : DProg} {j : Nat} {n : DNode} (hj : p.Nodes[j]? = some n) (hn : okNode n) {h : List Blk} {K : AV → List Blk → Prop} (hK : ∀ A c f r, A = h ++ [progBd p] → MapN f (knF n []) → K (.ptr (A.length + 1) 0) (HS A p (j : Int) c f r)) : ACall Tryz.prog 115 [p.enc, .i (j : Int)] h K := by
  have hh1 := hn.1.1
  have hh2 := hn.2.1.1
  have hh3 := hn.2.2.1.1
  have hL : [n.Outs, n.Vars].flatten = n.Outs ++ n.Vars := by simp
  have hll : (n.Outs ++ n.Vars).length ≤ 60 := by simp; omega
  refine acallK_of_vc tabOK Tryz.func115 n115 rfl (n := 51) rfl (rs := [.tmp 4]) rfl ?_
  simp only [go_sem]
  rw [snoc3]
  obtain ⟨A, hA⟩ : ∃ A, A = h ++ [progBd p] := ⟨_, rfl⟩
  rw [← hA]
  have hl1 : h.length + 1 = A.length := by rw [hA]; simp
  have hl2 : h.length + 2 = A.length + 1 := by omega
  rw [hl1, hl2]
  refine node87 hj (fun r1 => ?_)
  simp only [go_sem]
  simp only [DNode.enc_eq]
  simp only [go_sem]
  refine node87 hj (fun r2 => ?_)
  simp only [go_sem]
  simp only [DNode.enc_eq]
  simp only [go_sem]
  refine PCall.callW (concatD [n.Outs, n.Vars] (by show ([n.Outs, n.Vars].flatten).length ≤ _; rw [hL]; omega)) ⟨.tok _ _ _, trivial⟩ ?_
  rw [hL]
  generalize hW : n.Outs ++ n.Vars = W at hll
  simp only [go_sem]
  intro _
  refine loop_fr [7, 24, 25, 26, 27, 28, 29, 30, 31, 32, 33, 34] (fun m C hh => ∃ (i c' : Nat) (f' : Value → Option AV) (r' : List Blk), i ≤ W.length ∧ m = W.length - i ∧ MapN f' (gOpen [] (W.take i)) ∧ C = [(24, .raw (.int .i64 (i : Nat)))] ∧ hh = HS A p (j : Int) c' f' r') W.length _ ⟨0, 0, _, _, by omega, by omega, MapN.nil.cast (fun s => by simp [gOpen, nmD]), rfl, rfl⟩ (.cons rfl .nil) ?_
  rintro m C jb hh ⟨i, c', f', r', hi, rfl, hM, rfl, rfl⟩
  simp only [go_sem]
  refine brK_dec (fun hlt => ?_) (fun hge => ?_)
  · simp only [go_sem]
    refine elemMap (by omega) (by omega) (fun d hd => ?_)
    have hM2 := open_free hM (by simpa using hd)
    simp only [go_sem]
    refine drawZ mo (by kernel_rfl) rfl ?_
    simp only [List.dropLast_cons_cons, List.dropLast_singleton, List.getLast_cons_cons, List.getLast_singleton]
    simp only [go_sem]
    exact loopFr _ (by omega) ⟨i + 1, _, _, _, by omega, rfl, hM2, rfl, rfl⟩ (.next rfl (by omega) .nil) rfl
  · rw [List.take_of_length_le (by omega)] at hM
    simp only [go_sem]
    refine node87 hj (fun r3 => ?_)
    simp only [go_sem]
    simp only [DNode.enc_eq]
    simp only [go_sem]
    intro _
    refine loop_fr [9, 39, 40, 41, 42, 43, 44, 45, 46, 47, 48, 49] (fun m C hh => ∃ (i c' : Nat) (f' : Value → Option AV) (r' : List Blk), i ≤ n.Ins.length ∧ m = n.Ins.length - i ∧ MapN f' (gOpen (n.Ins.take i) W) ∧ C = [(39, .raw (.int .i64 (i : Nat)))] ∧ hh = HS A p (j : Int) c' f' r') n.Ins.length _ ⟨0, _, _, _, by omega, by omega, hM, rfl, rfl⟩ (.cons rfl .nil) ?_
    rintro m C jd hh ⟨i2, c2, f2, r4, hi2, rfl, hM2, rfl, rfl⟩
    simp only [go_sem]
    refine brK_dec (fun hlt2 => ?_) (fun hge2 => ?_)
    · simp only [go_sem]
      refine elemMap (by omega) (by omega) (fun d hd => ?_)
      have hM3 := open_in hM2 (by simpa using hd)
      simp only [go_sem]
      refine drawZ mo (by kernel_rfl) rfl ?_
      simp only [List.dropLast_cons_cons, List.dropLast_singleton, List.getLast_cons_cons, List.getLast_singleton]
      simp only [go_sem]
      exact loopFr _ (by omega) ⟨i2 + 1, _, _, _, by omega, rfl, hM3, rfl, rfl⟩ (.next rfl (by omega) .nil) rfl
    · rw [List.take_of_length_le (by omega)] at hM2
      simp only [go_sem]
      exact finK (r := .ptr (A.length + 1) 0) rfl (hK A c2 f2 r4 hA (hM2.cast (fun s => by rw [← hW]; exact gOpen_end n s)))
theorem n65 : (Tryz.f65.name == "runtime.NumGoroutine") = false := by kernel_rfl
theorem scopeCheck (p : DProg) (hp : okProg p) : PCall Tryz.prog 65 [p.enc] (scopeF p).enc := by
  refine pcall_of_vc tabOK Tryz.func65 n65 rfl (by repeat' first | exact pure_nil | refine pure_cons ?_ ?_ | exact .raw _ | exact pure_enc _ | exact pure_lst _ | exact pure_strs _ | exact pure_ints _ | exact DTy.pure _ | exact DTy.pures _ | exact DEnum.pure _ | exact DEnum.pures _ | exact DDecl.pure _ | exact DDecl.pures _ | exact DEq.pure _ | exact DEq.pures _ | exact DNode.pure _ | exact DNode.pures _ | exact DProg.pure _ | exact DProg.pures _ | exact DCond.pure _ | exact DCond.pures _ | exact DAtom.pure _ | exact DAtom.pures _ | exact DPlain.pure _ | exact DPlain.pures _ | exact DFault.pure _ | exact DFault.pures _ | exact pure_list (fun x => DDecl.pures x) _ | exact .fn _ _ _ pure_nil pure_nil | refine .agg _ ?_ | refine .tup _ ?_ | assumption) (by repeat' first | exact pure_nil | refine pure_cons ?_ ?_ | exact .raw _ | exact pure_enc _ | exact pure_lst _ | exact pure_strs _ | exact pure_ints _ | exact DTy.pure _ | exact DTy.pures _ | exact DEnum.pure _ | exact DEnum.pures _ | exact DDecl.pure _ | exact DDecl.pures _ | exact DEq.pure _ | exact DEq.pures _ | exact DNode.pure _ | exact DNode.pures _ | exact DProg.pure _ | exact DProg.pures _ | exact DCond.pure _ | exact DCond.pures _ | exact DAtom.pure _ | exact DAtom.pures _ | exact DPlain.pure _ | exact DPlain.pures _ | exact DFault.pure _ | exact DFault.pures _ | exact pure_list (fun x => DDecl.pures x) _ | exact .fn _ _ _ pure_nil pure_nil | refine .agg _ ?_ | refine .tup _ ?_ | assumption) (n := 28) rfl (rs := [.cell 2 34]) rfl ?_
  have hp6 := hp.2.1
  unfold scopeF
  simp only [go_sem]
  refine PCall.call (checkP p hp) ?_
  generalize checkF p = e
  simp only [go_sem]
  refine brK_dec (fun h0 => ?_) (fun h0 => ?_)
  · rw [if_neg h0, DFault.enc_eq]
    simp only [go_sem]
    exact ⟨_, rfl, false, .refl _⟩
  rw [if_pos (by simpa using h0)]
  simp only [go_sem]
  intro _
  generalize hE : nodesFault p 0 p.Nodes = E
  refine loop_frX [4, 5, 15, 16, 17, 18, 19, 20, 21, 22, 23, 24, 25, 26] (fun m C => ∃ i : Nat, i ≤ p.Nodes.length ∧ m = p.Nodes.length - i ∧ nodesFault p i (p.Nodes.drop i) = E ∧ C = [(15, .raw (.int .i64 (i : Nat)))]) p.Nodes.length _ ⟨0, by omega, by omega, hE, rfl⟩ (.cons rfl .nil) ?_
  rintro m C ja r ⟨i, hi, rfl, hE', rfl⟩
  simp only [go_sem]
  refine brK_dec (fun hlt => ?_) (fun hge => ?_)
  · obtain ⟨n, hj⟩ : ∃ n, p.Nodes[i]? = some n := ⟨_, List.getElem?_eq_getElem (by omega)⟩
    have hn := hp.2.2 n (List.mem_of_getElem? hj)
    simp only [go_sem]
    refine open48 hj hn (fun A c f r1 hA hM => ?_)
    simp only [go_sem]
    refine check49 hj hn hM (fun c' f' r2 => ?_)
    subst hA
    by_cases hF : (nodeFault p (i : Int) n).Err = 0
    · have hE1 := nodes_next hE' (by simpa using hj) hF
      have hz := nodeFault_zero hF
      rw [hz, DFault.enc_eq]
      simp only [go_sem]
      exact loopFrX _ (by omega) _ ⟨i + 1, by omega, rfl, hE1, rfl⟩ (.next rfl (by omega) .nil) rfl (by first | rfl | (simp only [List.append_assoc, List.cons_append, List.nil_append]; rfl))
    · have hE1 := nodes_at hE' (by simpa using hj) hF
      rw [hE1]
      generalize nodeFault p (i : Int) n = F at hF
      rw [DFault.enc_eq]
      simp only [go_sem]
      refine brK_dec (fun _ => ?_) (fun hq => absurd hF hq)
      simp only [go_sem]
      exact ⟨_, rfl, false, by rw [DFault.enc_eq]; exact .refl _⟩
  · have h0 := nodes_0 hE' (by omega)
    subst h0
    rw [DFault.enc_eq]
    simp only [go_sem]
    exact ⟨_, rfl, false, .refl _⟩
theorem allVn {n : DNode} (h : okNode n) : (allV n).length ≤ 60 := by
  have h1 := h.1.1
  have h2 := h.2.1.1
  have h3 := h.2.2.1.1
  simp [allV]
  omega
theorem map_app (l m : List ByteArray) : l.map AV.s ++ m.map AV.s = (l ++ m).map AV.s := by simp
def okAB (i : Nat) (a b : List ByteArray) : Prop := a.length ≤ i ∧ b.length ≤ 12 * i ∧ ∀ s ∈ b, s.size ≤ 100
theorem okAB.zero : okAB 0 [] [] := ⟨by simp, by simp, by simp⟩
theorem okAB.next {l : List DEnum} {i : Nat} {a b : List ByteArray} {x : DEnum} (h : okAB i a b) (hl : okEnums l) (hx : l[((i : Nat) : Int).toNat]? = some x) : okAB (i + 1) (a ++ [x.Name]) (b ++ x.Ctors) := by
  have hm := hl.2 x (List.mem_of_getElem? hx)
  have h1 := hm.1
  refine ⟨by have := h.1; simp; omega, by have := h.2.1; simp; omega, fun s hs => ?_⟩
  rcases List.mem_append.1 hs with q | q
  · exact h.2.2 s q
  · exact hm.2.2 s q

theorem nm_next {l : List DDecl} {i : Nat} {a : List ByteArray} {x : DDecl} (h : a = (l.take i).map DDecl.Name ∧ a.length ≤ i) (hx : l[((i : Nat) : Int).toNat]? = some x) : a ++ [x.Name] = (l.take (i + 1)).map DDecl.Name ∧ (a ++ [x.Name]).length ≤ i + 1 :=
  ⟨by rw [take_mapS hx, h.1], by have := h.2; simp; omega⟩
theorem n89 : (Tryz.f89.name == "runtime.NumGoroutine") = false := by kernel_rfl
theorem names83 (l : List DDecl) (hl : l.length ≤ 100000) : PCall Tryz.prog 89 [.lst 6 (l.map DDecl.enc) none] (.lst 1 ((l.map DDecl.Name).map AV.s) none) := by
  refine pcall_of_vc tabOK Tryz.func89 n89 rfl (by repeat' first | exact pure_nil | refine pure_cons ?_ ?_ | exact .raw _ | exact pure_enc _ | exact pure_lst _ | exact pure_strs _ | exact pure_ints _ | exact DTy.pure _ | exact DTy.pures _ | exact DEnum.pure _ | exact DEnum.pures _ | exact DDecl.pure _ | exact DDecl.pures _ | exact DEq.pure _ | exact DEq.pures _ | exact DNode.pure _ | exact DNode.pures _ | exact DProg.pure _ | exact DProg.pures _ | exact DCond.pure _ | exact DCond.pures _ | exact DAtom.pure _ | exact DAtom.pures _ | exact DPlain.pure _ | exact DPlain.pures _ | exact DFault.pure _ | exact DFault.pures _ | exact pure_list (fun x => DDecl.pures x) _ | exact .fn _ _ _ pure_nil pure_nil | refine .agg _ ?_ | refine .tup _ ?_ | assumption) (by repeat' first | exact pure_nil | refine pure_cons ?_ ?_ | exact .raw _ | exact pure_enc _ | exact pure_lst _ | exact pure_strs _ | exact pure_ints _ | exact DTy.pure _ | exact DTy.pures _ | exact DEnum.pure _ | exact DEnum.pures _ | exact DDecl.pure _ | exact DDecl.pures _ | exact DEq.pure _ | exact DEq.pures _ | exact DNode.pure _ | exact DNode.pures _ | exact DProg.pure _ | exact DProg.pures _ | exact DCond.pure _ | exact DCond.pures _ | exact DAtom.pure _ | exact DAtom.pures _ | exact DPlain.pure _ | exact DPlain.pures _ | exact DFault.pure _ | exact DFault.pures _ | exact pure_list (fun x => DDecl.pures x) _ | exact .fn _ _ _ pure_nil pure_nil | refine .agg _ ?_ | refine .tup _ ?_ | assumption) (n := 21) rfl (rs := [.tmp 2]) rfl ?_
  repeat' first
    | exact finB rfl
    | exact finI rfl
    | exact finP rfl
    | exact absurd rfl (by assumption)
    | simp only [go_sem]
    | (intro _)
    | refine brK_dec (fun _ => ?_) (fun _ => ?_)
    | refine brK_any ?_ ?_
    | refine gK_dec (fun _ => ?_) (fun _ => ?_)
    | refine gK_any ?_ ?_
    | refine gqK_dec (fun _ => ?_) (fun _ => ?_)
    | refine ⟨by omega, ?_⟩
    | refine elemHave (by omega) (by assumption) ?_
    | refine elemMap (by omega) (by omega) (fun x hx => ?_)
    | refine drawK mo (by kernel_rfl) ?_
    | (simp only [map_snoc])
    | (refine ⟨by have := hpi.2; first | omega | (simp; omega), ?_⟩)
    | (rw [show l.map DDecl.Name = a by rw [hpi.1, List.take_of_length_le (by omega)]]; exact ⟨_, rfl, false, .tok _ _ _⟩)
    | exact loopFr _ (by omega) ⟨i + 1, a ++ [x.Name], _, by omega, rfl, nm_next hpi hx, rfl, (by first | rfl | (simp; done) | (simp; rfl))⟩ (.next rfl (by omega) (.cons (by first | rfl | (simp; done) | (simp; rfl)) .nil)) rfl
    | (refine loop_fr [3, 4, 6, 7, 8, 9, 10, 11, 12, 13, 14, 15, 16, 17, 18, 19] (fun mm_ CC_ hh_ => ∃ (i : Nat) (a : List ByteArray) (r_ : List Blk), i ≤ l.length ∧ mm_ = l.length - i ∧ ((a = (l.take i).map DDecl.Name ∧ a.length ≤ i)) ∧ CC_ = [(4, .raw (.int .i64 ((i : Nat) : Int))), (3, .lst 1 (a.map AV.s) (some 0))] ∧ hh_ = .tok 9 1 a.length :: r_) (l.length) _ ⟨0, [], _, by omega, by omega, ⟨by simp, by simp⟩, rfl, (by first | rfl | (simp; done) | (simp; rfl))⟩ (.cons (by first | rfl | (simp; done) | (simp; rfl)) (.cons (by first | rfl | (simp; done) | (simp; rfl)) .nil)) ?_; rintro mm_ CC_ ji hh_ ⟨i, a, ri, hi, rfl, hpi, rfl, rfl⟩)
abbrev progBc (p : DProg) : Blk := .cells 25 [.lst 2 (p.Enums.map DEnum.enc) none, .lst 5 (p.Nodes.map DNode.enc) none]
theorem n62 : (Tryz.f62.name == "runtime.NumGoroutine") = false := by kernel_rfl
theorem rightTyX (l : List DEnum) (t : DTy) : PCall Tryz.prog 62 [.lst 2 (l.map DEnum.enc) none, t.enc] (.b (rightTyF l.length t)) := by
  refine pcall_of_vc tabOK Tryz.func62 n62 rfl (by repeat' first | exact pure_nil | refine pure_cons ?_ ?_ | exact .raw _ | exact pure_enc _ | exact pure_lst _ | exact pure_strs _ | exact pure_ints _ | exact DTy.pure _ | exact DTy.pures _ | exact DEnum.pure _ | exact DEnum.pures _ | exact DDecl.pure _ | exact DDecl.pures _ | exact DEq.pure _ | exact DEq.pures _ | exact DNode.pure _ | exact DNode.pures _ | exact DProg.pure _ | exact DProg.pures _ | exact DCond.pure _ | exact DCond.pures _ | exact DAtom.pure _ | exact DAtom.pures _ | exact DPlain.pure _ | exact DPlain.pures _ | exact DFault.pure _ | exact DFault.pures _ | exact pure_list (fun x => DDecl.pures x) _ | exact .fn _ _ _ pure_nil pure_nil | refine .agg _ ?_ | refine .tup _ ?_ | assumption) (by repeat' first | exact pure_nil | refine pure_cons ?_ ?_ | exact .raw _ | exact pure_enc _ | exact pure_lst _ | exact pure_strs _ | exact pure_ints _ | exact DTy.pure _ | exact DTy.pures _ | exact DEnum.pure _ | exact DEnum.pures _ | exact DDecl.pure _ | exact DDecl.pures _ | exact DEq.pure _ | exact DEq.pures _ | exact DNode.pure _ | exact DNode.pures _ | exact DProg.pure _ | exact DProg.pures _ | exact DCond.pure _ | exact DCond.pures _ | exact DAtom.pure _ | exact DAtom.pures _ | exact DPlain.pure _ | exact DPlain.pures _ | exact DFault.pure _ | exact DFault.pures _ | exact pure_list (fun x => DDecl.pures x) _ | exact .fn _ _ _ pure_nil pure_nil | refine .agg _ ?_ | refine .tup _ ?_ | assumption) (n := 39) rfl (rs := [.tmp 4]) rfl ?_
  repeat' first
    | exact finB rfl
    | exact finI rfl
    | exact finP rfl
    | exact absurd rfl (by assumption)
    | simp only [go_sem]
    | (intro _)
    | refine brK_dec (fun _ => ?_) (fun _ => ?_)
    | refine brK_any ?_ ?_
    | refine gK_dec (fun _ => ?_) (fun _ => ?_)
    | refine gK_any ?_ ?_
    | refine gqK_dec (fun _ => ?_) (fun _ => ?_)
    | refine ⟨by omega, ?_⟩
    | refine elemHave (by omega) (by assumption) ?_
    | refine elemMap (by omega) (by omega) (fun x hx => ?_)
    | refine drawK mo (by kernel_rfl) ?_
    | (exfalso; omega)
    | (refine finBq rfl ?_; unfold rightTyF; exact (decide_eq_true (by omega)).symm)
    | (refine finBq rfl ?_; unfold rightTyF; exact (decide_eq_false (by omega)).symm)
    | (refine finBq rfl ?_; unfold rightTyF; exact decide_eq_decide.2 (by omega))
theorem n197 : (Tryz.f197.name == "runtime.NumGoroutine") = false := by kernel_rfl
theorem armX (s : ByteArray) : PCall Tryz.prog 197 [.s s] (.b (armE s)) := by
  refine pcall_of_vc tabOK Tryz.func197 n197 rfl (by repeat' first | exact pure_nil | refine pure_cons ?_ ?_ | exact .raw _ | exact pure_enc _ | exact pure_lst _ | exact pure_strs _ | exact pure_ints _ | exact DTy.pure _ | exact DTy.pures _ | exact DEnum.pure _ | exact DEnum.pures _ | exact DDecl.pure _ | exact DDecl.pures _ | exact DEq.pure _ | exact DEq.pures _ | exact DNode.pure _ | exact DNode.pures _ | exact DProg.pure _ | exact DProg.pures _ | exact DCond.pure _ | exact DCond.pures _ | exact DAtom.pure _ | exact DAtom.pures _ | exact DPlain.pure _ | exact DPlain.pures _ | exact DFault.pure _ | exact DFault.pures _ | exact pure_list (fun x => DDecl.pures x) _ | exact .fn _ _ _ pure_nil pure_nil | refine .agg _ ?_ | refine .tup _ ?_ | assumption) (by repeat' first | exact pure_nil | refine pure_cons ?_ ?_ | exact .raw _ | exact pure_enc _ | exact pure_lst _ | exact pure_strs _ | exact pure_ints _ | exact DTy.pure _ | exact DTy.pures _ | exact DEnum.pure _ | exact DEnum.pures _ | exact DDecl.pure _ | exact DDecl.pures _ | exact DEq.pure _ | exact DEq.pures _ | exact DNode.pure _ | exact DNode.pures _ | exact DProg.pure _ | exact DProg.pures _ | exact DCond.pure _ | exact DCond.pures _ | exact DAtom.pure _ | exact DAtom.pures _ | exact DPlain.pure _ | exact DPlain.pures _ | exact DFault.pure _ | exact DFault.pures _ | exact pure_list (fun x => DDecl.pures x) _ | exact .fn _ _ _ pure_nil pure_nil | refine .agg _ ?_ | refine .tup _ ?_ | assumption) (n := 13) rfl (rs := [.tmp 2]) rfl ?_
  unfold armE
  repeat' first
    | exact finB rfl
    | exact finI rfl
    | exact finP rfl
    | exact absurd rfl (by assumption)
    | simp only [go_sem]
    | (intro _)
    | refine brK_dec (fun _ => ?_) (fun _ => ?_)
    | refine brK_split (fun hb_ => ?_) (fun hb_ => ?_)
    | refine gK_dec (fun _ => ?_) (fun _ => ?_)
    | refine gK_split (fun hb_ => ?_) (fun hb_ => ?_)
    | refine gqK_dec (fun _ => ?_) (fun _ => ?_)
    | refine ⟨by omega, ?_⟩
    | refine elemHave (by omega) (by assumption) ?_
    | refine elemMap (by omega) (by omega) (fun x hx => ?_)
    | refine drawK mo (by kernel_rfl) ?_
    | (refine PCall.call (high_x s) ?_; generalize highF s = q; cases q)
    | (exact finBq rfl (by simp [*]))
theorem n136 : (Tryz.f136.name == "runtime.NumGoroutine") = false := by kernel_rfl
theorem declX (l : List DEnum) (d : DDecl) : PCall Tryz.prog 136 [.lst 2 (l.map DEnum.enc) none, d.enc] (.b (declaredF l.length d)) := by
  refine pcall_of_vc tabOK Tryz.func136 n136 rfl (by repeat' first | exact pure_nil | refine pure_cons ?_ ?_ | exact .raw _ | exact pure_enc _ | exact pure_lst _ | exact pure_strs _ | exact pure_ints _ | exact DTy.pure _ | exact DTy.pures _ | exact DEnum.pure _ | exact DEnum.pures _ | exact DDecl.pure _ | exact DDecl.pures _ | exact DEq.pure _ | exact DEq.pures _ | exact DNode.pure _ | exact DNode.pures _ | exact DProg.pure _ | exact DProg.pures _ | exact DCond.pure _ | exact DCond.pures _ | exact DAtom.pure _ | exact DAtom.pures _ | exact DPlain.pure _ | exact DPlain.pures _ | exact DFault.pure _ | exact DFault.pures _ | exact pure_list (fun x => DDecl.pures x) _ | exact .fn _ _ _ pure_nil pure_nil | refine .agg _ ?_ | refine .tup _ ?_ | assumption) (by repeat' first | exact pure_nil | refine pure_cons ?_ ?_ | exact .raw _ | exact pure_enc _ | exact pure_lst _ | exact pure_strs _ | exact pure_ints _ | exact DTy.pure _ | exact DTy.pures _ | exact DEnum.pure _ | exact DEnum.pures _ | exact DDecl.pure _ | exact DDecl.pures _ | exact DEq.pure _ | exact DEq.pures _ | exact DNode.pure _ | exact DNode.pures _ | exact DProg.pure _ | exact DProg.pures _ | exact DCond.pure _ | exact DCond.pures _ | exact DAtom.pure _ | exact DAtom.pures _ | exact DPlain.pure _ | exact DPlain.pures _ | exact DFault.pure _ | exact DFault.pures _ | exact pure_list (fun x => DDecl.pures x) _ | exact .fn _ _ _ pure_nil pure_nil | refine .agg _ ?_ | refine .tup _ ?_ | assumption) (n := 34) rfl (rs := [.tmp 4]) rfl ?_
  repeat' first
    | exact finB rfl
    | exact finI rfl
    | exact finP rfl
    | exact absurd rfl (by assumption)
    | simp only [go_sem]
    | (intro _)
    | refine brK_dec (fun _ => ?_) (fun _ => ?_)
    | refine brK_split (fun hb_ => ?_) (fun hb_ => ?_)
    | refine gK_dec (fun _ => ?_) (fun _ => ?_)
    | refine gK_split (fun hb_ => ?_) (fun hb_ => ?_)
    | refine gqK_dec (fun _ => ?_) (fun _ => ?_)
    | refine ⟨by omega, ?_⟩
    | refine elemHave (by omega) (by assumption) ?_
    | refine elemMap (by omega) (by omega) (fun x hx => ?_)
    | refine drawK mo (by kernel_rfl) ?_
    | (refine PCall.call (low_x d.Name) ?_; generalize h1 : lowF d.Name = q; cases q)
    | (refine PCall.call (low_x d.On) ?_; generalize h2 : lowF d.On = q; cases q)
    | (refine PCall.call (rightTyX l d.Ty) ?_; generalize h3 : rightTyF l.length d.Ty = q; cases q)
    | (refine PCall.call (armX d.Ctor) ?_; generalize h4 : armE d.Ctor = q; cases q)
    | (refine finBq rfl ?_; first | (simp only [declaredF, bareF, h1, h2, h3, h4]; simp [*]; done) | (simp only [declaredF, bareF, h1, h2, h3]; simp [*]; done) | (simp only [declaredF, bareF, h1, h3]; simp [*]; done) | (simp only [declaredF, bareF, h1]; simp [*]; done))
theorem n137 : (Tryz.f137.name == "runtime.NumGoroutine") = false := by kernel_rfl
theorem eqX (q : DEq) (hq : okEq q) : PCall Tryz.prog 137 [q.enc] (.b (eqF q)) := by
  refine pcall_of_vc tabOK Tryz.func137 n137 rfl (by repeat' first | exact pure_nil | refine pure_cons ?_ ?_ | exact .raw _ | exact pure_enc _ | exact pure_lst _ | exact pure_strs _ | exact pure_ints _ | exact DTy.pure _ | exact DTy.pures _ | exact DEnum.pure _ | exact DEnum.pures _ | exact DDecl.pure _ | exact DDecl.pures _ | exact DEq.pure _ | exact DEq.pures _ | exact DNode.pure _ | exact DNode.pures _ | exact DProg.pure _ | exact DProg.pures _ | exact DCond.pure _ | exact DCond.pures _ | exact DAtom.pure _ | exact DAtom.pures _ | exact DPlain.pure _ | exact DPlain.pures _ | exact DFault.pure _ | exact DFault.pures _ | exact pure_list (fun x => DDecl.pures x) _ | exact .fn _ _ _ pure_nil pure_nil | refine .agg _ ?_ | refine .tup _ ?_ | assumption) (by repeat' first | exact pure_nil | refine pure_cons ?_ ?_ | exact .raw _ | exact pure_enc _ | exact pure_lst _ | exact pure_strs _ | exact pure_ints _ | exact DTy.pure _ | exact DTy.pures _ | exact DEnum.pure _ | exact DEnum.pures _ | exact DDecl.pure _ | exact DDecl.pures _ | exact DEq.pure _ | exact DEq.pures _ | exact DNode.pure _ | exact DNode.pures _ | exact DProg.pure _ | exact DProg.pures _ | exact DCond.pure _ | exact DCond.pures _ | exact DAtom.pure _ | exact DAtom.pures _ | exact DPlain.pure _ | exact DPlain.pures _ | exact DFault.pure _ | exact DFault.pures _ | exact pure_list (fun x => DDecl.pures x) _ | exact .fn _ _ _ pure_nil pure_nil | refine .agg _ ?_ | refine .tup _ ?_ | assumption) (n := 39) rfl (rs := [.tmp 2]) rfl ?_
  repeat' first
    | exact finB rfl
    | exact finI rfl
    | exact finP rfl
    | exact absurd rfl (by assumption)
    | simp only [go_sem]
    | (intro _)
    | refine brK_dec (fun _ => ?_) (fun _ => ?_)
    | refine brK_split (fun hb_ => ?_) (fun hb_ => ?_)
    | refine gK_dec (fun _ => ?_) (fun _ => ?_)
    | refine gK_split (fun hb_ => ?_) (fun hb_ => ?_)
    | refine gqK_dec (fun _ => ?_) (fun _ => ?_)
    | refine ⟨by omega, ?_⟩
    | refine elemHave (by omega) (by assumption) ?_
    | refine elemMap (by omega) (by omega) (fun x hx => ?_)
    | refine drawK mo (by kernel_rfl) ?_
    | (refine PCall.call (low_x x) ?_; generalize hpx : lowF x = b; cases b)
    | (refine PCall.call (right17x _ hq.2.1) ?_; generalize hrx : rightE q.E = b; cases b)
    | (refine finBq rfl ?_; unfold eqF; rw [List.all_eq_false.2 ⟨x, List.mem_of_getElem? hx, by simp [hpx]⟩]; simp; done)
    | (have hall := List.all_eq_true.2 (take_full hpi (by omega)); refine finBq rfl ?_; unfold eqF; rw [hall]; (try rw [decide_eq_true (p := 0 < q.Names.length) (by omega)]); (try rw [decide_eq_false (p := 0 < q.Names.length) (by omega)]); (try rw [decide_eq_true (p := q.Names.length ≤ 1) (by omega)]); (try rw [decide_eq_false (p := q.Names.length ≤ 1) (by omega)]); simp [*]; done)
    | exact loopFrH _ (by omega) ⟨i + 1, by omega, rfl, take_all hpi (by simpa using hx) hpx, rfl⟩ (.next rfl (by omega) .nil) rfl
    | (refine loop_frH [2, 3, 4, 5, 6, 7, 8, 9, 10, 11, 12, 13, 14, 15, 16, 17] (fun mm_ CC_ => ∃ (i : Nat), i ≤ q.Names.length ∧ mm_ = q.Names.length - i ∧ (∀ s ∈ q.Names.take i, lowF s = true) ∧ CC_ = [(3, .raw (.int .i64 ((i : Nat) : Int)))]) (q.Names.length) _ ⟨0, by omega, by omega, by simp, rfl⟩ (.cons rfl .nil) ?_; rintro mm_ CC_ ji ⟨i, hi, rfl, hpi, rfl⟩)
theorem n88 : (Tryz.f88.name == "runtime.NumGoroutine") = false := by kernel_rfl
theorem nodeX (l : List DEnum) (n : DNode) (hn : okNode n) : PCall Tryz.prog 88 [.lst 2 (l.map DEnum.enc) none, n.enc] (.b (nodeF l.length n)) := by
  refine pcall_of_vc tabOK Tryz.func88 n88 rfl (by repeat' first | exact pure_nil | refine pure_cons ?_ ?_ | exact .raw _ | exact pure_enc _ | exact pure_lst _ | exact pure_strs _ | exact pure_ints _ | exact DTy.pure _ | exact DTy.pures _ | exact DEnum.pure _ | exact DEnum.pures _ | exact DDecl.pure _ | exact DDecl.pures _ | exact DEq.pure _ | exact DEq.pures _ | exact DNode.pure _ | exact DNode.pures _ | exact DProg.pure _ | exact DProg.pures _ | exact DCond.pure _ | exact DCond.pures _ | exact DAtom.pure _ | exact DAtom.pures _ | exact DPlain.pure _ | exact DPlain.pures _ | exact DFault.pure _ | exact DFault.pures _ | exact pure_list (fun x => DDecl.pures x) _ | exact .fn _ _ _ pure_nil pure_nil | refine .agg _ ?_ | refine .tup _ ?_ | assumption) (by repeat' first | exact pure_nil | refine pure_cons ?_ ?_ | exact .raw _ | exact pure_enc _ | exact pure_lst _ | exact pure_strs _ | exact pure_ints _ | exact DTy.pure _ | exact DTy.pures _ | exact DEnum.pure _ | exact DEnum.pures _ | exact DDecl.pure _ | exact DDecl.pures _ | exact DEq.pure _ | exact DEq.pures _ | exact DNode.pure _ | exact DNode.pures _ | exact DProg.pure _ | exact DProg.pures _ | exact DCond.pure _ | exact DCond.pures _ | exact DAtom.pure _ | exact DAtom.pures _ | exact DPlain.pure _ | exact DPlain.pures _ | exact DFault.pure _ | exact DFault.pures _ | exact pure_list (fun x => DDecl.pures x) _ | exact .fn _ _ _ pure_nil pure_nil | refine .agg _ ?_ | refine .tup _ ?_ | assumption) (n := 65) rfl (rs := [.tmp 4]) rfl ?_
  have hal := allVn hn
  have h1 := hn.1.1
  have h2 := hn.2.1.1
  have hw : IntKind.i64.wrap ((n.Ins.length : Int) + (n.Outs.length : Int)) = (n.Ins.length : Int) + (n.Outs.length : Int) := wrap_in _ (by omega) (by omega)
  repeat' first
    | exact finB rfl
    | exact finI rfl
    | exact finP rfl
    | exact absurd rfl (by assumption)
    | simp only [go_sem]
    | (intro _)
    | refine brK_dec (fun _ => ?_) (fun _ => ?_)
    | refine brK_split (fun hb_ => ?_) (fun hb_ => ?_)
    | refine gK_dec (fun _ => ?_) (fun _ => ?_)
    | refine gK_split (fun hb_ => ?_) (fun hb_ => ?_)
    | refine gqK_dec (fun _ => ?_) (fun _ => ?_)
    | refine ⟨by omega, ?_⟩
    | refine elemHave (by omega) (by assumption) ?_
    | refine elemMap (by omega) (by omega) (fun x hx => ?_)
    | refine drawK mo (by kernel_rfl) ?_
    | (refine PCall.call (all66 n (by omega)) ?_)
    | (refine PCall.call (declX l x) ?_; generalize hdx : declaredF l.length x = b; cases b)
    | (refine PCall.call (eqX x (hn.2.2.2.2.2 _ (List.mem_of_getElem? hx))) ?_; generalize hqx : eqF x = b; cases b)
    | (refine PCall.call (low_x n.Name) ?_; generalize hlx : lowF n.Name = b; cases b)
    | (refine finBq rfl ?_; rw [node_no hx hdx]; done)
    | (refine finBq rfl ?_; rw [node_no2 (bare_no hx (by omega) (by assumption))]; done)
    | (refine finBq rfl ?_; rw [node_no3 hx hqx]; done)
    | (refine finBq rfl ?_; rw [node_yes hpi.1 (by omega) (bare_yes hpi.2 (by omega)) hpj (by omega), hlx]; first | rfl | (simp; done) | (simp; omega))
    | exact loopFrH _ (by omega) ⟨i + 1, by omega, rfl, ⟨take_all hpi.1 (by simpa using hx) hdx, bare_next hpi.2 hx (fun hlt => by first | assumption | omega | exact Classical.not_not.1 (by assumption))⟩, rfl⟩ (.next rfl (by omega) .nil) rfl
    | (refine loop_frH [4, 6, 10, 11, 12, 13, 14, 15, 16, 17, 18, 19, 20, 21, 22, 23, 24, 25, 26, 27, 28, 29, 30, 31, 32, 33, 34, 35, 36, 37, 38, 39, 40, 41] (fun mm_ CC_ => ∃ (i : Nat), i ≤ (allV n).length ∧ mm_ = (allV n).length - i ∧ ((∀ d ∈ (allV n).take i, declaredF l.length d = true) ∧ (∀ d ∈ (n.Ins ++ n.Outs).take i, decide (d.On = ⟨#[]⟩) = true)) ∧ CC_ = [(6, .raw (.int .i64 ((i : Nat) : Int)))]) ((allV n).length) _ ⟨0, by omega, by omega, ⟨by simp, by simp⟩, rfl⟩ (.cons rfl .nil) ?_; rintro mm_ CC_ ji ⟨i, hi, rfl, hpi, rfl⟩)
    | exact loopFrH _ (by omega) ⟨j + 1, by omega, rfl, take_all hpj (by simpa using hx) hqx, rfl⟩ (.next rfl (by omega) .nil) rfl
    | (refine loop_frH [4, 7, 42, 43, 44, 45, 46, 47, 48, 49, 50, 51, 52, 53, 54, 55] (fun mm_ CC_ => ∃ (j : Nat), j ≤ n.Eqs.length ∧ mm_ = n.Eqs.length - j ∧ (∀ q ∈ n.Eqs.take j, eqF q = true) ∧ CC_ = [(7, .raw (.int .i64 ((j : Nat) : Int)))]) (n.Eqs.length) _ ⟨0, by omega, by omega, by simp, rfl⟩ (.cons rfl .nil) ?_; rintro mm_ CC_ jj ⟨j, hj, rfl, hpj, rfl⟩)
def okAX (l : List DEnum) (i : Nat) (a b : List ByteArray) : Prop := okAB i a b ∧ a = (l.take i).map DEnum.Name ∧ b = (l.take i).flatMap DEnum.Ctors ∧ ∀ e ∈ l.take i, e.Ctors.length ≤ 6
theorem okAX.zero {l : List DEnum} : okAX l 0 [] [] := ⟨.zero, by simp, by simp, by simp⟩
theorem okAX.next {l : List DEnum} {i : Nat} {a b : List ByteArray} {x : DEnum} (h : okAX l i a b) (hl : okEnums l) (hx : l[((i : Nat) : Int).toNat]? = some x) (h6 : x.Ctors.length ≤ 6) : okAX l (i + 1) (a ++ [x.Name]) (b ++ x.Ctors) :=
  ⟨h.1.next hl hx, by rw [take_mapS hx, h.2.1], by rw [flatMap_next _ (by simpa using hx), h.2.2.1], take_all h.2.2.2 (by simpa using hx) h6⟩
theorem en_ok {e : DEnum} (h : lowF e.Name = true) (h2 : 0 < e.Ctors.length) : (lowF e.Name && decide (0 < e.Ctors.length)) = true := by simp [h, h2]
theorem en_bad {e : DEnum} {b : Bool} (h : lowF e.Name = b) (h2 : ¬ 0 < e.Ctors.length) : (lowF e.Name && decide (0 < e.Ctors.length)) = false := by rw [decide_eq_false h2, Bool.and_false]
theorem en_bad0 {e : DEnum} (h : lowF e.Name = false) : (lowF e.Name && decide (0 < e.Ctors.length)) = false := by rw [h, Bool.false_and]
theorem n19 : (Tryz.f19.name == "runtime.NumGoroutine") = false := by kernel_rfl
theorem enumsX (l : List DEnum) (hl : okEnums l) : PCall Tryz.prog 19 [.lst 2 (l.map DEnum.enc) none] (.i (enumsF l)) := by
  refine pcall_of_vc tabOK Tryz.func19 n19 rfl (by repeat' first | exact pure_nil | refine pure_cons ?_ ?_ | exact .raw _ | exact pure_enc _ | exact pure_lst _ | exact pure_strs _ | exact pure_ints _ | exact DTy.pure _ | exact DTy.pures _ | exact DEnum.pure _ | exact DEnum.pures _ | exact DDecl.pure _ | exact DDecl.pures _ | exact DEq.pure _ | exact DEq.pures _ | exact DNode.pure _ | exact DNode.pures _ | exact DProg.pure _ | exact DProg.pures _ | exact DCond.pure _ | exact DCond.pures _ | exact DAtom.pure _ | exact DAtom.pures _ | exact DPlain.pure _ | exact DPlain.pures _ | exact DFault.pure _ | exact DFault.pures _ | exact pure_list (fun x => DDecl.pures x) _ | exact .fn _ _ _ pure_nil pure_nil | refine .agg _ ?_ | refine .tup _ ?_ | assumption) (by repeat' first | exact pure_nil | refine pure_cons ?_ ?_ | exact .raw _ | exact pure_enc _ | exact pure_lst _ | exact pure_strs _ | exact pure_ints _ | exact DTy.pure _ | exact DTy.pures _ | exact DEnum.pure _ | exact DEnum.pures _ | exact DDecl.pure _ | exact DDecl.pures _ | exact DEq.pure _ | exact DEq.pures _ | exact DNode.pure _ | exact DNode.pures _ | exact DProg.pure _ | exact DProg.pures _ | exact DCond.pure _ | exact DCond.pures _ | exact DAtom.pure _ | exact DAtom.pures _ | exact DPlain.pure _ | exact DPlain.pures _ | exact DFault.pure _ | exact DFault.pures _ | exact pure_list (fun x => DDecl.pures x) _ | exact .fn _ _ _ pure_nil pure_nil | refine .agg _ ?_ | refine .tup _ ?_ | assumption) (n := 83) rfl (rs := [.tmp 2]) rfl ?_
  have hl8 := hl.1
  repeat' first
    | exact finB rfl
    | exact finI rfl
    | exact finP rfl
    | exact absurd rfl (by assumption)
    | simp only [go_sem]
    | (intro _)
    | refine brK_dec (fun _ => ?_) (fun _ => ?_)
    | refine brK_split (fun hb_ => ?_) (fun hb_ => ?_)
    | refine gK_dec (fun _ => ?_) (fun _ => ?_)
    | refine gK_split (fun hb_ => ?_) (fun hb_ => ?_)
    | refine gqK_dec (fun _ => ?_) (fun _ => ?_)
    | refine ⟨by omega, ?_⟩
    | refine elemHave (by omega) (by assumption) ?_
    | refine elemMap (by omega) (by omega) (fun x hx => ?_)
    | refine drawK mo (by kernel_rfl) ?_
    | (simp only [map_snoc])
    | (simp only [map_app])
    | (refine ⟨by have h8 := hpi.1.1; have h9 := hpi.1.2.1; have h7 := (hl.2 _ (List.mem_of_getElem? hx)).1; first | omega | (simp; omega), ?_⟩)
    | ((fail_if_success (clear hax)); have hax : a = l.map DEnum.Name := (by rw [hpi.2.1, List.take_of_length_le (by omega)]; done); have hbx : b = l.flatMap DEnum.Ctors := (by rw [hpi.2.2.1, List.take_of_length_le (by omega)]; done); have hgx : greatE l = false := en_small (by omega) hpi.2.2.2 (by omega); subst hax hbx)
    | (refine PCall.call (low_x x.Name) ?_; generalize hlx : lowF x.Name = q; cases q)
    | (refine PCall.call (high_x x) ?_; generalize hhx : highF x = q; cases q)
    | (refine PCall.callW (once_x (l.map DEnum.Name)) ⟨.tok _ _ _, trivial⟩ ?_; generalize ho1 : onceB (l.map DEnum.Name) = q; cases q)
    | (refine PCall.callW (once_x (l.flatMap DEnum.Ctors)) ⟨.tok _ _ _, trivial⟩ ?_; generalize ho2 : onceB (l.flatMap DEnum.Ctors) = q; cases q)
    | (refine finIq rfl ?_; rw [en_many (en_great1 (by omega))]; done)
    | (refine finIq rfl ?_; rw [en_many (en_great2 hx (by omega))]; done)
    | (refine finIq rfl ?_; rw [en_arg1 hgx hx (en_bad0 hlx)]; done)
    | (refine finIq rfl ?_; rw [en_arg1 hgx hx (en_bad hlx (by omega))]; done)
    | (refine finIq rfl ?_; rw [en_arg2 hgx hx hhx]; done)
    | (refine finIq rfl ?_; rw [en_end hgx hpj (by omega) hpk (by omega)]; simp [*]; done)
    | exact loopFr _ (by omega) ⟨i + 1, a ++ [x.Name], b ++ x.Ctors, _, by omega, rfl, hpi.next hl hx (by omega), rfl, (by first | rfl | (simp; done) | (simp; rfl))⟩ (.next rfl (by omega) (.cons (by first | rfl | (simp; done) | (simp; rfl)) (.cons (by first | rfl | (simp; done) | (simp; rfl)) .nil))) rfl
    | (refine loop_fr [2, 3, 4, 5, 13, 14, 15, 16, 17, 18, 19, 20, 21, 22, 23, 24, 25, 26, 27, 28, 29, 30, 31, 32, 33, 34, 35, 36, 37, 38, 39, 40] (fun mm_ CC_ hh_ => ∃ (i : Nat) (a : List ByteArray) (b : List ByteArray) (r_ : List Blk), i ≤ l.length ∧ mm_ = l.length - i ∧ (okAX l i a b) ∧ CC_ = [(5, .raw (.int .i64 ((i : Nat) : Int))), (3, .lst 1 (a.map AV.s) (some 0)), (4, .lst 1 (b.map AV.s) (some 1))] ∧ hh_ = .tok 9 1 a.length :: .tok 9 1 b.length :: r_) (l.length) _ ⟨0, [], [], _, by omega, by omega, .zero, rfl, (by first | rfl | (simp; done) | (simp; rfl))⟩ (.cons (by first | rfl | (simp; done) | (simp; rfl)) (.cons (by first | rfl | (simp; done) | (simp; rfl)) (.cons (by first | rfl | (simp; done) | (simp; rfl)) .nil))) ?_; rintro mm_ CC_ ji hh_ ⟨i, a, b, ri, hi, rfl, hpi, rfl, rfl⟩)
    | exact loopFrH _ (by omega) ⟨j + 1, by omega, rfl, take_all hpj (by simpa using hx) (en_ok hlx (by omega)), rfl⟩ (.next rfl (by omega) .nil) rfl
    | (refine loop_frH [2, 6, 41, 42, 43, 44, 45, 46, 47, 48, 49, 50, 51, 52, 53, 54, 55, 56, 57, 58, 59, 60, 61, 62] (fun mm_ CC_ => ∃ (j : Nat), j ≤ l.length ∧ mm_ = l.length - j ∧ (∀ e ∈ l.take j, (lowF e.Name && decide (0 < e.Ctors.length)) = true) ∧ CC_ = [(6, .raw (.int .i64 ((j : Nat) : Int)))]) (l.length) _ ⟨0, by omega, by omega, by simp, rfl⟩ (.cons rfl .nil) ?_; rintro mm_ CC_ jj ⟨j, hj, rfl, hpj, rfl⟩)
    | exact loopFrH _ (by omega) ⟨k + 1, by omega, rfl, take_all hpk (by simpa using hx) hhx, rfl⟩ (.next rfl (by omega) .nil) rfl
    | (refine loop_frH [2, 7, 63, 64, 65, 66, 67, 68, 69, 70, 71, 72, 73, 74] (fun mm_ CC_ => ∃ (k : Nat), k ≤ (l.flatMap DEnum.Ctors).length ∧ mm_ = (l.flatMap DEnum.Ctors).length - k ∧ (∀ c ∈ (l.flatMap DEnum.Ctors).take k, highF c = true) ∧ CC_ = [(7, .raw (.int .i64 ((k : Nat) : Int)))]) ((l.flatMap DEnum.Ctors).length) _ ⟨0, by omega, by omega, by simp, rfl⟩ (.cons rfl .nil) ?_; rintro mm_ CC_ jk ⟨k, hk, rfl, hpk, rfl⟩)
end Go.Proofs.YtidjmcmfgimbfaaGreatDoor

namespace Go.Proofs.YtidjmcmfgimbfaaGreatDoor
open Go.Abs
set_option maxRecDepth 20000
set_option linter.unusedSimpArgs false
set_option linter.unusedVariables false
set_option maxHeartbeats 1000000
attribute [local irreducible] vc vcOps vcStep vcGuard prK hrK gK gsK brK callK ElemK SeqK BlockK ScopeK OpsK CallK LoopK LoopGo finPost ACall PCall PCallE BCall vqOps vqStep vqGuard qrK heK pcK gqK gqsK QOpsK qcallK DrawK
theorem okN_lenX {n : DNode} (h : okNode n) : (allV n).length ≤ 60 := by
  have h1 := h.1.1
  have h2 := h.2.1.1
  have h3 := h.2.2.1.1
  simp [allV]
  omega
def chkX (p : DProg) (i : Nat) (a : List ByteArray) (u v : Bool) : Prop := a = (p.Nodes.take i).map DNode.Name ∧ u = (p.Nodes.take i).all (nodeF p.Enums.length) ∧ v = (p.Nodes.take i).all onceN ∧ ∀ n ∈ p.Nodes.take i, greatF n = false
theorem chkX.zero {p : DProg} : chkX p 0 [] true true := ⟨by simp, by simp, by simp, by simp⟩
theorem chkX.next {p : DProg} {i : Nat} {a : List ByteArray} {u v u' v' : Bool} {n : DNode} (h : chkX p i a u v) (hx : p.Nodes[((i : Nat) : Int).toNat]? = some n) (hg : greatF n = false) (hu : u' = (u && nodeF p.Enums.length n)) (hv : v' = (v && onceN n)) : chkX p (i + 1) (a ++ [n.Name]) u' v' :=
  ⟨by rw [take_mapS hx, h.1], by rw [hu, all_nextZ _ hx, h.2.1], by rw [hv, all_nextZ _ hx, h.2.2.1], take_all h.2.2.2 (by simpa using hx) hg⟩
theorem chk_some {p : DProg} {i : Nat} {n : DNode} (hx : p.Nodes[((i : Nat) : Int).toNat]? = some n) (hg : greatF n = true) : p.Nodes.any greatF = true := List.any_eq_true.2 ⟨n, List.mem_of_getElem? hx, hg⟩
theorem chk_none {p : DProg} {i : Nat} {a : List ByteArray} {u v : Bool} (h : chkX p i a u v) (hi : p.Nodes.length ≤ i) : p.Nodes.any greatF = false ∧ p.Nodes.all (nodeF p.Enums.length) = u ∧ p.Nodes.all onceN = v ∧ p.Nodes.map DNode.Name = a := by
  obtain ⟨h1, h2, h3, h4⟩ := h
  have e : p.Nodes.take i = p.Nodes := List.take_of_length_le hi
  rw [e] at h1 h2 h3 h4
  refine ⟨?_, h2.symm, h3.symm, h1.symm⟩
  rw [List.any_eq_false]
  intro n hn
  rw [h4 n hn]; simp
theorem great_no {n : DNode} (h1 : ¬ ((n.Ins.length : Int) > 6)) (h2 : ¬ ((n.Outs.length : Int) > 6)) (h3 : ¬ ((n.Vars.length : Int) > 12)) (h4 : ¬ ((n.Eqs.length : Int) > 18)) : greatF n = false := by
  unfold greatF
  rw [decide_eq_false (by omega), decide_eq_false (by omega), decide_eq_false (by omega), decide_eq_false (by omega)]
  rfl
theorem great_yes {n : DNode} (h : (n.Ins.length : Int) > 6 ∨ (n.Outs.length : Int) > 6 ∨ (n.Vars.length : Int) > 12 ∨ (n.Eqs.length : Int) > 18) : greatF n = true := by
  unfold greatF
  simp only [Bool.or_eq_true, decide_eq_true_eq]
  omega
theorem onceX (x : DNode) : PCall Tryz.prog 56 [.lst 1 (((allV x).map DDecl.Name).map AV.s) none] (.b (onceN x)) := once_x _
noncomputable def checkG (p : DProg) (en : Int) : Int :=
  if ¬ en = 0 then en
  else if p.Nodes.length = 0 then 5
  else if (decide (p.Nodes.length > 6) || p.Nodes.any greatF) = true then 4
  else if p.Nodes.all (nodeF p.Enums.length) = true then (if (p.Nodes.all onceN && onceB (p.Nodes.map DNode.Name)) = true then 0 else 6) else 1
theorem checkG_eq (p : DProg) : checkF p = checkG p (enumsF p.Enums) := rfl
section
variable {p : DProg} {en : Int}
theorem cg_en (h : en ≠ 0) : checkG p en = en := by unfold checkG; rw [if_pos h]
theorem cg_none (h : ¬ en ≠ 0) (h1 : (p.Nodes.length : Int) = 0) : checkG p en = 5 := by unfold checkG; rw [if_neg h, if_pos (by omega)]
theorem cg_many1 (h : ¬ en ≠ 0) (h1 : ¬ (p.Nodes.length : Int) = 0) (h2 : (p.Nodes.length : Int) > 6) : checkG p en = 4 := by unfold checkG; rw [if_neg h, if_neg (by omega), decide_eq_true (by omega)]; simp
theorem cg_many2 (h : ¬ en ≠ 0) (h1 : ¬ (p.Nodes.length : Int) = 0) (h2 : p.Nodes.any greatF = true) : checkG p en = 4 := by unfold checkG; rw [if_neg h, if_neg (by omega), h2]; simp
theorem cg_arg (h : ¬ en ≠ 0) (h1 : ¬ (p.Nodes.length : Int) = 0) (h2 : ¬ (p.Nodes.length : Int) > 6) {u v : Bool} (f1 : p.Nodes.any greatF = false) (f2 : p.Nodes.all (nodeF p.Enums.length) = u) (f3 : p.Nodes.all onceN = v) (hu : (!u) = true) : checkG p en = 1 := by
  unfold checkG; rw [if_neg h, if_neg (by omega), decide_eq_false (by omega), f1, f2, f3]; simp at hu; simp [hu]
theorem cg_there1 (h : ¬ en ≠ 0) (h1 : ¬ (p.Nodes.length : Int) = 0) (h2 : ¬ (p.Nodes.length : Int) > 6) {u v : Bool} (f1 : p.Nodes.any greatF = false) (f2 : p.Nodes.all (nodeF p.Enums.length) = u) (f3 : p.Nodes.all onceN = v) (hu : ¬ (!u) = true) (hv : (!v) = true) : checkG p en = 6 := by
  unfold checkG; rw [if_neg h, if_neg (by omega), decide_eq_false (by omega), f1, f2, f3]; simp at hu hv; simp [hu, hv]
theorem cg_there2 (h : ¬ en ≠ 0) (h1 : ¬ (p.Nodes.length : Int) = 0) (h2 : ¬ (p.Nodes.length : Int) > 6) {u v : Bool} (f1 : p.Nodes.any greatF = false) (f2 : p.Nodes.all (nodeF p.Enums.length) = u) (f3 : p.Nodes.all onceN = v) (hu : ¬ (!u) = true) (hv : ¬ (!v) = true) (hw : onceB (p.Nodes.map DNode.Name) = false) : checkG p en = 6 := by
  unfold checkG; rw [if_neg h, if_neg (by omega), decide_eq_false (by omega), f1, f2, f3]; simp at hu hv; simp [hu, hv, hw]
theorem cg_ok (h : ¬ en ≠ 0) (h1 : ¬ (p.Nodes.length : Int) = 0) (h2 : ¬ (p.Nodes.length : Int) > 6) {u v : Bool} (f1 : p.Nodes.any greatF = false) (f2 : p.Nodes.all (nodeF p.Enums.length) = u) (f3 : p.Nodes.all onceN = v) (hu : ¬ (!u) = true) (hv : ¬ (!v) = true) (hw : onceB (p.Nodes.map DNode.Name) = true) : checkG p en = 0 := by
  unfold checkG; rw [if_neg h, if_neg (by omega), decide_eq_false (by omega), f1, f2, f3]; simp at hu hv; simp [hu, hv, hw]
end
theorem n49 : (Tryz.f49.name == "runtime.NumGoroutine") = false := by kernel_rfl
theorem checkX (p : DProg) (hp : okProg p) : PCall Tryz.prog 49 [p.enc] (.i (checkF p)) := by
  refine pcall_of_vc tabOK Tryz.func49 n49 rfl (by repeat' first | exact pure_nil | refine pure_cons ?_ ?_ | exact .raw _ | exact pure_enc _ | exact pure_lst _ | exact pure_strs _ | exact pure_ints _ | exact DTy.pure _ | exact DTy.pures _ | exact DEnum.pure _ | exact DEnum.pures _ | exact DDecl.pure _ | exact DDecl.pures _ | exact DEq.pure _ | exact DEq.pures _ | exact DNode.pure _ | exact DNode.pures _ | exact DProg.pure _ | exact DProg.pures _ | exact DCond.pure _ | exact DCond.pures _ | exact DAtom.pure _ | exact DAtom.pures _ | exact DPlain.pure _ | exact DPlain.pures _ | exact DFault.pure _ | exact DFault.pures _ | exact pure_list (fun x => DDecl.pures x) _ | exact .fn _ _ _ pure_nil pure_nil | refine .agg _ ?_ | refine .tup _ ?_ | assumption) (by repeat' first | exact pure_nil | refine pure_cons ?_ ?_ | exact .raw _ | exact pure_enc _ | exact pure_lst _ | exact pure_strs _ | exact pure_ints _ | exact DTy.pure _ | exact DTy.pures _ | exact DEnum.pure _ | exact DEnum.pures _ | exact DDecl.pure _ | exact DDecl.pures _ | exact DEq.pure _ | exact DEq.pures _ | exact DNode.pure _ | exact DNode.pures _ | exact DProg.pure _ | exact DProg.pures _ | exact DCond.pure _ | exact DCond.pures _ | exact DAtom.pure _ | exact DAtom.pures _ | exact DPlain.pure _ | exact DPlain.pures _ | exact DFault.pure _ | exact DFault.pures _ | exact pure_list (fun x => DDecl.pures x) _ | exact .fn _ _ _ pure_nil pure_nil | refine .agg _ ?_ | refine .tup _ ?_ | assumption) (n := 86) rfl (rs := [.tmp 2]) rfl ?_
  have hpn := hp.2.1
  rw [checkG_eq]
  repeat' first
    | exact finB rfl
    | exact finI rfl
    | exact finP rfl
    | exact absurd rfl (by assumption)
    | simp only [go_sem]
    | (intro _)
    | refine brK_dec (fun _ => ?_) (fun _ => ?_)
    | refine brK_split (fun hb_ => ?_) (fun hb_ => ?_)
    | refine gK_dec (fun _ => ?_) (fun _ => ?_)
    | refine gK_split (fun hb_ => ?_) (fun hb_ => ?_)
    | refine gqK_dec (fun _ => ?_) (fun _ => ?_)
    | refine ⟨by omega, ?_⟩
    | refine elemHave (by omega) (by assumption) ?_
    | refine elemMap (by omega) (by omega) (fun x hx => ?_)
    | refine drawK mo (by kernel_rfl) ?_
    | (refine PCall.call (enumsX _ hp.1) ?_; generalize enumsF p.Enums = en)
    | (simp only [map_snoc])
    | (refine PCall.call (all66 x (by have := okN_lenX (hp.2.2 _ (List.mem_of_getElem? hx)); omega)) ?_)
    | (refine PCall.call (names83 _ (by have := okN_lenX (hp.2.2 _ (List.mem_of_getElem? hx)); omega)) ?_)
    | (refine PCall.call (nodeX _ x (hp.2.2 _ (List.mem_of_getElem? hx))) ?_; generalize hnx : nodeF p.Enums.length x = b; cases b)
    | (refine PCall.call (onceX x) ?_; generalize hox : onceN x = b; cases b)
    | ((fail_if_success (clear hfin)); have hfin := chk_none hpi.2 (by omega); obtain ⟨f1, f2, f3, f4⟩ := hfin; have hfin := f1; subst f4)
    | (refine PCall.callW (once_x (p.Nodes.map DNode.Name)) ⟨.tok _ _ _, trivial⟩ ?_; generalize hwx : onceB (p.Nodes.map DNode.Name) = b; cases b)
    | (refine ⟨by first | omega | (simp; omega), ?_⟩)
    | (exact finIq rfl (cg_en (p := p) (en := en) (by assumption)).symm)
    | (exact finIq rfl (cg_none (p := p) (en := en) (by assumption) (by assumption)).symm)
    | (exact finIq rfl (cg_many1 (p := p) (en := en) (by assumption) (by assumption) (by assumption)).symm)
    | (have hgr := great_yes (n := x) (by omega); exact finIq rfl (cg_many2 (p := p) (en := en) (by assumption) (by assumption) (chk_some hx hgr)).symm)
    | (refine finIq rfl (cg_arg (p := p) (en := en) (by assumption) (by assumption) (by assumption) f1 f2 f3 ?_).symm; first | assumption | (simp [*]; done))
    | (refine finIq rfl (cg_there1 (p := p) (en := en) (by assumption) (by assumption) (by assumption) f1 f2 f3 ?_ ?_).symm <;> first | assumption | (simp [*]; done))
    | (refine finIq rfl (cg_there2 (p := p) (en := en) (by assumption) (by assumption) (by assumption) f1 f2 f3 ?_ ?_ hwx).symm <;> first | assumption | (simp [*]; done))
    | (refine finIq rfl (cg_ok (p := p) (en := en) (by assumption) (by assumption) (by assumption) f1 f2 f3 ?_ ?_ hwx).symm <;> first | assumption | (simp [*]; done))
    | exact loopFr _ (by omega) ⟨i + 1, a ++ [x.Name], (Bool.and u (nodeF p.Enums.length x)), (Bool.and v (onceN x)), _, by omega, rfl, ⟨by have := hpi.1 <;> simp <;> omega, hpi.2.next hx (great_no (by assumption) (by assumption) (by assumption) (by assumption)) rfl rfl⟩, rfl, (by first | rfl | (simp; done) | (simp; rfl) | (simp [*]))⟩ (.next rfl (by omega) (.cons (by first | rfl | (simp; done) | (simp; rfl) | (simp [*])) (.cons (by first | rfl | (simp; done) | (simp; rfl) | (simp [*])) (.cons (by first | rfl | (simp; done) | (simp; rfl) | (simp [*])) .nil)))) rfl
    | (refine loop_fr [2, 4, 5, 6, 7, 8, 24, 25, 26, 27, 28, 29, 30, 31, 32, 33, 34, 35, 36, 37, 38, 39, 40, 41, 42, 43, 44, 45, 46, 47, 48, 49, 50, 51, 52, 53, 54, 55, 56, 57, 58, 59, 60, 61, 62, 63, 64, 65, 66, 67, 68, 69, 70, 71, 72, 73, 74, 75, 76] (fun mm_ CC_ hh_ => ∃ (i : Nat) (a : List ByteArray) (u : Bool) (v : Bool) (r_ : List Blk), i ≤ p.Nodes.length ∧ mm_ = p.Nodes.length - i ∧ ((a.length ≤ i ∧ chkX p i a u v)) ∧ CC_ = [(7, .raw (.int .i64 ((i : Nat) : Int))), (4, .lst 1 (a.map AV.s) (some 1)), (5, .b u), (6, .b v)] ∧ hh_ = progBc p :: .tok 9 1 a.length :: r_) (p.Nodes.length) _ ⟨0, [], _, _, _, by omega, by omega, ⟨by simp, chkX.zero⟩, rfl, (by first | rfl | (simp; done) | (simp; rfl))⟩ (.cons (by first | rfl | (simp; done) | (simp; rfl)) (.cons (by first | rfl | (simp; done) | (simp; rfl)) (.cons (by first | rfl | (simp; done) | (simp; rfl)) (.cons (by first | rfl | (simp; done) | (simp; rfl)) .nil)))) ?_; rintro mm_ CC_ ji hh_ ⟨i, a, u, v, ri, hi, rfl, hpi, rfl, rfl⟩)
end Go.Proofs.YtidjmcmfgimbfaaGreatDoor

namespace Go.Proofs.YtidjmcmfgimbfaaGreatDoor
open Go.Abs
set_option maxRecDepth 20000
set_option linter.unusedSimpArgs false
set_option linter.unusedVariables false
set_option maxHeartbeats 1000000
attribute [local irreducible] vc vcOps vcStep vcGuard prK hrK gK gsK brK callK ElemK SeqK BlockK ScopeK OpsK CallK LoopK LoopGo finPost ACall PCall PCallE BCall vqOps vqStep vqGuard qrK heK pcK gqK gqsK QOpsK qcallK DrawK
theorem n90 : (Tryz.f90.name == "runtime.NumGoroutine") = false := by kernel_rfl
theorem is90 (n : DNode) (s : ByteArray) (hl : (allV n).length ≤ 60) : PCall Tryz.prog 90 [n.enc, .s s] (.b (isF n s)) := by
  refine pcall_of_vc tabOK Tryz.func90 n90 rfl (by repeat' first | exact pure_nil | refine pure_cons ?_ ?_ | exact .raw _ | exact pure_enc _ | exact pure_lst _ | exact pure_strs _ | exact pure_ints _ | exact DTy.pure _ | exact DTy.pures _ | exact DEnum.pure _ | exact DEnum.pures _ | exact DDecl.pure _ | exact DDecl.pures _ | exact DEq.pure _ | exact DEq.pures _ | exact DNode.pure _ | exact DNode.pures _ | exact DProg.pure _ | exact DProg.pures _ | exact DCond.pure _ | exact DCond.pures _ | exact DAtom.pure _ | exact DAtom.pures _ | exact DPlain.pure _ | exact DPlain.pures _ | exact DFault.pure _ | exact DFault.pures _ | exact pure_list (fun x => DDecl.pures x) _ | exact .fn _ _ _ pure_nil pure_nil | refine .agg _ ?_ | refine .tup _ ?_ | assumption) (by repeat' first | exact pure_nil | refine pure_cons ?_ ?_ | exact .raw _ | exact pure_enc _ | exact pure_lst _ | exact pure_strs _ | exact pure_ints _ | exact DTy.pure _ | exact DTy.pures _ | exact DEnum.pure _ | exact DEnum.pures _ | exact DDecl.pure _ | exact DDecl.pures _ | exact DEq.pure _ | exact DEq.pures _ | exact DNode.pure _ | exact DNode.pures _ | exact DProg.pure _ | exact DProg.pures _ | exact DCond.pure _ | exact DCond.pures _ | exact DAtom.pure _ | exact DAtom.pures _ | exact DPlain.pure _ | exact DPlain.pures _ | exact DFault.pure _ | exact DFault.pures _ | exact pure_list (fun x => DDecl.pures x) _ | exact .fn _ _ _ pure_nil pure_nil | refine .agg _ ?_ | refine .tup _ ?_ | assumption) (n := 14) rfl (rs := [.tmp 4]) rfl ?_
  repeat' first
    | exact finB rfl
    | exact finI rfl
    | exact finP rfl
    | exact absurd rfl (by assumption)
    | simp only [go_sem]
    | (intro _)
    | refine brK_dec (fun _ => ?_) (fun _ => ?_)
    | refine brK_any ?_ ?_
    | refine gK_dec (fun _ => ?_) (fun _ => ?_)
    | refine gK_any ?_ ?_
    | refine gqK_dec (fun _ => ?_) (fun _ => ?_)
    | refine ⟨by omega, ?_⟩
    | refine elemHave (by omega) (by assumption) ?_
    | refine elemMap (by omega) (by omega) (fun x hx => ?_)
    | refine drawK mo (by kernel_rfl) ?_
    | (refine PCall.call (decl26 n s (by omega)) ?_; unfold isF; generalize decl n s = d; obtain ⟨d, ok⟩ := d)
    | (exact finBq rfl rfl)
theorem n91 : (Tryz.f91.name == "runtime.NumGoroutine") = false := by kernel_rfl
theorem armX15 (p : DProg) (s : ByteArray) : PCall Tryz.prog 91 [p.enc, .s s] (.b (armOk p.Enums s)) := by
  refine pcall_of_vc tabOK Tryz.func91 n91 rfl (by repeat' first | exact pure_nil | refine pure_cons ?_ ?_ | exact .raw _ | exact pure_enc _ | exact pure_lst _ | exact pure_strs _ | exact pure_ints _ | exact DTy.pure _ | exact DTy.pures _ | exact DEnum.pure _ | exact DEnum.pures _ | exact DDecl.pure _ | exact DDecl.pures _ | exact DEq.pure _ | exact DEq.pures _ | exact DNode.pure _ | exact DNode.pures _ | exact DProg.pure _ | exact DProg.pures _ | exact DCond.pure _ | exact DCond.pures _ | exact DAtom.pure _ | exact DAtom.pures _ | exact DPlain.pure _ | exact DPlain.pures _ | exact DFault.pure _ | exact DFault.pures _ | exact pure_list (fun x => DDecl.pures x) _ | exact .fn _ _ _ pure_nil pure_nil | refine .agg _ ?_ | refine .tup _ ?_ | assumption) (by repeat' first | exact pure_nil | refine pure_cons ?_ ?_ | exact .raw _ | exact pure_enc _ | exact pure_lst _ | exact pure_strs _ | exact pure_ints _ | exact DTy.pure _ | exact DTy.pures _ | exact DEnum.pure _ | exact DEnum.pures _ | exact DDecl.pure _ | exact DDecl.pures _ | exact DEq.pure _ | exact DEq.pures _ | exact DNode.pure _ | exact DNode.pures _ | exact DProg.pure _ | exact DProg.pures _ | exact DCond.pure _ | exact DCond.pures _ | exact DAtom.pure _ | exact DAtom.pures _ | exact DPlain.pure _ | exact DPlain.pures _ | exact DFault.pure _ | exact DFault.pures _ | exact pure_list (fun x => DDecl.pures x) _ | exact .fn _ _ _ pure_nil pure_nil | refine .agg _ ?_ | refine .tup _ ?_ | assumption) (n := 17) rfl (rs := [.tmp 4]) rfl ?_
  repeat' first
    | exact finB rfl
    | exact finI rfl
    | exact finP rfl
    | exact absurd rfl (by assumption)
    | simp only [go_sem]
    | (intro _)
    | refine brK_dec (fun _ => ?_) (fun _ => ?_)
    | refine brK_any ?_ ?_
    | refine gK_dec (fun _ => ?_) (fun _ => ?_)
    | refine gK_any ?_ ?_
    | refine gqK_dec (fun _ => ?_) (fun _ => ?_)
    | refine ⟨by omega, ?_⟩
    | refine elemHave (by omega) (by assumption) ?_
    | refine elemMap (by omega) (by omega) (fun x hx => ?_)
    | refine drawK mo (by kernel_rfl) ?_
    | (refine PCall.call (arm91 p.Enums s) ?_; unfold armOk; generalize armF p.Enums s = d; obtain ⟨t, v, ok⟩ := d)
    | (exact finBq rfl rfl)
theorem n138 : (Tryz.f138.name == "runtime.NumGoroutine") = false := by kernel_rfl
theorem input142 (n : DNode) (s : ByteArray) : PCall Tryz.prog 138 [n.enc, .s s] (.b (inF n s)) := by
  refine pcall_of_vc tabOK Tryz.func138 n138 rfl (by repeat' first | exact pure_nil | refine pure_cons ?_ ?_ | exact .raw _ | exact pure_enc _ | exact pure_lst _ | exact pure_strs _ | exact pure_ints _ | exact DTy.pure _ | exact DTy.pures _ | exact DEnum.pure _ | exact DEnum.pures _ | exact DDecl.pure _ | exact DDecl.pures _ | exact DEq.pure _ | exact DEq.pures _ | exact DNode.pure _ | exact DNode.pures _ | exact DProg.pure _ | exact DProg.pures _ | exact DCond.pure _ | exact DCond.pures _ | exact DAtom.pure _ | exact DAtom.pures _ | exact DPlain.pure _ | exact DPlain.pures _ | exact DFault.pure _ | exact DFault.pures _ | exact pure_list (fun x => DDecl.pures x) _ | exact .fn _ _ _ pure_nil pure_nil | refine .agg _ ?_ | refine .tup _ ?_ | assumption) (by repeat' first | exact pure_nil | refine pure_cons ?_ ?_ | exact .raw _ | exact pure_enc _ | exact pure_lst _ | exact pure_strs _ | exact pure_ints _ | exact DTy.pure _ | exact DTy.pures _ | exact DEnum.pure _ | exact DEnum.pures _ | exact DDecl.pure _ | exact DDecl.pures _ | exact DEq.pure _ | exact DEq.pures _ | exact DNode.pure _ | exact DNode.pures _ | exact DProg.pure _ | exact DProg.pures _ | exact DCond.pure _ | exact DCond.pures _ | exact DAtom.pure _ | exact DAtom.pures _ | exact DPlain.pure _ | exact DPlain.pures _ | exact DFault.pure _ | exact DFault.pures _ | exact pure_list (fun x => DDecl.pures x) _ | exact .fn _ _ _ pure_nil pure_nil | refine .agg _ ?_ | refine .tup _ ?_ | assumption) (n := 21) rfl (rs := [.tmp 4]) rfl ?_
  repeat' first
    | exact finB rfl
    | exact finI rfl
    | exact finP rfl
    | exact absurd rfl (by assumption)
    | simp only [go_sem]
    | (intro _)
    | refine brK_dec (fun _ => ?_) (fun _ => ?_)
    | refine brK_any ?_ ?_
    | refine gK_dec (fun _ => ?_) (fun _ => ?_)
    | refine gK_any ?_ ?_
    | refine gqK_dec (fun _ => ?_) (fun _ => ?_)
    | refine ⟨by omega, ?_⟩
    | refine elemHave (by omega) (by assumption) ?_
    | refine elemMap (by omega) (by omega) (fun x hx => ?_)
    | refine drawK mo (by kernel_rfl) ?_
    | (refine finBq rfl ?_; unfold inF; rw [List.any_eq_true.2 ⟨x, List.mem_of_getElem? hx, by simpa using (by assumption)⟩]; done)
    | (refine finBq rfl ?_; unfold inF; rw [List.any_eq_false.2 (fun d hd => by rw [take_full hpi (by omega) d hd]; simp)]; done)
    | exact loopFrH _ (by omega) ⟨i + 1, by omega, rfl, take_all hpi (by simpa using hx) (decide_eq_false (by assumption)), rfl⟩ (.next rfl (by omega) .nil) rfl
    | (refine loop_frH [4, 5, 6, 7, 8, 9, 10, 11, 12, 13, 14, 15, 16, 17, 18, 19, 20] (fun mm_ CC_ => ∃ (i : Nat), i ≤ n.Ins.length ∧ mm_ = n.Ins.length - i ∧ (∀ d ∈ n.Ins.take i, decide (d.Name = s) = false) ∧ CC_ = [(5, .raw (.int .i64 ((i : Nat) : Int)))]) (n.Ins.length) _ ⟨0, by omega, by omega, by simp, rfl⟩ (.cons rfl .nil) ?_; rintro mm_ CC_ ji ⟨i, hi, rfl, hpi, rfl⟩)
theorem flatN_len {l : List DEq} (h : ∀ q ∈ l, okEq q) : (l.flatMap DEq.Names).length ≤ 20 * l.length := by
  induction l with
  | nil => simp
  | cons e L ih =>
    have h1 := (h e List.mem_cons_self).1
    have h2 := ih fun x hx => h x (List.mem_cons_of_mem _ hx)
    rw [List.flatMap_cons, List.length_append, List.length_cons]
    omega
theorem flatN_take {l : List DEq} (k : Nat) : ((l.take k).flatMap DEq.Names).length ≤ (l.flatMap DEq.Names).length := by
  have : l.flatMap DEq.Names = (l.take k).flatMap DEq.Names ++ (l.drop k).flatMap DEq.Names := by rw [← List.flatMap_append, List.take_append_drop]
  rw [this]; simp
theorem cntN_step {l : List DEq} {i : Nat} {q : DEq} (s : ByteArray) (hq : l[i]? = some q) : cntL s ((l.take (i + 1)).flatMap DEq.Names) = cntL s ((l.take i).flatMap DEq.Names) + cntL s q.Names := by
  rw [flatMap_next _ hq, cntL_append]
theorem n93 : (Tryz.f93.name == "runtime.NumGoroutine") = false := by kernel_rfl
theorem defined93 (n : DNode) (hn : okNode n) (s : ByteArray) (k : Nat) (hk : k ≤ n.Eqs.length) : PCall Tryz.prog 93 [n.enc, .s s, .i (k : Int)] (.i (cntL s ((n.Eqs.take k).flatMap DEq.Names) : Nat)) := by
  have hfl := flatN_len hn.2.2.2.2.2
  have h4 := hn.2.2.2.1
  refine pcall_of_vc tabOK Tryz.func93 n93 rfl (by repeat' first | exact pure_nil | refine pure_cons ?_ ?_ | exact .raw _ | exact pure_enc _ | exact pure_lst _ | exact pure_strs _ | exact pure_ints _ | exact DTy.pure _ | exact DTy.pures _ | exact DEnum.pure _ | exact DEnum.pures _ | exact DDecl.pure _ | exact DDecl.pures _ | exact DEq.pure _ | exact DEq.pures _ | exact DNode.pure _ | exact DNode.pures _ | exact DProg.pure _ | exact DProg.pures _ | exact DCond.pure _ | exact DCond.pures _ | exact DAtom.pure _ | exact DAtom.pures _ | exact DPlain.pure _ | exact DPlain.pures _ | exact DFault.pure _ | exact DFault.pures _ | exact pure_list (fun x => DDecl.pures x) _ | exact .fn _ _ _ pure_nil pure_nil | refine .agg _ ?_ | refine .tup _ ?_ | assumption) (by repeat' first | exact pure_nil | refine pure_cons ?_ ?_ | exact .raw _ | exact pure_enc _ | exact pure_lst _ | exact pure_strs _ | exact pure_ints _ | exact DTy.pure _ | exact DTy.pures _ | exact DEnum.pure _ | exact DEnum.pures _ | exact DDecl.pure _ | exact DDecl.pures _ | exact DEq.pure _ | exact DEq.pures _ | exact DNode.pure _ | exact DNode.pures _ | exact DProg.pure _ | exact DProg.pures _ | exact DCond.pure _ | exact DCond.pures _ | exact DAtom.pure _ | exact DAtom.pures _ | exact DPlain.pure _ | exact DPlain.pures _ | exact DFault.pure _ | exact DFault.pures _ | exact pure_list (fun x => DDecl.pures x) _ | exact .fn _ _ _ pure_nil pure_nil | refine .agg _ ?_ | refine .tup _ ?_ | assumption) (n := 40) rfl (rs := [.tmp 6]) rfl ?_
  simp only [go_sem]
  refine loop_frH [7, 8, 9, 10, 11, 12, 13, 14, 15, 16, 17, 18, 19, 20, 21, 22, 23, 24, 25, 26, 27, 28, 29, 30, 31, 32, 33, 34, 35, 36, 37, 38] (fun m C => ∃ i : Nat, i ≤ k ∧ m = k - i ∧ C = [(8, .raw (.int .i64 (i : Nat))), (7, .raw (.int .i64 ((cntL s ((n.Eqs.take i).flatMap DEq.Names) : Nat) : Int)))]) k _ ⟨0, by omega, by omega, rfl⟩ (.cons rfl (.cons rfl .nil)) ?_
  rintro m C ja ⟨i, hi, rfl, rfl⟩
  simp only [go_sem]
  refine brK_dec (fun hlt => ?_) (fun hge => ?_)
  · obtain ⟨q, hq⟩ : ∃ q, n.Eqs[i]? = some q := ⟨_, List.getElem?_eq_getElem (by omega)⟩
    have hst := cntN_step s hq
    have hb := cntL_le s ((n.Eqs.take (i + 1)).flatMap DEq.Names)
    have hb2 := flatN_take (l := n.Eqs) (i + 1)
    have hq20 := (hn.2.2.2.2.2 q (List.mem_of_getElem? hq)).1
    simp only [go_sem]
    refine loop_frH [7, 9, 15, 16, 17, 18, 19, 20, 21, 22, 23, 24, 25, 26, 27, 28, 29, 30, 31, 32, 33, 34, 35, 36, 37, 38] (fun m C => ∃ j : Nat, j ≤ q.Names.length ∧ m = q.Names.length - j ∧ C = [(9, .raw (.int .i64 (j : Nat))), (7, .raw (.int .i64 ((cntL s ((n.Eqs.take i).flatMap DEq.Names) + cntL s (q.Names.take j) : Nat) : Int)))]) q.Names.length _ ⟨0, by omega, by omega, rfl⟩ (.cons rfl (.cons rfl .nil)) ?_
    rintro m C jb ⟨j, hj, rfl, rfl⟩
    simp only [go_sem]
    refine elemHave (by omega) hq ?_
    simp only [go_sem]
    intro _
    refine brK_dec (fun hlt2 => ?_) (fun hge2 => ?_)
    · have hc := cntL_take (s := s) (l := q.Names) (k := j) (by omega)
      have hc2 := cntL_take_le s q.Names (j + 1)
      simp only [go_sem]
      refine elemHave (by omega) hq ?_
      simp only [go_sem]
      refine elemMap (by omega) (by omega) (fun x hx => ?_)
      have hxe : q.Names[j]'(by omega) = x := by
        have h := List.getElem?_eq_some_iff.1 hx
        obtain ⟨_, h⟩ := h
        simpa using h
      rw [hxe] at hc
      simp only [go_sem]
      refine brK_dec (fun he => ?_) (fun he => ?_)
      · rw [if_pos he] at hc
        simp only [go_sem]
        rw [wrap_in _ (by omega) (by omega)]
        exact loopFrH _ (by omega) ⟨j + 1, by omega, rfl, rfl⟩ (.next rfl (by omega) (.cons (by rw [hc]; simp; omega) .nil)) rfl
      · rw [if_neg he] at hc
        simp only [go_sem]
        exact loopFrH _ (by omega) ⟨j + 1, by omega, rfl, rfl⟩ (.next rfl (by omega) (.cons (by rw [hc]; rfl) .nil)) rfl
    · have hjl : j = q.Names.length := by omega
      subst hjl
      simp only [go_sem]
      exact loopFrH _ (by omega) ⟨i + 1, by omega, rfl, rfl⟩ (.next rfl (by omega) (.cons (by rw [hst, List.take_length]; rfl) .nil)) rfl
  · have hik : i = k := by omega
    subst hik
    simp only [go_sem]
    exact finIq rfl rfl
theorem n139 : (Tryz.f139.name == "runtime.NumGoroutine") = false := by kernel_rfl
theorem part143 (p : DProg) (j : Nat) (n : DNode) (hj : p.Nodes[j]? = some n) (hl : (allV n).length ≤ 60) (e : Ex) : PCall Tryz.prog 139 [p.enc, .i (j : Int), e.enc] (.b (leadsF p (j : Int) n e)) := by
  refine pcall_of_vc tabOK Tryz.func139 n139 rfl (by repeat' first | exact pure_nil | refine pure_cons ?_ ?_ | exact .raw _ | exact pure_enc _ | exact pure_lst _ | exact pure_strs _ | exact pure_ints _ | exact DTy.pure _ | exact DTy.pures _ | exact DEnum.pure _ | exact DEnum.pures _ | exact DDecl.pure _ | exact DDecl.pures _ | exact DEq.pure _ | exact DEq.pures _ | exact DNode.pure _ | exact DNode.pures _ | exact DProg.pure _ | exact DProg.pures _ | exact DCond.pure _ | exact DCond.pures _ | exact DAtom.pure _ | exact DAtom.pures _ | exact DPlain.pure _ | exact DPlain.pures _ | exact DFault.pure _ | exact DFault.pures _ | exact pure_list (fun x => DDecl.pures x) _ | exact .fn _ _ _ pure_nil pure_nil | refine .agg _ ?_ | refine .tup _ ?_ | assumption) (by repeat' first | exact pure_nil | refine pure_cons ?_ ?_ | exact .raw _ | exact pure_enc _ | exact pure_lst _ | exact pure_strs _ | exact pure_ints _ | exact DTy.pure _ | exact DTy.pures _ | exact DEnum.pure _ | exact DEnum.pures _ | exact DDecl.pure _ | exact DDecl.pures _ | exact DEq.pure _ | exact DEq.pures _ | exact DNode.pure _ | exact DNode.pures _ | exact DProg.pure _ | exact DProg.pures _ | exact DCond.pure _ | exact DCond.pures _ | exact DAtom.pure _ | exact DAtom.pures _ | exact DPlain.pure _ | exact DPlain.pures _ | exact DFault.pure _ | exact DFault.pures _ | exact pure_list (fun x => DDecl.pures x) _ | exact .fn _ _ _ pure_nil pure_nil | refine .agg _ ?_ | refine .tup _ ?_ | assumption) (n := 74) rfl (rs := [.tmp 6]) rfl ?_
  repeat' first
    | exact finB rfl
    | exact finI rfl
    | exact finP rfl
    | exact absurd rfl (by assumption)
    | simp only [go_sem]
    | (intro _)
    | refine brK_dec (fun _ => ?_) (fun _ => ?_)
    | refine brK_split (fun hb_ => ?_) (fun hb_ => ?_)
    | refine gK_dec (fun _ => ?_) (fun _ => ?_)
    | refine gK_split (fun hb_ => ?_) (fun hb_ => ?_)
    | refine gqK_dec (fun _ => ?_) (fun _ => ?_)
    | refine ⟨by omega, ?_⟩
    | refine elemHave (by omega) (by assumption) ?_
    | refine elemMap (by omega) (by omega) (fun x hx => ?_)
    | refine drawK mo (by kernel_rfl) ?_
    | (exfalso; omega)
    | (refine elemHave (by omega) hj ?_)
    | (refine PCall.call (is90 n e.name hl) ?_; generalize hix : isF n e.name = b; cases b)
    | (refine pcK_of (armX15 p x) ?_; generalize hax : armOk p.Enums x = b; cases b)
    | (refine PCall.call (armX15 p e.name) ?_)
    | (refine PCall.call (find24 p e.name) ?_)
    | (refine finBq rfl ?_; unfold leadsF; rw [List.all_eq_false.2 ⟨x, List.mem_of_getElem? hx, by simp [hax]⟩]; rfl)
    | (refine finBq rfl ?_; unfold leadsF; rw [if_pos (by omega), hix]; simp; done)
    | (have hall := List.all_eq_true.2 (take_full hpi (by omega)); refine finBq rfl ?_; unfold leadsF; rw [hall]; simp [*]; done)
    | (have hall := List.all_eq_true.2 (take_full hpi (by omega)); refine finBq rfl ?_; unfold leadsF; rw [hall]; simp [*]; omega)
    | exact loopFrH _ (by omega) ⟨i + 1, by omega, rfl, take_all hpi (by simpa using hx) hax, rfl⟩ (.next rfl (by omega) .nil) rfl
    | (refine loop_frH [6, 8, 35, 36, 37, 38, 39, 40, 41, 42, 43, 44, 45, 46, 47, 48, 49] (fun mm_ CC_ => ∃ (i : Nat), i ≤ e.arms.length ∧ mm_ = e.arms.length - i ∧ (∀ s ∈ e.arms.take i, armOk p.Enums s = true) ∧ CC_ = [(8, .raw (.int .i64 ((i : Nat) : Int)))]) (e.arms.length) _ ⟨0, by omega, by omega, by simp, rfl⟩ (.cons rfl .nil) ?_; rintro mm_ CC_ ji ⟨i, hi, rfl, hpi, rfl⟩)
theorem eqErr_n {p : DProg} {a : Int} {n : DNode} {D : List ByteArray} {q : DEq} {E : Int} (h : namesErr n D q.Names = E) (hE : ¬ E = 0) : eqErr p a n D q = E := by
  subst h
  unfold eqErr
  rw [if_neg hE]
theorem eqErr_p {p : DProg} {a : Int} {n : DNode} {D : List ByteArray} {q : DEq} (h : namesErr n D q.Names = 0) {b : Bool} (hb : (parts q.E).all (leadsF p a n) = b) : eqErr p a n D q = if b = true then 0 else 5 := by
  unfold eqErr
  rw [if_pos h, hb]
theorem cnt_no {s : ByteArray} {l : List ByteArray} (h : ¬ ((cntL s l : Nat) : Int) > 0) : s ∉ l := fun hm => by have := cntL_mem hm; omega
theorem cnt_yes {s : ByteArray} {l : List ByteArray} (h : ((cntL s l : Nat) : Int) > 0) : s ∈ l := by
  by_cases q : s ∈ l
  · exact q
  · have := cntL_zero q; omega
theorem not_both {s : ByteArray} {D l : List ByteArray} {k jj : Nat} (h1 : ¬ ((cntL s D : Nat) : Int) > 0) (h2 : ∀ x, l[k]? = some x → x ∉ l.take jj) (hs : l[((k : Nat) : Int).toNat]? = some s) (hk : jj = k) : s ∉ D ++ l.take k := by
  rw [List.mem_append]
  rintro (h | h)
  · exact cnt_no h1 h
  · subst hk; exact h2 s (by simpa using hs) h
theorem n92 : (Tryz.f92.name == "runtime.NumGoroutine") = false := by kernel_rfl
theorem eq92 (p : DProg) (j : Nat) (n : DNode) (hj : p.Nodes[j]? = some n) (hn : okNode n) (i : Nat) (q : DEq) (hq : n.Eqs[i]? = some q) : PCall Tryz.prog 92 [p.enc, .i (j : Int), .i (i : Int)] (.i (eqErr p (j : Int) n ((n.Eqs.take i).flatMap DEq.Names) q)) := by
  have hl := okN_lenX hn
  have hqo := hn.2.2.2.2.2 q (List.mem_of_getElem? hq)
  have hpl := hqo.2.1.1
  have hil : i < n.Eqs.length := (List.getElem?_eq_some_iff.1 hq).1
  generalize hD : (n.Eqs.take i).flatMap DEq.Names = D
  refine pcall_of_vc tabOK Tryz.func92 n92 rfl (by repeat' first | exact pure_nil | refine pure_cons ?_ ?_ | exact .raw _ | exact pure_enc _ | exact pure_lst _ | exact pure_strs _ | exact pure_ints _ | exact DTy.pure _ | exact DTy.pures _ | exact DEnum.pure _ | exact DEnum.pures _ | exact DDecl.pure _ | exact DDecl.pures _ | exact DEq.pure _ | exact DEq.pures _ | exact DNode.pure _ | exact DNode.pures _ | exact DProg.pure _ | exact DProg.pures _ | exact DCond.pure _ | exact DCond.pures _ | exact DAtom.pure _ | exact DAtom.pures _ | exact DPlain.pure _ | exact DPlain.pures _ | exact DFault.pure _ | exact DFault.pures _ | exact pure_list (fun x => DDecl.pures x) _ | exact .fn _ _ _ pure_nil pure_nil | refine .agg _ ?_ | refine .tup _ ?_ | assumption) (by repeat' first | exact pure_nil | refine pure_cons ?_ ?_ | exact .raw _ | exact pure_enc _ | exact pure_lst _ | exact pure_strs _ | exact pure_ints _ | exact DTy.pure _ | exact DTy.pures _ | exact DEnum.pure _ | exact DEnum.pures _ | exact DDecl.pure _ | exact DDecl.pures _ | exact DEq.pure _ | exact DEq.pures _ | exact DNode.pure _ | exact DNode.pures _ | exact DProg.pure _ | exact DProg.pures _ | exact DCond.pure _ | exact DCond.pures _ | exact DAtom.pure _ | exact DAtom.pures _ | exact DPlain.pure _ | exact DPlain.pures _ | exact DFault.pure _ | exact DFault.pures _ | exact pure_list (fun x => DDecl.pures x) _ | exact .fn _ _ _ pure_nil pure_nil | refine .agg _ ?_ | refine .tup _ ?_ | assumption) (n := 89) rfl (rs := [.tmp 6]) rfl ?_
  repeat' first
    | exact finB rfl
    | exact finI rfl
    | exact finP rfl
    | exact absurd rfl (by assumption)
    | simp only [go_sem]
    | (intro _)
    | refine brK_dec (fun _ => ?_) (fun _ => ?_)
    | refine brK_split (fun hb_ => ?_) (fun hb_ => ?_)
    | refine gK_dec (fun _ => ?_) (fun _ => ?_)
    | refine gK_split (fun hb_ => ?_) (fun hb_ => ?_)
    | refine gqK_dec (fun _ => ?_) (fun _ => ?_)
    | refine ⟨by omega, ?_⟩
    | refine elemHave (by omega) (by assumption) ?_
    | ((fail_if_success (clear hy)); refine elemMap (by omega) (by omega) (fun y hy => ?_))
    | refine elemMap (by omega) (by omega) (fun x hx => ?_)
    | refine drawK mo (by kernel_rfl) ?_
    | (exfalso; omega)
    | (refine elemHave (by omega) hj ?_)
    | (refine elemHave (by omega) hq ?_)
    | (refine PCall.call (parts_spec q.E (by omega)) ?_)
    | (refine pcK_of (is90 n y hl) ?_; generalize hiy : isF n y = b; cases b)
    | (refine pcK_of (input142 n y) ?_; generalize hny : inF n y = b; cases b)
    | (refine pcK_of (defined93 n hn y i (by omega)) ?_; rw [hD])
    | (refine pcK_of (part143 p j n hj hl y) ?_; generalize hpy : leadsF p (j : Int) n y = b; cases b)
    | (have e5 := names_5 hpk hy hiy; exact finIq rfl ((eqErr_n rfl (by omega)).trans e5).symm)
    | (have e6 := names_6 hpk hy hiy (.inl hny); exact finIq rfl ((eqErr_n rfl (by omega)).trans e6).symm)
    | (have e6 := names_6 hpk hy hiy (.inr (List.mem_append_left _ (cnt_yes (by assumption)))); exact finIq rfl ((eqErr_n rfl (by omega)).trans e6).symm)
    | (have e6 := names_6 hpk hy hiy (.inr (List.mem_append_right _ (mem_take hx (by omega) (by assumption)))); exact finIq rfl ((eqErr_n rfl (by omega)).trans e6).symm)
    | (have e0 := names_0 hpk (by omega); exact finIq rfl (eqErr_p e0 (List.all_eq_false.2 ⟨y, List.mem_of_getElem? hy, by simp [hpy]⟩)).symm)
    | (have e0 := names_0 hpk (by omega); exact finIq rfl (eqErr_p e0 (List.all_eq_true.2 (take_full hpm (by omega)))).symm)
    | exact loopFrH _ (by omega) ⟨k + 1, by omega, rfl, names_next hpk hy hiy hny (not_both (by assumption) hpjj hy (by omega)), rfl⟩ (.next rfl (by omega) .nil) rfl
    | (refine loop_frH [6, 9, 10, 23, 24, 25, 26, 27, 28, 29, 30, 31, 32, 33, 34, 35, 36, 37, 38, 39, 40, 41, 42, 43, 44, 45, 46, 47, 48, 49, 50, 51, 52, 53, 54, 55, 56, 57, 58, 59, 60, 61, 62, 63, 64, 65, 66, 67, 68, 69, 70, 71] (fun mm_ CC_ => ∃ (k : Nat), k ≤ q.Names.length ∧ mm_ = q.Names.length - k ∧ (namesErr n (D ++ q.Names.take k) (q.Names.drop k) = namesErr n D q.Names) ∧ CC_ = [(9, .raw (.int .i64 ((k : Nat) : Int)))]) (q.Names.length) _ ⟨0, by omega, by omega, by simp, rfl⟩ (.cons rfl .nil) ?_; rintro mm_ CC_ jk ⟨k, hk, rfl, hpk, rfl⟩)
    | exact loopFrH _ (by omega) ⟨jj + 1, by omega, rfl, ostep hpjj hy hx (by assumption), rfl⟩ (.next rfl (by omega) .nil) rfl
    | (refine loop_frH [6, 10, 56, 57, 58, 59, 60, 61, 62, 63, 64, 65, 66, 67, 68, 69, 70, 71] (fun mm_ CC_ => ∃ (jj : Nat), jj ≤ k ∧ mm_ = k - jj ∧ (∀ x, q.Names[k]? = some x → x ∉ q.Names.take jj) ∧ CC_ = [(10, .raw (.int .i64 ((jj : Nat) : Int)))]) (k) _ ⟨0, by omega, by omega, by simp, rfl⟩ (.cons rfl .nil) ?_; rintro mm_ CC_ jjj ⟨jj, hjj, rfl, hpjj, rfl⟩)
    | exact loopFrH _ (by omega) ⟨m + 1, by omega, rfl, take_all hpm (by simpa using hy) hpy, rfl⟩ (.next rfl (by omega) .nil) rfl
    | (refine loop_frH [6, 12, 75, 76, 77, 78, 79, 80, 81, 82, 83, 84, 85, 86, 87, 88] (fun mm_ CC_ => ∃ (m : Nat), m ≤ (parts q.E).length ∧ mm_ = (parts q.E).length - m ∧ (∀ z ∈ (parts q.E).take m, leadsF p (j : Int) n z = true) ∧ CC_ = [(12, .raw (.int .i64 ((m : Nat) : Int)))]) ((parts q.E).length) _ ⟨0, by omega, by omega, by simp, rfl⟩ (.cons rfl .nil) ?_; rintro mm_ CC_ jm ⟨m, hm, rfl, hpm, rfl⟩)
theorem n50 : (Tryz.f50.name == "runtime.NumGoroutine") = false := by kernel_rfl
theorem fault47 (a b c : Int) : PCall Tryz.prog 50 [.i a, .i b, .i c] (DFault.enc ⟨a, b, c⟩) := by
  refine pcall_of_vc tabOK Tryz.func50 n50 rfl (by repeat' first | exact pure_nil | refine pure_cons ?_ ?_ | exact .raw _ | exact pure_enc _ | exact pure_lst _ | exact pure_strs _ | exact pure_ints _ | exact DTy.pure _ | exact DTy.pures _ | exact DEnum.pure _ | exact DEnum.pures _ | exact DDecl.pure _ | exact DDecl.pures _ | exact DEq.pure _ | exact DEq.pures _ | exact DNode.pure _ | exact DNode.pures _ | exact DProg.pure _ | exact DProg.pures _ | exact DCond.pure _ | exact DCond.pures _ | exact DAtom.pure _ | exact DAtom.pures _ | exact DPlain.pure _ | exact DPlain.pures _ | exact DFault.pure _ | exact DFault.pures _ | exact pure_list (fun x => DDecl.pures x) _ | exact .fn _ _ _ pure_nil pure_nil | refine .agg _ ?_ | refine .tup _ ?_ | assumption) (by repeat' first | exact pure_nil | refine pure_cons ?_ ?_ | exact .raw _ | exact pure_enc _ | exact pure_lst _ | exact pure_strs _ | exact pure_ints _ | exact DTy.pure _ | exact DTy.pures _ | exact DEnum.pure _ | exact DEnum.pures _ | exact DDecl.pure _ | exact DDecl.pures _ | exact DEq.pure _ | exact DEq.pures _ | exact DNode.pure _ | exact DNode.pures _ | exact DProg.pure _ | exact DProg.pures _ | exact DCond.pure _ | exact DCond.pures _ | exact DAtom.pure _ | exact DAtom.pures _ | exact DPlain.pure _ | exact DPlain.pures _ | exact DFault.pure _ | exact DFault.pures _ | exact pure_list (fun x => DDecl.pures x) _ | exact .fn _ _ _ pure_nil pure_nil | refine .agg _ ?_ | refine .tup _ ?_ | assumption) (n := 11) rfl (rs := [.cell 6 34]) rfl ?_
  simp only [go_sem]
  rw [DFault.enc_eq]
  exact ⟨_, rfl, false, .refl _⟩
theorem faultX_err {p : DProg} {a : Int} {n : DNode} (h : (allV n).all (clockedF p.Enums n) = false) : nodeFault p a n = ⟨a, -1, 5⟩ := by unfold nodeFault; rw [if_neg (by rw [h]; simp)]
theorem faultX_eq {p : DProg} {a : Int} {n : DNode} {e : Int × Int} (h : (allV n).all (clockedF p.Enums n) = true) (he : eqsErr p a n 0 [] n.Eqs = e) (h2 : ¬ e.2 = 0) : nodeFault p a n = ⟨a, e.1, e.2⟩ := by unfold nodeFault; rw [if_pos h, he, if_neg h2]
theorem faultX_def {p : DProg} {a : Int} {n : DNode} {e : Int × Int} (h : (allV n).all (clockedF p.Enums n) = true) (he : eqsErr p a n 0 [] n.Eqs = e) (h2 : e.2 = 0) {b : Bool} (hb : allDef n = b) : nodeFault p a n = if b = true then ⟨0, 0, 0⟩ else ⟨a, -1, 5⟩ := by unfold nodeFault; rw [if_pos h, he, if_pos h2, hb]
theorem clk_no {L : List DEnum} {n : DNode} {d : DDecl} (h1 : ¬ d.On = ⟨#[]⟩) (h2 : isF n d.On = false ∨ armOk L d.Ctor = false) : clockedF L n d = false := by
  unfold clockedF
  rw [decide_eq_false h1]
  rcases h2 with h2 | h2 <;> simp [h2]
theorem clk_yes {L : List DEnum} {n : DNode} {d : DDecl} (h2 : d.On = ⟨#[]⟩ ∨ (isF n d.On = true ∧ armOk L d.Ctor = true)) : clockedF L n d = true := by
  unfold clockedF
  rcases h2 with h2 | h2
  · rw [decide_eq_true h2]; rfl
  · simp [h2.1, h2.2]
theorem rest_at {n : DNode} {i : Nat} {d : DDecl} (h : (allV n)[i]? = some d) (hi : n.Ins.length ≤ i) : (n.Outs ++ n.Vars)[i - n.Ins.length]? = some d := by
  have e : allV n = n.Ins ++ (n.Outs ++ n.Vars) := by simp [allV]
  rw [e, List.getElem?_append_right hi] at h
  exact h
theorem n51 : (Tryz.f51.name == "runtime.NumGoroutine") = false := by kernel_rfl
theorem node50 (p : DProg) (j : Nat) (n : DNode) (hj : p.Nodes[j]? = some n) (hn : okNode n) : PCall Tryz.prog 51 [p.enc, .i (j : Int)] (nodeFault p (j : Int) n).enc := by
  have hl := okN_lenX hn
  have h4 := hn.2.2.2.1
  have hlen : (allV n).length = n.Ins.length + (n.Outs ++ n.Vars).length := by simp [allV]
  refine pcall_of_vc tabOK Tryz.func51 n51 rfl (by repeat' first | exact pure_nil | refine pure_cons ?_ ?_ | exact .raw _ | exact pure_enc _ | exact pure_lst _ | exact pure_strs _ | exact pure_ints _ | exact DTy.pure _ | exact DTy.pures _ | exact DEnum.pure _ | exact DEnum.pures _ | exact DDecl.pure _ | exact DDecl.pures _ | exact DEq.pure _ | exact DEq.pures _ | exact DNode.pure _ | exact DNode.pures _ | exact DProg.pure _ | exact DProg.pures _ | exact DCond.pure _ | exact DCond.pures _ | exact DAtom.pure _ | exact DAtom.pures _ | exact DPlain.pure _ | exact DPlain.pures _ | exact DFault.pure _ | exact DFault.pures _ | exact pure_list (fun x => DDecl.pures x) _ | exact .fn _ _ _ pure_nil pure_nil | refine .agg _ ?_ | refine .tup _ ?_ | assumption) (by repeat' first | exact pure_nil | refine pure_cons ?_ ?_ | exact .raw _ | exact pure_enc _ | exact pure_lst _ | exact pure_strs _ | exact pure_ints _ | exact DTy.pure _ | exact DTy.pures _ | exact DEnum.pure _ | exact DEnum.pures _ | exact DDecl.pure _ | exact DDecl.pures _ | exact DEq.pure _ | exact DEq.pures _ | exact DNode.pure _ | exact DNode.pures _ | exact DProg.pure _ | exact DProg.pures _ | exact DCond.pure _ | exact DCond.pures _ | exact DAtom.pure _ | exact DAtom.pures _ | exact DPlain.pure _ | exact DPlain.pures _ | exact DFault.pure _ | exact DFault.pures _ | exact pure_list (fun x => DDecl.pures x) _ | exact .fn _ _ _ pure_nil pure_nil | refine .agg _ ?_ | refine .tup _ ?_ | assumption) (n := 92) rfl (rs := [.cell 4 34]) rfl ?_
  simp only [go_sem]
  refine elemHave (by omega) hj ?_
  simp only [go_sem]
  refine PCall.call (all66 n (by omega)) ?_
  simp only [go_sem]
  refine loop_frH [7, 18, 19, 20, 21, 22, 23, 24, 25, 26, 27, 28, 29, 30, 31, 32, 33, 34, 35, 36, 37, 38, 39, 40, 41, 42, 43, 44, 45, 46, 47, 48, 49, 50, 51] (fun m C => ∃ i : Nat, i ≤ (allV n).length ∧ m = (allV n).length - i ∧ (∀ d ∈ (allV n).take i, clockedF p.Enums n d = true) ∧ C = [(7, .raw (.int .i64 (i : Nat)))]) (allV n).length _ ⟨0, by omega, by omega, by simp, rfl⟩ (.cons rfl .nil) ?_
  rintro m C ja ⟨i, hi, rfl, hp, rfl⟩
  simp only [go_sem]
  intro _
  refine brK_dec (fun hlt => ?_) (fun hge => ?_)
  · obtain ⟨d, hd⟩ : ∃ d, (allV n)[i]? = some d := ⟨_, List.getElem?_eq_getElem (by omega)⟩
    repeat' first
      | (exfalso; omega)
      | simp only [go_sem]
      | (intro _)
      | refine brK_dec (fun _ => ?_) (fun _ => ?_)
      | refine gqK_dec (fun _ => ?_) (fun _ => ?_)
      | refine elemHave (by omega) hd ?_
      | refine drawK mo (by kernel_rfl) ?_
      | (refine pcK_of (is90 n d.On hl) ?_; generalize hix : isF n d.On = b; cases b)
      | (refine pcK_of (armX15 p d.Ctor) ?_; generalize hax : armOk p.Enums d.Ctor = b; cases b)
      | (refine PCall.call (fault47 _ _ _) ?_)
      | (have hz : ¬ d.On = ⟨#[]⟩ := (by assumption); have hc := clk_no (L := p.Enums) (n := n) (d := d) hz (.inl hix); rw [faultX_err (List.all_eq_false.2 ⟨d, List.mem_of_getElem? hd, by simp [hc]⟩)]; exact ⟨_, rfl, false, by rw [DFault.enc_eq]; exact .refl _⟩)
      | (have hz : ¬ d.On = ⟨#[]⟩ := (by assumption); have hc := clk_no (L := p.Enums) (n := n) (d := d) hz (.inr hax); rw [faultX_err (List.all_eq_false.2 ⟨d, List.mem_of_getElem? hd, by simp [hc]⟩)]; exact ⟨_, rfl, false, by rw [DFault.enc_eq]; exact .refl _⟩)
      | (have hc := clk_yes (L := p.Enums) (n := n) (d := d) (.inr ⟨hix, hax⟩); exact loopFrH _ (by omega) ⟨i + 1, by omega, rfl, take_all hp hd hc, rfl⟩ (.next rfl (by omega) .nil) rfl)
      | (have hz : d.On = ⟨#[]⟩ := (by first | assumption | exact Classical.not_not.1 (by assumption)); have hc := clk_yes (L := p.Enums) (n := n) (d := d) (.inl hz); exact loopFrH _ (by omega) ⟨i + 1, by omega, rfl, take_all hp hd hc, rfl⟩ (.next rfl (by omega) .nil) rfl)
  · have hcl : (allV n).all (clockedF p.Enums n) = true := List.all_eq_true.2 (take_full hp (by omega))
    generalize hE : eqsErr p (j : Int) n 0 [] n.Eqs = E
    simp only [go_sem]
    refine loop_frH [8, 9, 52, 53, 54, 55, 56, 57, 58, 59, 60, 61, 62, 63, 64, 65, 66, 67, 68] (fun m C => ∃ i : Nat, i ≤ n.Eqs.length ∧ m = n.Eqs.length - i ∧ eqsErr p (j : Int) n i ((n.Eqs.take i).flatMap DEq.Names) (n.Eqs.drop i) = E ∧ C = [(8, .raw (.int .i64 (i : Nat)))]) n.Eqs.length _ ⟨0, by omega, by omega, by simpa using hE, rfl⟩ (.cons rfl .nil) ?_
    rintro m C jb ⟨i2, hi2, rfl, hE', rfl⟩
    simp only [go_sem]
    intro _
    refine brK_dec (fun hlt => ?_) (fun hge2 => ?_)
    · obtain ⟨q, hq⟩ : ∃ q, n.Eqs[i2]? = some q := ⟨_, List.getElem?_eq_getElem (by omega)⟩
      simp only [go_sem]
      refine PCall.call (eq92 p j n hj hn i2 q hq) ?_
      by_cases he : eqErr p (j : Int) n ((n.Eqs.take i2).flatMap DEq.Names) q = 0
      · have hE1 := eqs_next hE' (by simpa using hq) he
        rw [he]
        simp only [go_sem]
        exact loopFrH _ (by omega) ⟨i2 + 1, by omega, rfl, hE1, rfl⟩ (.next rfl (by omega) .nil) rfl
      · have hE1 := eqs_at hE' (by simpa using hq) he
        rw [faultX_eq hcl hE (by rw [hE1]; exact he), hE1]
        generalize eqErr p (j : Int) n ((n.Eqs.take i2).flatMap DEq.Names) q = ee at he
        simp only [go_sem]
        refine brK_dec (fun _ => ?_) (fun hq => absurd he hq)
        simp only [go_sem]
        refine PCall.call (fault47 _ _ _) ?_
        simp only [go_sem]
        exact ⟨_, rfl, false, by rw [DFault.enc_eq]; exact .refl _⟩
    · have hE1 := eqs_0 hE' (by omega)
      generalize hb : allDef n = b
      rw [faultX_def hcl hE (by rw [hE1]) hb]
      simp only [go_sem]
      intro _
      refine loop_frH [10, 72, 73, 74, 75, 76, 77, 78, 79, 80, 81, 82, 83, 84, 85, 86, 87, 88, 89, 90] (fun m C => ∃ i : Nat, n.Ins.length ≤ i ∧ i ≤ (allV n).length ∧ m = (allV n).length - i ∧ (∀ d ∈ (n.Outs ++ n.Vars).take (i - n.Ins.length), memB d.Name (n.Eqs.flatMap DEq.Names) = true) ∧ C = [(10, .raw (.int .i64 (i : Nat)))]) ((allV n).length - n.Ins.length) _ ⟨n.Ins.length, by omega, by omega, rfl, by simp, rfl⟩ (.cons rfl .nil) ?_
      rintro m C jc ⟨i3, hi3, hi3', rfl, hp3, rfl⟩
      simp only [go_sem]
      intro _
      refine brK_dec (fun hlt => ?_) (fun hge3 => ?_)
      · obtain ⟨d, hd⟩ : ∃ d, (allV n)[i3]? = some d := ⟨_, List.getElem?_eq_getElem (by omega)⟩
        have hd2 := rest_at hd hi3
        simp only [go_sem]
        refine drawK mo (by kernel_rfl) ?_
        simp only [go_sem]
        refine elemHave (by omega) hd ?_
        simp only [go_sem]
        refine pcK_of (defined93 n hn d.Name n.Eqs.length (Nat.le_refl _)) ?_
        rw [List.take_length]
        simp only [go_sem]
        refine brK_dec (fun hz => ?_) (fun hz => ?_)
        · have hno : memB d.Name (n.Eqs.flatMap DEq.Names) = false := by
            cases hm : memB d.Name (n.Eqs.flatMap DEq.Names) with
            | false => rfl
            | true => have := cntL_mem (memB_iff.1 hm); exfalso; omega
          have hbf : b = false := by rw [← hb]; unfold allDef; exact List.all_eq_false.2 ⟨d, List.mem_of_getElem? hd2, by simp [hno]⟩
          rw [hbf, if_neg (by simp)]
          simp only [go_sem]
          refine PCall.call (fault47 _ _ _) ?_
          simp only [go_sem]
          exact ⟨_, rfl, false, by rw [DFault.enc_eq]; exact .refl _⟩
        · have hyes : memB d.Name (n.Eqs.flatMap DEq.Names) = true := by
            cases hm : memB d.Name (n.Eqs.flatMap DEq.Names) with
            | true => rfl
            | false =>
              have hnm : d.Name ∉ n.Eqs.flatMap DEq.Names := fun h => by rw [memB_iff.2 h] at hm; exact Bool.noConfusion hm
              exact absurd (by have := cntL_zero hnm; omega) hz
          simp only [go_sem]
          exact loopFrH _ (by omega) ⟨i3 + 1, by omega, by omega, rfl, by rw [show i3 + 1 - n.Ins.length = (i3 - n.Ins.length) + 1 by omega]; exact take_all hp3 hd2 hyes, rfl⟩ (.next rfl (by omega) .nil) rfl
      · have hbt : b = true := by rw [← hb]; unfold allDef; exact List.all_eq_true.2 (take_full hp3 (by omega))
        rw [hbt, if_pos rfl]
        simp only [go_sem]
        exact ⟨_, rfl, false, by rw [DFault.enc_eq]; exact .refl _⟩
theorem n14 : (Tryz.f14.name == "runtime.NumGoroutine") = false := by kernel_rfl
theorem scopeX (p : DProg) (hp : okProg p) : PCall Tryz.prog 14 [p.enc] (scopeF p).enc := by
  refine pcall_of_vc tabOK Tryz.func14 n14 rfl (by repeat' first | exact pure_nil | refine pure_cons ?_ ?_ | exact .raw _ | exact pure_enc _ | exact pure_lst _ | exact pure_strs _ | exact pure_ints _ | exact DTy.pure _ | exact DTy.pures _ | exact DEnum.pure _ | exact DEnum.pures _ | exact DDecl.pure _ | exact DDecl.pures _ | exact DEq.pure _ | exact DEq.pures _ | exact DNode.pure _ | exact DNode.pures _ | exact DProg.pure _ | exact DProg.pures _ | exact DCond.pure _ | exact DCond.pures _ | exact DAtom.pure _ | exact DAtom.pures _ | exact DPlain.pure _ | exact DPlain.pures _ | exact DFault.pure _ | exact DFault.pures _ | exact pure_list (fun x => DDecl.pures x) _ | exact .fn _ _ _ pure_nil pure_nil | refine .agg _ ?_ | refine .tup _ ?_ | assumption) (by repeat' first | exact pure_nil | refine pure_cons ?_ ?_ | exact .raw _ | exact pure_enc _ | exact pure_lst _ | exact pure_strs _ | exact pure_ints _ | exact DTy.pure _ | exact DTy.pures _ | exact DEnum.pure _ | exact DEnum.pures _ | exact DDecl.pure _ | exact DDecl.pures _ | exact DEq.pure _ | exact DEq.pures _ | exact DNode.pure _ | exact DNode.pures _ | exact DProg.pure _ | exact DProg.pures _ | exact DCond.pure _ | exact DCond.pures _ | exact DAtom.pure _ | exact DAtom.pures _ | exact DPlain.pure _ | exact DPlain.pures _ | exact DFault.pure _ | exact DFault.pures _ | exact pure_list (fun x => DDecl.pures x) _ | exact .fn _ _ _ pure_nil pure_nil | refine .agg _ ?_ | refine .tup _ ?_ | assumption) (n := 27) rfl (rs := [.cell 2 34]) rfl ?_
  have hp6 := hp.2.1
  unfold scopeF
  simp only [go_sem]
  refine PCall.call (checkX p hp) ?_
  generalize checkF p = e
  simp only [go_sem]
  refine brK_dec (fun h0 => ?_) (fun h0 => ?_)
  · rw [if_neg h0]
    simp only [go_sem]
    refine PCall.call (fault47 _ _ _) ?_
    simp only [go_sem]
    exact ⟨_, rfl, false, by rw [DFault.enc_eq]; exact .refl _⟩
  rw [if_pos (by simpa using h0)]
  generalize hE : nodesFault p 0 p.Nodes = E
  simp only [go_sem]
  refine loop_frX [4, 5, 12, 13, 14, 15, 16, 17, 18, 19, 20, 21, 22, 23, 24, 25] (fun m C => ∃ i : Nat, i ≤ p.Nodes.length ∧ m = p.Nodes.length - i ∧ nodesFault p i (p.Nodes.drop i) = E ∧ C = [(4, .raw (.int .i64 (i : Nat)))]) p.Nodes.length _ ⟨0, by omega, by omega, hE, rfl⟩ (.cons rfl .nil) ?_
  rintro m C ja r ⟨i, hi, rfl, hE', rfl⟩
  simp only [go_sem]
  intro _
  refine brK_dec (fun hlt => ?_) (fun hge => ?_)
  · obtain ⟨n, hj⟩ : ∃ n, p.Nodes[i]? = some n := ⟨_, List.getElem?_eq_getElem (by omega)⟩
    have hn := hp.2.2 n (List.mem_of_getElem? hj)
    simp only [go_sem]
    refine PCall.call (node50 p i n hj hn) ?_
    have hzz : (AV.agg [.raw (.int .i64 0), .raw (.int .i64 0), .raw (.int .i64 0)]) = (⟨0, 0, 0⟩ : DFault).enc := by rw [DFault.enc_eq]
    by_cases hF : (nodeFault p (i : Int) n).Err = 0
    · have hE1 := nodes_next hE' (by simpa using hj) hF
      have hz := nodeFault_zero hF
      rw [hz]
      simp only [go_sem]
      rw [hzz]
      simp only [go_sem]
      exact loopFrX _ (by omega) _ ⟨i + 1, by omega, rfl, hE1, rfl⟩ (.next rfl (by omega) .nil) rfl (by first | rfl | (simp only [List.append_assoc, List.cons_append, List.nil_append]; rfl))
    · have hE1 := nodes_at hE' (by simpa using hj) hF
      rw [hE1]
      generalize nodeFault p (i : Int) n = F at hF
      simp only [go_sem]
      rw [hzz]
      simp only [go_sem]
      refine brK_dec (fun _ => ?_) (fun hq => absurd (by intro h; rw [h] at hF; exact hF rfl) hq)
      simp only [go_sem]
      exact ⟨_, rfl, false, by rw [DFault.enc_eq]; exact .refl _⟩
  · have h0 := nodes_0 hE' (by omega)
    subst h0
    simp only [go_sem]
    exact ⟨_, rfl, false, by rw [DFault.enc_eq]; exact .refl _⟩
abbrev sA : DDecl := ⟨⟨#[97]⟩, ⟨1, 0, 0⟩, ⟨#[]⟩, ⟨#[]⟩⟩
abbrev sB : DDecl := ⟨⟨#[98]⟩, ⟨1, 0, 0⟩, ⟨#[]⟩, ⟨#[]⟩⟩
theorem low97 : lowF ⟨#[97]⟩ = true := by decide +kernel
theorem weak_tkS {sz : Nat} {es ds : List AV} {k : Nat} (h : es = ds) : Weak (.lst sz es (some k)) (.lst sz ds none) := h ▸ .tok _ _ _
abbrev l16N : DNode := ⟨⟨#[102]⟩, [sA], [sB], [], []⟩
abbrev l16P : DProg := ⟨[], [l16N]⟩
abbrev x3 : Ex := .mk 3 0 ⟨#[97]⟩ 0 [] []
abbrev x1 : Ex := .mk 1 1 ⟨#[]⟩ 0 [] []
abbrev eE (op : Int) : Ex := .mk 6 0 ⟨#[]⟩ op [] [x3, x1]
theorem eE_parts (op : Int) : parts (eE op) = [eE op, x3, x1] := by simp [parts, partsL]
theorem x1_parts : parts x1 = [x1] := by simp [parts, partsL]
theorem eE_ok (op : Int) : okE (eE op) := by
  constructor
  · rw [eE_parts]; simp
  · rw [eE_parts]; intro x hx
    simp only [List.mem_cons, List.not_mem_nil, or_false] at hx
    rcases hx with rfl | rfl | rfl <;> exact ⟨by first | decide | (show (⟨#[]⟩ : ByteArray).size ≤ 200; decide), fun a ha => by simp [Ex.arms] at ha⟩
theorem eE_part {op : Int} (h : 3 ≤ op ∧ op ≤ 16) : ∀ y ∈ parts (eE op), partE y = true := by
  rw [eE_parts]
  have h0 : onceB [] = true := once0 rfl
  intro x hx
  simp only [List.mem_cons, List.not_mem_nil, or_false] at hx
  rcases hx with rfl | rfl | rfl
  · simp [partE, numbersE, namedE, armsE, subsE, Ex.kind, Ex.op, Ex.n, Ex.name, Ex.arms, Ex.subs, h.1, h.2]
  · simp [partE, numbersE, namedE, armsE, subsE, Ex.kind, Ex.op, Ex.n, Ex.name, Ex.arms, Ex.subs, low97]
  · simp [partE, numbersE, namedE, armsE, subsE, Ex.kind, Ex.op, Ex.n, Ex.name, Ex.arms, Ex.subs]
theorem x1_right : rightE x1 = true := by
  unfold rightE
  rw [x1_parts]
  simp [partE, numbersE, namedE, armsE, subsE, Ex.kind, Ex.op, Ex.n, Ex.name, Ex.arms, Ex.subs, depthE, depthL]
theorem x1_const : constT [] x1 = ([1], tyI, true) := by
  have hc : constE x1 = true := by decide
  unfold constT
  rw [x1_right, hc]
  rw [if_pos (show (true && true) = true from rfl), if_neg (by decide), cells_one (v := 1) (t := tyI) (ok := true) rfl]
  rfl
theorem x3_of : ofT l16P l16N x3 = some tyI := by
  rw [ofT_eq]
  have h : headP l16P l16N x3 (ofL l16P l16N x3.subs) = (tyI, true) := by
    unfold headP
    have hd : decl l16N ⟨#[97]⟩ = (sA, true) := by decide +kernel
    rw [if_neg (by decide), if_pos (show x3.kind = 3 from rfl)]
    show ((decl l16N ⟨#[97]⟩).1.Ty, (decl l16N ⟨#[97]⟩).2) = _
    rw [hd]
  rw [h]; rfl
theorem x1_of : ofT l16P l16N x1 = some tyI := by
  rw [ofT_eq]
  have h : headP l16P l16N x1 (ofL l16P l16N x1.subs) = (tyI, true) := by
    unfold headP
    rw [if_pos (by decide), show l16P.Enums = [] from rfl, x1_const]
  rw [h]; rfl
theorem eE_of (op : Int) : ofT l16P l16N (eE op) = opt (binT op tyI tyI) := by
  rw [ofT_eq]
  have h : headP l16P l16N (eE op) (ofL l16P l16N (eE op).subs) = binT op tyI tyI := by
    unfold headP
    have hk : (eE op).kind = 6 := rfl
    rw [if_neg (by omega), if_neg (by omega), if_neg (by omega), if_neg (by omega), ofL_map, show (eE op).subs = [x3, x1] from rfl]
    simp only [List.map_cons, List.map_nil, x3_of, x1_of]
    rfl
  rw [h]
theorem of3 : ofN l16P 0 (eE 3) = (tyI, true) := by
  have h : ofN l16P 0 (eE 3) = normT (ofT l16P l16N (eE 3)) := rfl
  rw [h, eE_of, binT_1 (by decide)]
  rfl
theorem of8 : ofN l16P 0 (eE 8) = (ty0, false) := by
  have h : ofN l16P 0 (eE 8) = normT (ofT l16P l16N (eE 8)) := rfl
  rw [h, eE_of, binT_2 (by decide), if_neg (by rintro ⟨h, _⟩; cases h)]
  rfl
theorem l16_ok : ∀ n ∈ l16P.Nodes, tyOK l16P n := by
  intro n hn
  rw [List.mem_singleton.1 hn]
  refine ⟨by decide, fun nm hk => ?_⟩
  rcases declF_mem nm (allV l16N) with hm | hm
  · have hk' : (declF nm (allV l16N)).1.Ty.Kind = 3 := hk
    have : allV l16N = [sA, sB] := rfl
    rw [this] at hm hk'
    simp only [List.mem_cons, List.not_mem_nil, or_false] at hm
    rcases hm with hm | hm <;> (rw [hm] at hk'; cases hk')
  · have hk' : (declF nm (allV l16N)).1.Ty.Kind = 3 := hk
    rw [hm] at hk'
    cases hk'
theorem weak16 (a b c : Nat) : Weak (.agg [.raw (.slice none 0 0), .lst 5 [.agg [.s ⟨#[102]⟩, .lst 6 [.agg [.s ⟨#[97]⟩, .i 1, .i 0, .i 0, .s ⟨#[]⟩, .s ⟨#[]⟩]] (some a), .lst 6 [.agg [.s ⟨#[98]⟩, .i 1, .i 0, .i 0, .s ⟨#[]⟩, .s ⟨#[]⟩]] (some b), .raw (.slice none 0 0), .raw (.slice none 0 0)]] (some c)]) l16P.enc := by
  rw [DProg.enc_eq]
  refine Weak.aggs ⟨.nil _, ?_, trivial⟩
  refine Weak.lsts (by simp) (by intro e he; obtain ⟨x, _, rfl⟩ := List.mem_map.1 he; rw [DNode.enc_cells]; rfl) ?_
  show WeakL _ (flat [l16N.enc])
  rw [DNode.enc_eq]
  exact ⟨.refl _, weak_tkS (by simp [DDecl.enc_eq]), weak_tkS (by simp [DDecl.enc_eq]), .nil _, .nil _, trivial⟩
theorem weakE (op : Int) (t : Option Nat) : Weak (.agg [.i 6, .i 0, .s ⟨#[]⟩, .i op, .raw (.slice none 0 0), .lst 6 [.agg [.i 3, .i 0, .s ⟨#[97]⟩, .i 0, .raw (.slice none 0 0), .raw (.slice none 0 0)], .agg [.i 1, .i 1, .s ⟨#[]⟩, .i 0, .raw (.slice none 0 0), .raw (.slice none 0 0)]] t]) (eE op).enc := by
  repeat' first | exact trivial | exact .nil _ | exact .refl _ | exact .tok _ _ _ | refine ⟨?_, ?_⟩ | refine weak_ex ?_ ?_ | refine weak_subs rfl ?_ | simp only [flat_nil, flat_agg, flat_ex, flat_ex0, enc_cells, List.cons_append, List.nil_append, Ex.kind, Ex.n, Ex.name, Ex.op, Ex.arms, Ex.subs]
theorem n15 : (Tryz.f15.name == "runtime.NumGoroutine") = false := by kernel_rfl
theorem live23 : PCall Tryz.prog 15 [] (.b true) := by
  have h3 := OfPk l16P 0 (eE 3) l16_ok (eE_part (by decide)) (eE_ok 3)
  have h8 := OfPk l16P 0 (eE 8) l16_ok (eE_part (by decide)) (eE_ok 8)
  rw [of3] at h3
  rw [of8] at h8
  refine pcall_of_vc tabOK Tryz.func15 n15 rfl (by repeat' first | exact pure_nil | refine pure_cons ?_ ?_ | exact .raw _ | exact pure_enc _ | exact pure_lst _ | exact pure_strs _ | exact pure_ints _ | exact DTy.pure _ | exact DTy.pures _ | exact DEnum.pure _ | exact DEnum.pures _ | exact DDecl.pure _ | exact DDecl.pures _ | exact DEq.pure _ | exact DEq.pures _ | exact DNode.pure _ | exact DNode.pures _ | exact DProg.pure _ | exact DProg.pures _ | exact DCond.pure _ | exact DCond.pures _ | exact DAtom.pure _ | exact DAtom.pures _ | exact DPlain.pure _ | exact DPlain.pures _ | exact DFault.pure _ | exact DFault.pures _ | exact pure_list (fun x => DDecl.pures x) _ | exact .fn _ _ _ pure_nil pure_nil | refine .agg _ ?_ | refine .tup _ ?_ | assumption) (by repeat' first | exact pure_nil | refine pure_cons ?_ ?_ | exact .raw _ | exact pure_enc _ | exact pure_lst _ | exact pure_strs _ | exact pure_ints _ | exact DTy.pure _ | exact DTy.pures _ | exact DEnum.pure _ | exact DEnum.pures _ | exact DDecl.pure _ | exact DDecl.pures _ | exact DEq.pure _ | exact DEq.pures _ | exact DNode.pure _ | exact DNode.pures _ | exact DProg.pure _ | exact DProg.pures _ | exact DCond.pure _ | exact DCond.pures _ | exact DAtom.pure _ | exact DAtom.pures _ | exact DPlain.pure _ | exact DPlain.pures _ | exact DFault.pure _ | exact DFault.pures _ | exact pure_list (fun x => DDecl.pures x) _ | exact .fn _ _ _ pure_nil pure_nil | refine .agg _ ?_ | refine .tup _ ?_ | assumption) (n := 49) rfl (rs := [.tmp 0]) rfl ?_
  simp only [go_sem]
  refine PCall.callW h3 ⟨weak16 _ _ _, .refl _, weakE 3 _, trivial⟩ ?_
  simp only [go_sem]
  refine PCall.callW h8 ⟨weak16 _ _ _, .refl _, weakE 8 _, trivial⟩ ?_
  repeat' first
    | simp only [go_sem]
    | (simp only [ty000, ty100, ty200])
    | exact finBq rfl (by simp)
def cellsN (t : DTy) : Int := if t.Len < 1 then 1 else if t.Len > 8 then 8 else t.Len
def oneV (L : List DEnum) (t : DTy) (v : Int) : Bool := rightTyF L.length t && (if t.Kind = 2 then decide (v = 0 ∨ v = 1) else decide (t.Kind = 1 ∨ (0 ≤ v ∧ v < (((L[t.Enum.toNat]?.map DEnum.Ctors).getD []).length : Int))))
def rightV (L : List DEnum) (t : DTy) (v : List Int) : Bool := rightTyF L.length t && decide ((v.length : Int) = cellsN t) && v.all (oneV L t)
theorem n63 : (Tryz.f63.name == "runtime.NumGoroutine") = false := by kernel_rfl
theorem cellsX (t : DTy) : PCall Tryz.prog 63 [t.enc] (.i (cellsN t)) := by
  refine pcall_of_vc tabOK Tryz.func63 n63 rfl (by repeat' first | exact pure_nil | refine pure_cons ?_ ?_ | exact .raw _ | exact pure_enc _ | exact pure_lst _ | exact pure_strs _ | exact pure_ints _ | exact DTy.pure _ | exact DTy.pures _ | exact DEnum.pure _ | exact DEnum.pures _ | exact DDecl.pure _ | exact DDecl.pures _ | exact DEq.pure _ | exact DEq.pures _ | exact DNode.pure _ | exact DNode.pures _ | exact DProg.pure _ | exact DProg.pures _ | exact DCond.pure _ | exact DCond.pures _ | exact DAtom.pure _ | exact DAtom.pures _ | exact DPlain.pure _ | exact DPlain.pures _ | exact DFault.pure _ | exact DFault.pures _ | exact pure_list (fun x => DDecl.pures x) _ | exact .fn _ _ _ pure_nil pure_nil | refine .agg _ ?_ | refine .tup _ ?_ | assumption) (by repeat' first | exact pure_nil | refine pure_cons ?_ ?_ | exact .raw _ | exact pure_enc _ | exact pure_lst _ | exact pure_strs _ | exact pure_ints _ | exact DTy.pure _ | exact DTy.pures _ | exact DEnum.pure _ | exact DEnum.pures _ | exact DDecl.pure _ | exact DDecl.pures _ | exact DEq.pure _ | exact DEq.pures _ | exact DNode.pure _ | exact DNode.pures _ | exact DProg.pure _ | exact DProg.pures _ | exact DCond.pure _ | exact DCond.pures _ | exact DAtom.pure _ | exact DAtom.pures _ | exact DPlain.pure _ | exact DPlain.pures _ | exact DFault.pure _ | exact DFault.pures _ | exact pure_list (fun x => DDecl.pures x) _ | exact .fn _ _ _ pure_nil pure_nil | refine .agg _ ?_ | refine .tup _ ?_ | assumption) (n := 11) rfl (rs := [.tmp 2]) rfl ?_
  repeat' first
    | exact finB rfl
    | exact finI rfl
    | exact finP rfl
    | exact absurd rfl (by assumption)
    | simp only [go_sem]
    | (intro _)
    | refine brK_dec (fun _ => ?_) (fun _ => ?_)
    | refine brK_any ?_ ?_
    | refine gK_dec (fun _ => ?_) (fun _ => ?_)
    | refine gK_any ?_ ?_
    | refine gqK_dec (fun _ => ?_) (fun _ => ?_)
    | refine ⟨by omega, ?_⟩
    | refine elemHave (by omega) (by assumption) ?_
    | refine elemMap (by omega) (by omega) (fun x hx => ?_)
    | refine drawK mo (by kernel_rfl) ?_
    | (exfalso; omega)
    | (refine finIq rfl ?_; unfold cellsN; repeat' split <;> omega)
theorem rightTy_enum {n : Nat} {t : DTy} (h : rightTyF n t = true) : (1 ≤ t.Kind ∧ t.Kind ≤ 3) ∧ (t.Kind = 3 → 0 ≤ t.Enum ∧ t.Enum < n) := by
  unfold rightTyF at h
  have h := of_decide_eq_true h
  omega
theorem n64 : (Tryz.f64.name == "runtime.NumGoroutine") = false := by kernel_rfl
theorem oneVX (L : List DEnum) (t : DTy) (v : Int) : PCall Tryz.prog 64 [.lst 2 (L.map DEnum.enc) none, t.enc, .i v] (.b (oneV L t v)) := by
  refine pcall_of_vc tabOK Tryz.func64 n64 rfl (by repeat' first | exact pure_nil | refine pure_cons ?_ ?_ | exact .raw _ | exact pure_enc _ | exact pure_lst _ | exact pure_strs _ | exact pure_ints _ | exact DTy.pure _ | exact DTy.pures _ | exact DEnum.pure _ | exact DEnum.pures _ | exact DDecl.pure _ | exact DDecl.pures _ | exact DEq.pure _ | exact DEq.pures _ | exact DNode.pure _ | exact DNode.pures _ | exact DProg.pure _ | exact DProg.pures _ | exact DCond.pure _ | exact DCond.pures _ | exact DAtom.pure _ | exact DAtom.pures _ | exact DPlain.pure _ | exact DPlain.pures _ | exact DFault.pure _ | exact DFault.pures _ | exact pure_list (fun x => DDecl.pures x) _ | exact .fn _ _ _ pure_nil pure_nil | refine .agg _ ?_ | refine .tup _ ?_ | assumption) (by repeat' first | exact pure_nil | refine pure_cons ?_ ?_ | exact .raw _ | exact pure_enc _ | exact pure_lst _ | exact pure_strs _ | exact pure_ints _ | exact DTy.pure _ | exact DTy.pures _ | exact DEnum.pure _ | exact DEnum.pures _ | exact DDecl.pure _ | exact DDecl.pures _ | exact DEq.pure _ | exact DEq.pures _ | exact DNode.pure _ | exact DNode.pures _ | exact DProg.pure _ | exact DProg.pures _ | exact DCond.pure _ | exact DCond.pures _ | exact DAtom.pure _ | exact DAtom.pures _ | exact DPlain.pure _ | exact DPlain.pures _ | exact DFault.pure _ | exact DFault.pures _ | exact pure_list (fun x => DDecl.pures x) _ | exact .fn _ _ _ pure_nil pure_nil | refine .agg _ ?_ | refine .tup _ ?_ | assumption) (n := 38) rfl (rs := [.tmp 6]) rfl ?_
  simp only [go_sem]
  refine PCall.call (rightTyX L t) ?_
  cases hr : rightTyF L.length t with
  | false =>
    simp only [go_sem]
    exact finBq rfl (by unfold oneV; rw [hr]; rfl)
  | true =>
    obtain ⟨hk, h3⟩ := rightTy_enum hr
    unfold oneV
    rw [hr]
    by_cases h3' : t.Kind = 3
    · have h4 := h3 h3'
      obtain ⟨c, hc⟩ : ∃ c, L[t.Enum.toNat]? = some c := ⟨_, List.getElem?_eq_getElem (by omega)⟩
      rw [hc]
      have hg : ((some c).map DEnum.Ctors).getD [] = c.Ctors := rfl
      rw [hg, if_neg (by omega), Bool.true_and]
      repeat' first
        | (exfalso; omega)
        | simp only [go_sem]
        | (intro _)
        | refine brK_dec (fun _ => ?_) (fun _ => ?_)
        | refine gK_dec (fun _ => ?_) (fun _ => ?_)
        | refine elemHave (x := c) (by omega) hc ?_
        | exact finBq rfl (decide_eq_decide.2 (by omega))
        | exact finBq rfl (decide_eq_true (by omega)).symm
        | exact finBq rfl (decide_eq_false (by omega)).symm
    · by_cases h2 : t.Kind = 2
      · rw [if_pos h2, Bool.true_and]
        repeat' first
          | (exfalso; omega)
          | simp only [go_sem]
          | refine brK_dec (fun _ => ?_) (fun _ => ?_)
          | refine gK_dec (fun _ => ?_) (fun _ => ?_)
          | exact finBq rfl (decide_eq_true (by omega)).symm
          | exact finBq rfl (decide_eq_decide.2 (by omega))
      · rw [if_neg h2, Bool.true_and, decide_eq_true (show t.Kind = 1 ∨ _ from .inl (by omega))]
        repeat' first
          | (exfalso; omega)
          | simp only [go_sem]
          | refine brK_dec (fun _ => ?_) (fun _ => ?_)
          | refine gK_dec (fun _ => ?_) (fun _ => ?_)
          | exact finBq rfl rfl
theorem n23 : (Tryz.f23.name == "runtime.NumGoroutine") = false := by kernel_rfl
theorem rightVX (L : List DEnum) (t : DTy) (v : List Int) : PCall Tryz.prog 23 [.lst 2 (L.map DEnum.enc) none, t.enc, .lst 1 (v.map AV.i) none] (.b (rightV L t v)) := by
  refine pcall_of_vc tabOK Tryz.func23 n23 rfl (by repeat' first | exact pure_nil | refine pure_cons ?_ ?_ | exact .raw _ | exact pure_enc _ | exact pure_lst _ | exact pure_strs _ | exact pure_ints _ | exact DTy.pure _ | exact DTy.pures _ | exact DEnum.pure _ | exact DEnum.pures _ | exact DDecl.pure _ | exact DDecl.pures _ | exact DEq.pure _ | exact DEq.pures _ | exact DNode.pure _ | exact DNode.pures _ | exact DProg.pure _ | exact DProg.pures _ | exact DCond.pure _ | exact DCond.pures _ | exact DAtom.pure _ | exact DAtom.pures _ | exact DPlain.pure _ | exact DPlain.pures _ | exact DFault.pure _ | exact DFault.pures _ | exact pure_list (fun x => DDecl.pures x) _ | exact .fn _ _ _ pure_nil pure_nil | refine .agg _ ?_ | refine .tup _ ?_ | assumption) (by repeat' first | exact pure_nil | refine pure_cons ?_ ?_ | exact .raw _ | exact pure_enc _ | exact pure_lst _ | exact pure_strs _ | exact pure_ints _ | exact DTy.pure _ | exact DTy.pures _ | exact DEnum.pure _ | exact DEnum.pures _ | exact DDecl.pure _ | exact DDecl.pures _ | exact DEq.pure _ | exact DEq.pures _ | exact DNode.pure _ | exact DNode.pures _ | exact DProg.pure _ | exact DProg.pures _ | exact DCond.pure _ | exact DCond.pures _ | exact DAtom.pure _ | exact DAtom.pures _ | exact DPlain.pure _ | exact DPlain.pures _ | exact DFault.pure _ | exact DFault.pures _ | exact pure_list (fun x => DDecl.pures x) _ | exact .fn _ _ _ pure_nil pure_nil | refine .agg _ ?_ | refine .tup _ ?_ | assumption) (n := 33) rfl (rs := [.tmp 6]) rfl ?_
  repeat' first
    | exact finB rfl
    | exact finI rfl
    | exact finP rfl
    | exact absurd rfl (by assumption)
    | simp only [go_sem]
    | (intro _)
    | refine brK_dec (fun _ => ?_) (fun _ => ?_)
    | refine brK_any ?_ ?_
    | refine gK_dec (fun _ => ?_) (fun _ => ?_)
    | refine gK_any ?_ ?_
    | refine gqK_dec (fun _ => ?_) (fun _ => ?_)
    | refine ⟨by omega, ?_⟩
    | refine elemHave (by omega) (by assumption) ?_
    | refine elemMap (by omega) (by omega) (fun x hx => ?_)
    | refine drawK mo (by kernel_rfl) ?_
    | (exfalso; omega)
    | (refine PCall.call (rightTyX L t) ?_; generalize hr : rightTyF L.length t = b; cases b)
    | (refine PCall.call (cellsX t) ?_)
    | (refine pcK_of (oneVX L t x) ?_; generalize hox : oneV L t x = b; cases b)
    | (refine finBq rfl ?_; unfold rightV; rw [hr]; rfl)
    | (refine finBq rfl ?_; unfold rightV; rw [List.all_eq_false.2 ⟨x, List.mem_of_getElem? hx, by simp [hox]⟩]; simp; done)
    | (have hl : (v.length : Int) = cellsN t := (by omega); refine finBq rfl ?_; unfold rightV; rw [hr, decide_eq_true hl, List.all_eq_true.2 (take_full hpi (by omega))]; rfl)
    | (have hl : ¬ (v.length : Int) = cellsN t := (by omega); refine finBq rfl ?_; unfold rightV; rw [decide_eq_false hl]; simp; done)
    | exact loopFrH _ (by omega) ⟨i + 1, by omega, rfl, take_all hpi (by simpa using hx) hox, rfl⟩ (.next rfl (by omega) .nil) rfl
    | (refine loop_frH [6, 7, 19, 20, 21, 22, 23, 24, 25, 26, 27, 28, 29, 30, 31, 32] (fun mm_ CC_ => ∃ (i : Nat), i ≤ v.length ∧ mm_ = v.length - i ∧ (∀ x ∈ v.take i, oneV L t x = true) ∧ CC_ = [(7, .raw (.int .i64 ((i : Nat) : Int)))]) (v.length) _ ⟨0, by omega, by omega, by simp, rfl⟩ (.cons rfl .nil) ?_; rintro mm_ CC_ ji ⟨i, hi, rfl, hpi, rfl⟩)
theorem n22 : (Tryz.f22.name == "runtime.NumGoroutine") = false := by kernel_rfl
theorem valsX (l m : List Int) : PCall Tryz.prog 22 [.lst 1 (l.map (AV.i)) none, .lst 1 (m.map (AV.i)) none] (.b (eqB l m)) := by
  refine pcall_of_vc tabOK Tryz.func22 n22 rfl (by repeat' first | exact pure_nil | refine pure_cons ?_ ?_ | exact .raw _ | exact pure_enc _ | exact pure_lst _ | exact pure_strs _ | exact pure_ints _ | exact DTy.pure _ | exact DTy.pures _ | exact DEnum.pure _ | exact DEnum.pures _ | exact DDecl.pure _ | exact DDecl.pures _ | exact DEq.pure _ | exact DEq.pures _ | exact DNode.pure _ | exact DNode.pures _ | exact DProg.pure _ | exact DProg.pures _ | exact DCond.pure _ | exact DCond.pures _ | exact DAtom.pure _ | exact DAtom.pures _ | exact DPlain.pure _ | exact DPlain.pures _ | exact DFault.pure _ | exact DFault.pures _ | exact pure_list (fun x => DDecl.pures x) _ | exact .fn _ _ _ pure_nil pure_nil | refine .agg _ ?_ | refine .tup _ ?_ | assumption) (by repeat' first | exact pure_nil | refine pure_cons ?_ ?_ | exact .raw _ | exact pure_enc _ | exact pure_lst _ | exact pure_strs _ | exact pure_ints _ | exact DTy.pure _ | exact DTy.pures _ | exact DEnum.pure _ | exact DEnum.pures _ | exact DDecl.pure _ | exact DDecl.pures _ | exact DEq.pure _ | exact DEq.pures _ | exact DNode.pure _ | exact DNode.pures _ | exact DProg.pure _ | exact DProg.pures _ | exact DCond.pure _ | exact DCond.pures _ | exact DAtom.pure _ | exact DAtom.pures _ | exact DPlain.pure _ | exact DPlain.pures _ | exact DFault.pure _ | exact DFault.pures _ | exact pure_list (fun x => DDecl.pures x) _ | exact .fn _ _ _ pure_nil pure_nil | refine .agg _ ?_ | refine .tup _ ?_ | assumption) (n := 26) rfl (rs := [.tmp 4]) rfl ?_
  repeat' first
    | exact finB rfl
    | exact finI rfl
    | exact finP rfl
    | exact absurd rfl (by assumption)
    | simp only [go_sem]
    | (intro _)
    | refine brK_dec (fun _ => ?_) (fun _ => ?_)
    | refine brK_any ?_ ?_
    | refine gK_dec (fun _ => ?_) (fun _ => ?_)
    | refine gK_any ?_ ?_
    | refine gqK_dec (fun _ => ?_) (fun _ => ?_)
    | refine ⟨by omega, ?_⟩
    | refine elemHave (by omega) (by assumption) ?_
    | refine elemMap (by omega) (by omega) (fun x hx => ?_)
    | refine drawK mo (by kernel_rfl) ?_
    | (rw [eqB_ne (len_ne (l := l) (m := m) (by omega))]; exact ⟨_, rfl, false, .refl _⟩)
    | (rw [eqB_ne (at_ne (l := l) (m := m) (i := i) (by assumption) (by assumption) (by assumption))]; exact ⟨_, rfl, false, .refl _⟩)
    | (rw [eqB_eq (take_eq_full (l := l) (m := m) (i := i) (by omega) hpi (by omega))]; exact ⟨_, rfl, false, .refl _⟩)
    | exact loopFrH _ (by omega) ⟨i + 1, by omega, rfl, take_eq_step hpi (by assumption) (by assumption) (by assumption), rfl⟩ (.next rfl (by omega) .nil) rfl
    | (refine loop_frH [4, 5, 11, 12, 13, 14, 15, 16, 17, 18, 19, 20, 21, 22, 23, 24, 25] (fun mm_ CC_ => ∃ (i : Nat), i ≤ l.length ∧ mm_ = l.length - i ∧ (l.take i = m.take i) ∧ CC_ = [(5, .raw (.int .i64 ((i : Nat) : Int)))]) (l.length) _ ⟨0, by omega, by omega, rfl, rfl⟩ (.cons rfl .nil) ?_; rintro mm_ CC_ ji ⟨i, hi, rfl, hpi, rfl⟩)

theorem ctorG_spec {nm : ByteArray} : ∀ {L : List DEnum} {n : Nat} {a b : Int}, ctorG nm L n = (a, b, true) → ∃ (i k : Nat) (e : DEnum), a = ((n + i : Nat) : Int) ∧ b = (k : Int) ∧ L[i]? = some e ∧ k < e.Ctors.length
  | [], n, a, b, h => by simp [ctorG] at h
  | e :: L, n, a, b, h => by
    rw [ctorG] at h
    cases hf : e.Ctors.findIdx? (fun c => decide (c = nm)) with
    | some k =>
      rw [hf] at h
      cases h
      obtain ⟨hk, _⟩ := List.findIdx?_eq_some_iff_getElem.1 hf
      exact ⟨0, k, e, rfl, rfl, rfl, hk⟩
    | none =>
      rw [hf] at h
      obtain ⟨i, k, e', h1, h2, h3, h4⟩ := ctorG_spec h
      exact ⟨i + 1, k, e', by rw [h1]; omega, h2, h3, h4⟩
theorem lit_one {L : List DEnum} {e : Ex} {v : Int} {t : DTy} (hl : litE e = true) (hp : partE e = true) (h : litT L e = (v, t, true)) : oneV L t v = true ∧ t.Len = 0 := by
  unfold litT at h
  split at h
  · cases h; exact ⟨by simp [oneV, rightTyF], rfl⟩
  · split at h
    · rename_i h2
      cases h
      unfold partE at hp
      simp only [Bool.and_eq_true, decide_eq_true_eq] at hp
      have hn := hp.1.1.1.1.1.2
      unfold numbersE at hn
      rw [if_neg (by omega), if_neg (by omega), if_neg (by omega), if_pos (.inl h2)] at hn
      simp only [Bool.and_eq_true, decide_eq_true_eq] at hn
      exact ⟨by simp [oneV, rightTyF, hn.2], rfl⟩
    · split at h
      · cases h; exact ⟨by simp [oneV, rightTyF], rfl⟩
      · unfold armF at h
        split at h
        · cases h; exact ⟨by simp [oneV, rightTyF], rfl⟩
        · split at h
          · cases h; exact ⟨by simp [oneV, rightTyF], rfl⟩
          · split at h
            · rename_i hok
              generalize hg : ctorG e.name L 0 = g at h hok
              obtain ⟨a, b, ok⟩ := g
              dsimp only at hok h
              subst hok
              cases h
              obtain ⟨i, k, c, h1, h2, h3, h4⟩ := ctorG_spec hg
              have hi := (List.getElem?_eq_some_iff.1 h3).1
              rw [Nat.zero_add] at h1
              subst h1 h2
              refine ⟨?_, rfl⟩
              unfold oneV rightTyF
              rw [if_neg (by simp)]
              simp only [Int.toNat_natCast, h3, Option.map_some, Option.getD_some, Bool.and_eq_true, decide_eq_true_eq]
              exact ⟨⟨by decide, by decide, by decide, by decide, .inl ⟨trivial, Int.natCast_nonneg _, by show (i : Int) < (L.length : Int); omega⟩⟩, .inr ⟨Int.natCast_nonneg _, by show (k : Int) < (c.Ctors.length : Int); omega⟩⟩
            · cases h
theorem oneV_len {L : List DEnum} {t : DTy} {v m : Int} (h : oneV L t v = true) (hm : 0 ≤ m ∧ m ≤ 8) : oneV L ⟨t.Kind, t.Enum, m⟩ v = true := by
  unfold oneV rightTyF at *
  simp only [Bool.and_eq_true, decide_eq_true_eq] at *
  exact ⟨by omega, h.2⟩
theorem oneV_ty {L : List DEnum} {t : DTy} {v : Int} (h : oneV L t v = true) : rightTyF L.length t = true := by
  unfold oneV at h
  simp only [Bool.and_eq_true] at h
  exact h.1
theorem constT_right {L : List DEnum} {e : Ex} {v : List Int} {t : DTy} (h : constT L e = (v, t, true)) : rightV L t v = true := by
  unfold constT at h
  split at h
  · rename_i hrc
    simp only [Bool.and_eq_true] at hrc
    have hp := right_parts hrc.1
    obtain ⟨l1, l2⟩ := const_lits hrc.1 hrc.2
    split at h
    · rename_i h14
      obtain ⟨l3, l4⟩ := l1 h14
      split at h
      · rename_i hc2
        have h8 : e.subs.length ≤ 8 := by
          have := (partE_len (right_self hrc.1)).2.1
          have h1 : (subsE e).2 = 8 := by simp [subsE, h14]
          omega
        unfold cellsT at h
        split at h
        · rename_i hcc
          simp only [Bool.and_eq_true] at hcc
          cases h
          obtain ⟨u, hu⟩ : ∃ u, e.subs[0]? = some u := ⟨_, List.getElem?_eq_getElem l4⟩
          have hh : (e.subs.map fun x => (litT L x).2.1).headD ty0 = (litT L u).2.1 := by
            match e.subs, hu with
            | y :: l, hu => simp at hu; rw [hu]; rfl
          have hall : ∀ x ∈ e.subs, oneV L (litT L u).2.1 (litT L x).1 = true := by
            intro x hx
            have hok := List.all_eq_true.1 hcc.1 x hx
            have hsm := hcc.2
            unfold sameT at hsm
            have := of_decide_eq_true (List.all_eq_true.1 hsm _ (List.mem_map.2 ⟨x, hx, rfl⟩))
            rw [hh] at this
            have h1 := (lit_one (L := L) (v := (litT L x).1) (t := (litT L x).2.1) (l3 x hx) (hp x (sub_parts hx (self_parts x))) (by rw [← hok])).1
            rw [this] at h1
            exact h1
          dsimp only
          rw [hh]
          unfold rightV
          have hm : 0 ≤ ((e.subs.map fun x => (litT L x).1).length : Int) ∧ ((e.subs.map fun x => (litT L x).1).length : Int) ≤ 8 := by rw [List.length_map]; omega
          have hu1 := oneV_len (hall u (List.mem_of_getElem? hu)) hm
          rw [oneV_ty hu1]
          have hcn : ((e.subs.map fun x => (litT L x).1).length : Int) = cellsN ⟨(litT L u).2.1.Kind, (litT L u).2.1.Enum, ((e.subs.map fun x => (litT L x).1).length : Int)⟩ := by
            unfold cellsN
            dsimp only
            rw [List.length_map]
            repeat' split
            all_goals omega
          rw [decide_eq_true hcn]
          simp only [Bool.true_and]
          refine List.all_eq_true.2 fun y hy => ?_
          obtain ⟨x, hx, rfl⟩ := List.mem_map.1 hy
          exact oneV_len (hall x hx) hm
        · rename_i hno
          unfold cellsT at hc2
          rw [if_neg hno] at hc2
          cases hc2
      · cases h
    · rename_i h14
      generalize hq : litT L e = q at h
      obtain ⟨n, u, ok⟩ := q
      rw [cells_one hq] at h
      split at h
      · rename_i hok
        subst hok
        cases h
        obtain ⟨h1, h2⟩ := lit_one (l2 h14) (right_self hrc.1) hq
        unfold rightV
        rw [oneV_ty h1]
        simp [cellsN, h2, h1]
      · cases h
  · cases h
end Go.Proofs.YtidjmcmfgimbfaaGreatDoor
