/-
  TyR, TyI, TyW, TyC, TyV, TyX, TyY, TyS, TyT, TyU, TyZ, TyOf, FirstF, ScopeP1, ScopeP2, ScopeP3, ChkP2, ChkP3, ChkP4, ScopeP4, ChkX, ChkX2, ScopeX1, ScopeX2, ScopeX3, ScopeL, TyK, Reverse, Clock, Fits1, Fits2, Fits3, Fits4, Fits5, Fits6, Fits7, Fits8, Fits9, CkK, Ints, OrdKit, Reads, Reads2, Reads3, Cause1, AbsTB, Cause2, Cause3, Cause4, Cause5, CaK, Late, Late2, Start, StK, NmD, NmE, TyKP, TyKC, CkP, CkC, TyKX, TyKX2, CkX, CaP, CaX, StC, AbsK, DigD, NmF, NmI, NmC: put together.
-/
import Derived.Test.YtpamokpmlplopaaGreatDoorBunA
import Derived.Test.YtpamokpmlplopaaGreatDoorBunB
import Derived.Test.YtpamokpmlplopaaGreatDoorBunC
import Derived.Below
import Derived.Lib.LaidTab
import Derived.Lib.ItoaLen
namespace Go.Proofs.YtpamokpmlplopaaGreatDoor
open Go.Abs
set_option maxRecDepth 20000
set_option linter.unusedSimpArgs false
set_option linter.unusedVariables false
set_option maxHeartbeats 1000000
attribute [local irreducible] vc vcOps vcStep vcGuard prK hrK gK gsK brK callK ElemK SeqK BlockK ScopeK OpsK CallK LoopK LoopGo finPost ACall PCall PCallE BCall vqOps vqStep vqGuard qrK heK pcK gqK gqsK QOpsK qcallK DrawK
theorem getD_at {l : List DTy} {i : Nat} {x : DTy} (hx : l[i]? = some x) : l.getD i ty0 = x := by rw [List.getD_eq_getElem?_getD, hx]; rfl
theorem arms_hd {l : List ByteArray} {x : ByteArray} (hx : l[((0 : Int)).toNat]? = some x) : l.headD ⟨#[]⟩ = x := by
  match l with
  | y :: l => simp at hx; rw [hx]; rfl
theorem outs_hd {l : List DDecl} {x : DDecl} (hx : l[((0 : Int)).toNat]? = some x) : l.headD zeroD = x := by
  match l with
  | y :: l => simp at hx; rw [hx]; rfl

theorem flowP (p : DProg) (n : DNode) (hl : (allV n).length ≤ 60) (e : Ex) (ts : List DTy) (hk : 9 ≤ e.kind ∧ e.kind ≤ 13) (hlen : ¬ e.kind = 13 → 0 < ts.length) (h9 : e.kind = 9 → 1 < ts.length) (h11 : e.kind = 11 → 0 < e.arms.length) (h12 : (decl n e.name).1.Ty.Kind = 3 → 0 ≤ (decl n e.name).1.Ty.Enum ∧ (decl n e.name).1.Ty.Enum < p.Enums.length)
    (h13 : e.kind = 13 → (e.n = 0 ∨ e.n = 1) ∧ e.n ≤ (ts.length : Int)) : PCall Tryz.prog 222 [plE p n, e.enc, .lst 3 (ts.map DTy.enc) none] (tyA (flowT p n e ts)) := by
  refine pcall_of_vc tabOK Tryz.func222 (by kernel_rfl) rfl (pure_cons (pure_plE p n) (pure_cons (pure_enc e) (pure_cons (DTy.pures _) pure_nil))) (pure_tyA _) (n := 91) rfl (rs := [.cell 6 42, .tmp 7]) rfl ?_
  rcases (show e.kind = 9 ∨ e.kind = 11 ∨ e.kind = 12 ∨ e.kind = 13 ∨ e.kind = 10 by omega) with hk | hk | hk | hk | hk
  · have h1 := h9 hk
    obtain ⟨t0, ht0⟩ : ∃ t, ts[0]? = some t := ⟨_, List.getElem?_eq_getElem (by omega)⟩
    obtain ⟨t1, ht1⟩ : ∃ t, ts[1]? = some t := ⟨_, List.getElem?_eq_getElem (by omega)⟩
    have hf : flowT p n e ts = (t0, decide (t0 = t1)) := by unfold flowT; rw [if_pos hk, getD_at ht0, getD_at ht1]
    rw [hf]
    repeat' first
      | simp only [go_sem, hk]
      | refine drawC [2] mo (by kernel_rfl) ?_
      | refine elemHave (x := t0) (by omega) ht0 ?_
      | refine elemHave (x := t1) (by omega) ht1 ?_
      | exact finTy rfl rfl
  · obtain ⟨t0, ht0⟩ : ∃ t, ts[0]? = some t := ⟨_, List.getElem?_eq_getElem (hlen (by omega))⟩
    obtain ⟨a, ha⟩ : ∃ a, e.arms[0]? = some a := ⟨_, List.getElem?_eq_getElem (h11 hk)⟩
    have hf : flowT p n e ts = (t0, whenT p n e.name a) := by unfold flowT; rw [if_neg (by omega), if_pos hk, getD_at ht0, arms_hd (by simpa using ha)]
    rw [hf]
    repeat' first
      | simp only [go_sem, hk]
      | refine drawC [2] mo (by kernel_rfl) ?_
      | refine elemHave (x := t0) (by omega) ht0 ?_
      | refine elemHave (x := a) (by omega) ha ?_
      | (refine pcK_of (whenP p n hl e.name a) ?_)
      | exact finTy rfl rfl
  · obtain ⟨t0, ht0⟩ : ∃ t, ts[0]? = some t := ⟨_, List.getElem?_eq_getElem (hlen (by omega))⟩
    have hf : flowT p n e ts = (t0, (decl n e.name).2 && sameT ts && armsT p.Enums (decl n e.name).1.Ty e.arms) := by unfold flowT; rw [if_neg (by omega), if_neg (by omega), if_pos hk, getD_at ht0]
    rw [hf]
    simp only [go_sem, hk]
    refine PCall.call (decl25 n e.name (by omega)) ?_
    generalize decl n e.name = d at h12
    obtain ⟨d, ok⟩ := d
    repeat' first
      | simp only [go_sem, hk]
      | refine drawC [2] mo (by kernel_rfl) ?_
      | refine elemHave (x := t0) (by omega) ht0 ?_
      | (refine pcK_of (sameP ts) ?_; generalize sameT ts = b; cases b)
      | (refine pcK_of (armsP p n d.Ty e.arms h12) ?_)
      | exact finTy rfl (by simp)
      | (cases ok)
  · have h14 := h13 hk
    have hf : flowT p n e ts = if (callT p e ts).2 = true ∧ (callT p e ts).1.Outs.length = 1 then (((callT p e ts).1.Outs.headD zeroD).Ty, true) else (ty0, false) := by unfold flowT; rw [if_neg (by omega), if_neg (by omega), if_neg (by omega), if_pos hk]
    rw [hf]
    repeat' first
      | (exfalso; omega)
      | simp only [go_sem]
      | (intro _)
      | (refine PCall.call (callP p n e ts h14.1 h14.2) ?_; generalize callT p e ts = q; obtain ⟨m, ok⟩ := q; cases ok)
      | refine gK_dec (fun _ => ?_) (fun _ => ?_)
      | refine brK_dec (fun _ => ?_) (fun _ => ?_)
      | refine elemMap (by omega) (by omega) (fun x hx => ?_)
      | (have hz : m.Outs.length = 1 := (by omega); have ho := outs_hd hx; refine finTy rfl ?_; rw [if_pos hz, ho])
      | (have hz : ¬ m.Outs.length = 1 := (by omega); refine finTy rfl ?_; rw [if_neg hz])
      | (refine finTy rfl ?_; simp; done)
  · obtain ⟨t0, ht0⟩ : ∃ t, ts[0]? = some t := ⟨_, List.getElem?_eq_getElem (hlen (by omega))⟩
    have hf : flowT p n e ts = (t0, true) := by unfold flowT; rw [if_neg (by omega), if_neg (by omega), if_neg (by omega), if_neg (by omega), getD_at ht0]
    rw [hf]
    repeat' first
      | simp only [go_sem, hk]
      | refine elemHave (x := t0) (by omega) ht0 ?_
      | exact finTy rfl rfl
end Go.Proofs.YtpamokpmlplopaaGreatDoor

namespace Go.Proofs.YtpamokpmlplopaaGreatDoor
open Go.Abs
set_option maxRecDepth 20000
set_option linter.unusedSimpArgs false
set_option linter.unusedVariables false
set_option maxHeartbeats 1000000
attribute [local irreducible] vc vcOps vcStep vcGuard prK hrK gK gsK brK callK ElemK SeqK BlockK ScopeK OpsK CallK LoopK LoopGo finPost ACall PCall PCallE BCall vqOps vqStep vqGuard qrK heK pcK gqK gqsK QOpsK qcallK DrawK
set_option maxHeartbeats 8000000
section
variable {op : Int} {t u : DTy}
end

end Go.Proofs.YtpamokpmlplopaaGreatDoor

namespace Go.Proofs.YtpamokpmlplopaaGreatDoor
open Go.Abs
set_option maxRecDepth 20000
set_option linter.unusedSimpArgs false
set_option linter.unusedVariables false
set_option maxHeartbeats 1000000
attribute [local irreducible] vc vcOps vcStep vcGuard prK hrK gK gsK brK callK ElemK SeqK BlockK ScopeK OpsK CallK LoopK LoopGo finPost ACall PCall PCallE BCall vqOps vqStep vqGuard qrK heK pcK gqK gqsK QOpsK qcallK DrawK



theorem plainP (p : DProg) (n : DNode) (e : Ex) (ts : List DTy) (hk : e.kind = 5 ∨ e.kind = 6 ∨ e.kind = 7 ∨ e.kind = 14 ∨ e.kind = 15 ∨ e.kind = 16) (hlen : 0 < ts.length) (h2 : e.kind = 6 ∨ e.kind = 15 → 1 < ts.length) (h3 : e.kind = 7 ∨ e.kind = 16 → 2 < ts.length) : PCall Tryz.prog 223 [plE p n,e.enc, .lst 3 (ts.map DTy.enc) none] (tyA (plainT e ts)) := by
  refine pcall_of_vc tabOK Tryz.func223 (by kernel_rfl) rfl (by repeat' first | exact pure_nil | refine pure_cons ?_ ?_ | exact pure_plE _ _ | exact pure_enc _ | exact DTy.pures _) (pure_tyA _) (n := 111) rfl (rs := [.cell 6 42, .tmp 7]) rfl ?_
  obtain ⟨t0, ht0⟩ : ∃ t, ts[0]? = some t := ⟨_, List.getElem?_eq_getElem (by omega)⟩
  rcases hk with hk | hk | hk | hk | hk | hk
  · have hf : plainT e ts = unT e.op t0 := by unfold plainT; rw [if_pos hk, getD_at ht0]
    rw [hf]
    repeat' first
      | simp only [go_sem, hk]
      | refine drawC [2] mo (by kernel_rfl) ?_
      | refine elemHave (x := t0) (by omega) ht0 ?_
      | (refine pcK_of (unP e.op t0) ?_; generalize unT e.op t0 = q; obtain ⟨t, ok⟩ := q)
      | (refine PCall.call (unP e.op t0) ?_; generalize unT e.op t0 = q; obtain ⟨t, ok⟩ := q)
      | exact finTy rfl rfl
  · have h2' := h2 (.inl hk)
    obtain ⟨t1, ht1⟩ : ∃ t, ts[1]? = some t := ⟨_, List.getElem?_eq_getElem (by omega)⟩
    have hf : plainT e ts = binT e.op t0 t1 := by unfold plainT; rw [if_neg (by omega), if_pos hk, getD_at ht0, getD_at ht1]
    rw [hf]
    repeat' first
      | simp only [go_sem, hk]
      | refine drawC [2] mo (by kernel_rfl) ?_
      | refine elemHave (x := t0) (by omega) ht0 ?_
      | refine elemHave (x := t1) (by omega) ht1 ?_
      | (refine pcK_of (binP e.op t0 t1) ?_; generalize binT e.op t0 t1 = q; obtain ⟨t, ok⟩ := q)
      | (refine PCall.call (binP e.op t0 t1) ?_; generalize binT e.op t0 t1 = q; obtain ⟨t, ok⟩ := q)
      | exact finTy rfl rfl
  · have h3' := h3 (.inl hk)
    obtain ⟨t1, ht1⟩ : ∃ t, ts[1]? = some t := ⟨_, List.getElem?_eq_getElem (by omega)⟩
    obtain ⟨t2, ht2⟩ : ∃ t, ts[2]? = some t := ⟨_, List.getElem?_eq_getElem (by omega)⟩
    have hf : plainT e ts = (t1, decide (t0 = tyB) && decide (t1 = t2)) := by unfold plainT; rw [if_neg (by omega), if_neg (by omega), if_pos hk, getD_at ht0, getD_at ht1, getD_at ht2]
    rw [hf]
    repeat' first
      | simp only [go_sem, hk]
      | refine drawC [2] mo (by kernel_rfl) ?_
      | refine elemHave (x := t0) (by omega) ht0 ?_
      | refine elemHave (x := t1) (by omega) ht1 ?_
      | refine elemHave (x := t2) (by omega) ht2 ?_
      | (refine pcK_of (truthP t0) ?_)
      | refine gqK_dec (fun _ => ?_) (fun _ => ?_)
      | exact finTy rfl (by simp [*])
  · have hf : plainT e ts = (⟨t0.Kind, t0.Enum, (ts.length : Int)⟩, sameT ts && decide (t0.Len = 0)) := by unfold plainT; rw [if_neg (by omega), if_neg (by omega), if_neg (by omega), if_pos hk, getD_at ht0]
    rw [hf]
    repeat' first
      | simp only [go_sem, hk]
      | (intro _)
      | refine drawC [2] mo (by kernel_rfl) ?_
      | refine elemHave (x := t0) (by omega) ht0 ?_
      | (refine pcK_of (sameP ts) ?_; generalize sameT ts = b; cases b)
      | exact finTy rfl (by simp)
  · have h2' := h2 (.inr hk)
    obtain ⟨t1, ht1⟩ : ∃ t, ts[1]? = some t := ⟨_, List.getElem?_eq_getElem (by omega)⟩
    have hf : plainT e ts = (oneT t0, decide (t0.Len > 0) && decide (t1 = tyI)) := by unfold plainT; rw [if_neg (by omega), if_neg (by omega), if_neg (by omega), if_neg (by omega), if_pos hk, getD_at ht0, getD_at ht1]
    rw [hf]
    repeat' first
      | simp only [go_sem, hk]
      | refine drawC [2] mo (by kernel_rfl) ?_
      | refine elemHave (x := t0) (by omega) ht0 ?_
      | refine elemHave (x := t1) (by omega) ht1 ?_
      | (refine pcK_of (oneP t0) ?_)
      | (refine pcK_of (wholeP t1) ?_)
      | refine gqK_dec (fun _ => ?_) (fun _ => ?_)
      | exact finTy rfl (by simp [oneT, *])
  · have h3' := h3 (.inr hk)
    obtain ⟨t1, ht1⟩ : ∃ t, ts[1]? = some t := ⟨_, List.getElem?_eq_getElem (by omega)⟩
    obtain ⟨t2, ht2⟩ : ∃ t, ts[2]? = some t := ⟨_, List.getElem?_eq_getElem (by omega)⟩
    have hf : plainT e ts = (t0, decide (t0.Len > 0) && decide (t1 = tyI) && decide (t2 = oneT t0)) := by unfold plainT; rw [if_neg (by omega), if_neg (by omega), if_neg (by omega), if_neg (by omega), if_neg (by omega), getD_at ht0, getD_at ht1, getD_at ht2]
    rw [hf]
    unfold oneT
    repeat' first
      | simp only [go_sem, hk]
      | refine drawC [2] mo (by kernel_rfl) ?_
      | refine elemHave (x := t0) (by omega) ht0 ?_
      | refine elemHave (x := t1) (by omega) ht1 ?_
      | refine elemHave (x := t2) (by omega) ht2 ?_
      | (refine pcK_of (oneP t0) ?_)
      | (refine pcK_of (wholeP t1) ?_)
      | refine gqK_dec (fun _ => ?_) (fun _ => ?_)
      | exact finTy rfl (by simp [*])

abbrev subsA (o : Option (List DTy)) : AV := .tup [.lst 3 ((o.getD []).map DTy.enc) none, .b o.isSome]
theorem pure_subsA (o : Option (List DTy)) : Go.Abs.Pure (subsA o) := .tup _ (pure_cons (DTy.pures _) (pure_cons (.raw _) pure_nil))
theorem finS0 {T : TypeId → TI} {rs : List ResultVar} {s : List AV} {h : List Blk} {o : Option (List DTy)} (hr : resAV T s h rs = some [.raw (.slice none 0 0), .b false]) (ho : o = none) : Go.Abs.Fin T rs (subsA o) s h := by
  subst ho
  refine ⟨_, hr, false, Weak.tup _ _ rfl (fun i c d hc hd => ?_)⟩
  match i with
  | 0 => (cases hc; cases hd; exact .nil _)
  | 1 => (cases hc; cases hd; exact .refl _)
  | i + 2 => simp at hc
theorem finSk {T : TypeId → TI} {rs : List ResultVar} {s : List AV} {h : List Blk} {o : Option (List DTy)} {ts : List DTy} {k : Nat} (hr : resAV T s h rs = some [.lst 3 (ts.map DTy.enc) (some k), .b true]) (ho : o = some ts) : Go.Abs.Fin T rs (subsA o) s h := by
  subst ho
  refine ⟨_, hr, false, Weak.tup _ _ rfl (fun i c d hc hd => ?_)⟩
  match i with
  | 0 => (cases hc; cases hd; exact .tok _ _ _)
  | 1 => (cases hc; cases hd; exact .refl _)
  | i + 2 => simp at hc
theorem allS_len : ∀ {l : List (Option DTy)} {ts : List DTy}, allS l = some ts → ts.length = l.length
  | [], ts, h => by cases h; rfl
  | none :: l, ts, h => by cases h
  | some t :: l, ts, h => by
    rw [allS] at h
    cases hq : allS l with
    | none => rw [hq] at h; cases h
    | some us => rw [hq] at h; cases h; simp [allS_len hq]
theorem allS_snoc : ∀ {l : List (Option DTy)} {ts : List DTy} (t : DTy), allS l = some ts → allS (l ++ [some t]) = some (ts ++ [t])
  | [], ts, t, h => by cases h; rfl
  | none :: l, ts, t, h => by cases h
  | some u :: l, ts, t, h => by
    rw [allS] at h
    cases hq : allS l with
    | none => rw [hq] at h; cases h
    | some us => rw [hq] at h; cases h; rw [List.cons_append, allS, allS_snoc t hq]; rfl
theorem allS_none : ∀ {l : List (Option DTy)}, none ∈ l → allS l = none
  | [], h => by simp at h
  | none :: l, _ => rfl
  | some u :: l, h => by
    rw [allS, allS_none (l := l) (by simpa using h)]
    rfl
abbrev OfC (p : DProg) (n : DNode) (x : Ex) : Prop := PCall Tryz.prog 174 [plE p n, x.enc] (tyA (headP p n x (ofL p n x.subs)))

theorem subsP (p : DProg) (n : DNode) (e : Ex) (hb : e.subs.length ≤ 200) (ih : ∀ x ∈ e.subs, OfC p n x) : PCall Tryz.prog 221 [plE p n, e.enc] (subsA (allS (ofL p n e.subs))) := by
  refine pcall_of_vc tabOK Tryz.func221 (by kernel_rfl) rfl (pure_cons (pure_plE p n) (pure_cons (pure_enc e) pure_nil)) (pure_subsA _) (n := 32) rfl (rs := [.tmp 4, .tmp 5]) rfl ?_
  rw [ofL_map]
  simp only [go_sem]
  intro _
  refine loop_ghost (ghost_tok 6 42 3 rfl) ?_
  refine loop_fr [4, 5, 6, 8, 9, 10, 14, 15, 16, 17, 18, 19, 20, 21, 22, 23, 24, 25, 26, 27, 28, 29, 30] (fun m C hh => ∃ (i : Nat) (r : List Blk) (ts : List DTy), i ≤ e.subs.length ∧ m = e.subs.length - i ∧ allS ((e.subs.take i).map (ofT p n)) = some ts ∧ ts.length = i ∧ C = [(14, .raw (.int .i64 (i : Nat))), (6, .lst 3 (ts.map DTy.enc) (some 2))] ∧
    hh = .cells 204 [.lst 2 (p.Enums.map DEnum.enc) none, .lst 5 (p.Nodes.map DNode.enc) none, .s n.Name, .lst 6 (n.Ins.map DDecl.enc) none, .lst 6 (n.Outs.map DDecl.enc) none, .lst 6 (n.Vars.map DDecl.enc) none, .lst 7 (n.Eqs.map DEq.enc) none] :: .cells 72 [.i e.kind, .i e.n, .s e.name, .i e.op, .lst 1 (e.arms.map AV.s) none, .lst 6 (e.subs.map Ex.enc) none] :: .tok 42 3 i :: r) e.subs.length _ ⟨0, [], [], by omega, by omega, rfl, rfl, rfl, rfl⟩ (.cons rfl (.cons rfl .nil)) ?_
  rintro m C ja hh ⟨i, r, ts, hi, rfl, hA, hl, rfl, rfl⟩
  simp only [go_sem]
  refine brK_dec (fun hlt => ?_) (fun hge => ?_)
  · simp only [go_sem]
    refine elemMap (by omega) (by omega) (fun x hx => ?_)
    have hxm := List.mem_of_getElem? hx
    have hst := take_mapS (f := ofT p n) hx
    have hoT := ofT_eq p n x
    simp only [go_sem]
    refine PCall.call (ih x hxm) ?_
    generalize headP p n x (ofL p n x.subs) = q at hoT
    obtain ⟨t, ok⟩ := q
    cases ok with
    | false =>
      simp only [go_sem]
      exact finS0 rfl (allS_none (List.mem_map.2 ⟨x, hxm, by rw [hoT]; rfl⟩))
    | true =>
      simp only [go_sem]
      refine ⟨by omega, ?_⟩
      exact loopFr _ (by omega) ⟨i + 1, _, ts ++ [t], by omega, rfl, by rw [hst, hoT]; exact allS_snoc t hA, by simp [hl], rfl, by rw [hl]⟩ (.next rfl (by omega) (.cons (by simp [slot]) .nil)) rfl
  · rw [List.take_of_length_le (by omega)] at hA
    simp only [go_sem]
    exact finSk rfl hA

theorem delayedP (p : DProg) (n : DNode) (e c x : Ex) (hs : e.subs = [c, x]) (h8 : e.kind = 8) (hc : okE c) (ih : OfC p n x) : PCall Tryz.prog 220 [plE p n, e.enc] (tyA (headP p n e (ofL p n e.subs))) := by
  refine pcall_of_vc tabOK Tryz.func220 (by kernel_rfl) rfl (pure_cons (pure_plE p n) (pure_cons (pure_enc e) pure_nil)) (pure_tyA _) (n := 42) rfl (rs := [.cell 4 42, .tmp 5]) rfl ?_
  have hf : headP p n e (ofL p n e.subs) = ((constT p.Enums c).2.1, (constT p.Enums c).2.2 && decide (ofT p n x = some (constT p.Enums c).2.1)) := by
    unfold headP
    rw [if_neg (by omega), if_neg (by omega), if_pos h8, hs, ofL_map]
    rfl
  have hoT := ofT_eq p n x
  rw [hf]
  have e0 : e.subs[0]? = some c := by rw [hs]; rfl
  have e1 : e.subs[1]? = some x := by rw [hs]; rfl
  generalize hq : constT p.Enums c = q
  obtain ⟨l, t, ok⟩ := q
  generalize hq2 : headP p n x (ofL p n x.subs) = q2 at hoT
  obtain ⟨u, is⟩ := q2
  have hcP := constP p.Enums c hc
  rw [hq] at hcP
  have hx := ih
  unfold OfC at hx
  rw [hq2] at hx
  repeat' first
    | simp only [go_sem]
    | refine drawC [2] mo (by kernel_rfl) ?_
    | refine elemHave (x := c) (by omega) e0 ?_
    | refine elemHave (x := x) (by omega) e1 ?_
    | (refine pcK_of hcP ?_)
    | (refine pcK_of hx ?_)
    | refine gqK_split (fun _ => ?_) (fun _ => ?_)
    | refine gqK_dec (fun _ => ?_) (fun _ => ?_)
  all_goals (refine finTy rfl ?_; rw [hoT]; first | (simp [opt, *]; done) | (simp [opt, *]; exact eq_comm))
theorem part_facts {e : Ex} (h : partE e = true) : (1 ≤ e.kind ∧ e.kind ≤ 17) ∧ (subsE e).1 ≤ e.subs.length ∧ (e.subs.length : Int) ≤ (subsE e).2 ∧ (e.kind = 11 → 0 < e.arms.length) ∧ (e.kind = 12 → 0 < e.arms.length) ∧ (e.kind = 13 → e.n = 0 ∨ e.n = 1) := by
  obtain ⟨h1, h2, _⟩ := partE_len h
  unfold partE at h
  simp only [Bool.and_eq_true, decide_eq_true_eq] at h
  obtain ⟨⟨⟨⟨⟨⟨hk, hn⟩, _⟩, ha⟩, _⟩, _⟩, _⟩ := h
  refine ⟨hk, h1, h2, fun k => ?_, fun k => ?_, fun k => ?_⟩
  · unfold armsE at ha
    rw [if_pos k] at ha
    simp only [Bool.and_eq_true, decide_eq_true_eq] at ha
    omega
  · unfold armsE at ha
    rw [if_neg (by omega), if_pos k] at ha
    simp only [Bool.and_eq_true, decide_eq_true_eq] at ha
    omega
  · unfold numbersE at hn
    rw [if_neg (by omega), if_neg (by omega), if_neg (by omega), if_pos (.inr k)] at hn
    simp only [Bool.and_eq_true, decide_eq_true_eq] at hn
    exact hn.2
def tyOK (p : DProg) (n : DNode) : Prop := (allV n).length ≤ 60 ∧ ∀ nm, (decl n nm).1.Ty.Kind = 3 → 0 ≤ (decl n nm).1.Ty.Enum ∧ (decl n nm).1.Ty.Enum < p.Enums.length
theorem sub_ok {e x : Ex} (h : ∀ y ∈ parts e, partE y = true) (hx : x ∈ e.subs) : ∀ y ∈ parts x, partE y = true := fun y hy => h y (sub_parts hx hy)
theorem sub_okE {e x : Ex} (h : okE e) (hx : x ∈ e.subs) : okE x := ok_part h (sub_parts hx (self_parts x))

theorem ofP (p : DProg) (n : DNode) (ho : tyOK p n) : ∀ (e : Ex), (∀ y ∈ parts e, partE y = true) → okE e → OfC p n e := by
  intro e
  induction e using Ex.ind with
  | _ e ih =>
  intro hp hok
  have hsl := subs_le hok
  obtain ⟨hk, hlo, hhi, ha11, ha12, hn13⟩ := part_facts (hp e (self_parts e))
  have ih' : ∀ x ∈ e.subs, OfC p n x := fun x hx => ih x hx (sub_ok hp hx) (sub_okE hok hx)
  unfold OfC
  refine pcall_of_vc tabOK Tryz.func174 (by kernel_rfl) rfl (pure_cons (pure_plE p n) (pure_cons (pure_enc e) pure_nil)) (pure_tyA _) (n := 82) rfl (rs := [.cell 4 42, .tmp 5]) rfl ?_
  by_cases h124 : e.kind = 1 ∨ e.kind = 2 ∨ e.kind = 4
  · have hf : headP p n e (ofL p n e.subs) = ((constT p.Enums e).2.1, (constT p.Enums e).2.2) := by unfold headP; rw [if_pos h124]
    rw [hf]
    have hc := constP p.Enums e hok
    generalize constT p.Enums e = q at hc
    obtain ⟨l, t, ok⟩ := q
    repeat' first
      | (exfalso; omega)
      | simp only [go_sem]
      | refine brK_dec (fun _ => ?_) (fun _ => ?_)
      | (refine PCall.call hc ?_)
      | exact finTy rfl rfl
  by_cases h3 : e.kind = 3
  · have hf : headP p n e (ofL p n e.subs) = ((decl n e.name).1.Ty, (decl n e.name).2) := by unfold headP; rw [if_neg h124, if_pos h3]
    rw [hf]
    have hc := decl25 n e.name (by have := ho.1; omega)
    generalize decl n e.name = q at hc
    obtain ⟨d, ok⟩ := q
    repeat' first
      | (exfalso; omega)
      | simp only [go_sem]
      | refine brK_dec (fun _ => ?_) (fun _ => ?_)
      | (refine PCall.call hc ?_)
      | exact finTy rfl rfl
  by_cases h8 : e.kind = 8
  · have hs2 : (subsE e).1 = 2 ∧ (subsE e).2 = 2 := by simp [subsE, h8]
    match hs : e.subs, (show e.subs.length = 2 by omega) with
    | [c, x], _ =>
      have hd := delayedP p n e c x hs h8 (sub_okE hok (by rw [hs]; simp)) (ih' x (by rw [hs]; simp))
      rw [hs] at hd
      generalize headP p n e (ofL p n [c, x]) = q at hd
      obtain ⟨t, ok⟩ := q
      repeat' first
        | (exfalso; omega)
        | simp only [go_sem]
        | refine brK_dec (fun _ => ?_) (fun _ => ?_)
        | (refine PCall.call hd ?_)
        | exact finTy rfl rfl
  by_cases h17 : e.kind = 17
  · have hf : headP p n e (ofL p n e.subs) = (ty0, false) := by unfold headP; rw [if_neg h124, if_neg h3, if_neg h8, if_pos h17]
    rw [hf]
    repeat' first
      | (exfalso; omega)
      | simp only [go_sem]
      | refine brK_dec (fun _ => ?_) (fun _ => ?_)
      | exact finTy rfl rfl
  have hf0 : allS (ofL p n e.subs) = none → headP p n e (ofL p n e.subs) = (ty0, false) := fun h => by
    unfold headP; rw [if_neg h124, if_neg h3, if_neg h8, if_neg h17, h]
  have hf1 : ∀ ts, allS (ofL p n e.subs) = some ts → headP p n e (ofL p n e.subs) = if 9 ≤ e.kind ∧ e.kind ≤ 13 then flowT p n e ts else plainT e ts := fun ts h => by
    unfold headP; rw [if_neg h124, if_neg h3, if_neg h8, if_neg h17, h]
  have hsub := subsP p n e hsl ih'
  have hlen : ∀ ts, allS (ofL p n e.subs) = some ts → ts.length = e.subs.length := fun ts h => by rw [allS_len h, ofL_map, List.length_map]
  generalize headP p n e (ofL p n e.subs) = HH at hf0 hf1 ⊢
  generalize allS (ofL p n e.subs) = S at hsub hlen hf0 hf1
  cases S with
  | none =>
    rw [hf0 rfl]
    have hsub : PCall Tryz.prog 221 [plE p n, e.enc] (.tup [.lst 3 [] none, .b false]) := hsub
    repeat' first
      | (exfalso; omega)
      | simp only [go_sem]
      | refine brK_dec (fun _ => ?_) (fun _ => ?_)
      | (refine PCall.call hsub ?_)
      | exact finTy rfl rfl
  | some ts =>
    have hl := hlen ts rfl
    have hsub : PCall Tryz.prog 221 [plE p n, e.enc] (.tup [.lst 3 (ts.map DTy.enc) none, .b true]) := hsub
    rw [hf1 ts rfl]
    by_cases hfl : 9 ≤ e.kind ∧ e.kind ≤ 13
    · rw [if_pos hfl]
      have hfp := flowP p n ho.1 e ts hfl
        (fun h => by
          have : 1 ≤ (subsE e).1 := by
            rcases (show e.kind = 9 ∨ e.kind = 10 ∨ e.kind = 11 ∨ e.kind = 12 by omega) with k | k | k | k
            · simp [subsE, k]
            · simp [subsE, k]
            · simp [subsE, k]
            · have := ha12 k; simp [subsE, k]; omega
          omega)
        (fun h => by have : (subsE e).1 = 2 := by simp [subsE, h]
                     omega) ha11 (ho.2 e.name)
        (fun h => ⟨hn13 h, by have : (subsE e).1 = e.n := by simp [subsE, h]
                              omega⟩)
      generalize flowT p n e ts = q at hfp
      obtain ⟨t, ok⟩ := q
      repeat' first
        | (exfalso; omega)
        | simp only [go_sem]
        | refine brK_dec (fun _ => ?_) (fun _ => ?_)
        | (refine PCall.call hsub ?_)
        | (refine PCall.call hfp ?_)
        | exact finTy rfl rfl
    · rw [if_neg hfl]
      have hk2 : e.kind = 5 ∨ e.kind = 6 ∨ e.kind = 7 ∨ e.kind = 14 ∨ e.kind = 15 ∨ e.kind = 16 := by omega
      have hpp := plainP p n e ts hk2
        (by
          have : 1 ≤ (subsE e).1 := by rcases hk2 with k | k | k | k | k | k <;> simp [subsE, k]
          omega)
        (fun h => by
          have : (subsE e).1 = 2 := by rcases h with k | k <;> simp [subsE, k]
          omega)
        (fun h => by
          have : (subsE e).1 = 3 := by rcases h with k | k <;> simp [subsE, k]
          omega)
      generalize plainT e ts = q at hpp
      obtain ⟨t, ok⟩ := q
      repeat' first
        | (exfalso; omega)
        | simp only [go_sem]
        | refine brK_dec (fun _ => ?_) (fun _ => ?_)
        | (refine PCall.call hsub ?_)
        | (refine PCall.call hpp ?_)
        | exact finTy rfl rfl
def normT (o : Option DTy) : DTy × Bool := (o.getD ty0, o.isSome)
theorem normT_opt (q : DTy × Bool) : normT (opt q) = if q.2 = true then q else (ty0, false) := by
  obtain ⟨t, ok⟩ := q
  cases ok <;> rfl
theorem check_nodes {p : DProg} (h : checkF p = 0) : p.Nodes.all (nodeF p.Enums.length) = true := by
  unfold checkF at h
  split at h
  · rename_i h0; exact absurd h h0
  · split at h
    · omega
    · split at h
      · omega
      · split at h
        · assumption
        · omega
theorem declF_mem (nm : ByteArray) : ∀ l : List DDecl, (declF nm l).1 ∈ l ∨ (declF nm l).1 = zeroD
  | [] => .inr rfl
  | d :: l => by
    rw [declF]
    split
    · exact .inl List.mem_cons_self
    · rcases declF_mem nm l with h | h
      · exact .inl (List.mem_cons_of_mem _ h)
      · exact .inr h
theorem tyOK_of {p : DProg} (hp : okProg p) (h : checkF p = 0) : ∀ n ∈ p.Nodes, tyOK p n := by
  intro n hn
  have h0 := hp.2.2 n hn
  have h1 := h0.1.1
  have h2 := h0.2.1.1
  have h3 := h0.2.2.1.1
  refine ⟨by simp [allV]; omega, fun nm hk => ?_⟩
  have hnf := List.all_eq_true.1 (check_nodes h) n hn
  unfold nodeF at hnf
  simp only [Bool.and_eq_true] at hnf
  rcases declF_mem nm (allV n) with hm | hm
  · have hd := List.all_eq_true.1 hnf.1.1.1 _ hm
    unfold declaredF at hd
    simp only [Bool.and_eq_true] at hd
    have hr := hd.1.2
    unfold rightTyF at hr
    have hr := of_decide_eq_true hr
    have hk' : (declF nm (allV n)).1.Ty.Kind = 3 := hk
    show 0 ≤ (declF nm (allV n)).1.Ty.Enum ∧ (declF nm (allV n)).1.Ty.Enum < p.Enums.length
    omega
  · have hk' : (declF nm (allV n)).1.Ty.Kind = 3 := hk
    rw [hm] at hk'
    cases hk'
def ofN0 (o : Option (DTy × Bool)) : DTy × Bool := o.getD (ty0, false)
noncomputable def ofN (p : DProg) (k : Int) (e : Ex) : DTy × Bool := if k < 0 then (ty0, false) else ofN0 (p.Nodes[k.toNat]?.map fun n => normT (ofT p n e))

theorem OfPk (p : DProg) (k : Int) (e : Ex) (hty : ∀ n ∈ p.Nodes, tyOK p n) (hp : ∀ y ∈ parts e, partE y = true) (hok : okE e) : PCall Tryz.prog 138 [p.enc, .i k, e.enc] (tyA (ofN p k e)) := by
  refine pcall_of_vc tabOK Tryz.func138 (by kernel_rfl) rfl (pure_cons (DProg.pure _) (pure_cons (.raw _) (pure_cons (pure_enc e) pure_nil))) (pure_tyA _) (n := 36) rfl (rs := [.cell 6 42, .tmp 7]) rfl ?_
  by_cases hk : k < 0
  · have hf : ofN p k e = (ty0, false) := by unfold ofN; rw [if_pos hk]
    rw [hf]
    repeat' first
      | (exfalso; omega)
      | simp only [go_sem]
      | (intro _)
      | refine brK_dec (fun _ => ?_) (fun _ => ?_)
      | refine gK_dec (fun _ => ?_) (fun _ => ?_)
      | exact finTy rfl rfl
  · cases hn : p.Nodes[k.toNat]? with
    | none =>
      have hl : p.Nodes.length ≤ k.toNat := List.getElem?_eq_none_iff.1 hn
      have hf : ofN p k e = (ty0, false) := by unfold ofN; rw [if_neg hk, hn]; rfl
      rw [hf]
      repeat' first
        | (exfalso; omega)
        | simp only [go_sem]
        | (intro _)
        | refine brK_dec (fun _ => ?_) (fun _ => ?_)
        | refine gK_dec (fun _ => ?_) (fun _ => ?_)
        | exact finTy rfl rfl
    | some n =>
      have hl : k.toNat < p.Nodes.length := (List.getElem?_eq_some_iff.1 hn).1
      have hf : ofN p k e = normT (ofT p n e) := by unfold ofN; rw [if_neg hk, hn]; rfl
      have hof := ofP p n (hty n (List.mem_of_getElem? hn)) e hp hok
      unfold OfC at hof
      rw [hf, ofT_eq, normT_opt]
      generalize headP p n e (ofL p n e.subs) = q at hof
      obtain ⟨t, ok⟩ := q
      cases ok
      all_goals
        repeat' first
          | (exfalso; omega)
          | simp only [go_sem]
          | (intro _)
          | refine brK_dec (fun _ => ?_) (fun _ => ?_)
          | refine gK_dec (fun _ => ?_) (fun _ => ?_)
          | refine drawK mo (by kernel_rfl) ?_
          | refine elemHave (x := n) (by omega) hn ?_
          | (refine pcK_of hof ?_)
          | exact finTy rfl rfl
theorem right_parts {e : Ex} (h : rightE e = true) : ∀ y ∈ parts e, partE y = true := by
  unfold rightE at h
  simp only [Bool.and_eq_true] at h
  exact fun y hy => List.all_eq_true.1 h.2 y hy
def firstF (f : Nat → DNode → DFault) : Nat → List DNode → DFault
  | _, [] => ⟨0, 0, 0⟩
  | i, n :: r => if (f i n).Err = 0 then firstF f (i + 1) r else f i n
def firstE (a err : Int) (f : Nat → DEq → Bool) : Nat → List DEq → DFault
  | _, [] => ⟨0, 0, 0⟩
  | k, q :: r => if f k q = true then firstE a err f (k + 1) r else ⟨a, (k : Int), err⟩
theorem first_next {f : Nat → DNode → DFault} {l : List DNode} {i : Nat} {n : DNode} {E : DFault} (hE : firstF f i (l.drop i) = E) (hx : l[i]? = some n) (h : (f i n).Err = 0) : firstF f (i + 1) (l.drop (i + 1)) = E := by
  obtain ⟨hi, rfl⟩ := List.getElem?_eq_some_iff.1 hx
  rw [List.drop_eq_getElem_cons hi, firstF, if_pos h] at hE
  exact hE
theorem first_at {f : Nat → DNode → DFault} {l : List DNode} {i : Nat} {n : DNode} {E : DFault} (hE : firstF f i (l.drop i) = E) (hx : l[i]? = some n) (h : ¬ (f i n).Err = 0) : E = f i n := by
  obtain ⟨hi, rfl⟩ := List.getElem?_eq_some_iff.1 hx
  rw [List.drop_eq_getElem_cons hi, firstF, if_neg h] at hE
  exact hE.symm
theorem first_0 {f : Nat → DNode → DFault} {l : List DNode} {i : Nat} {E : DFault} (hE : firstF f i (l.drop i) = E) (hi : l.length ≤ i) : E = ⟨0, 0, 0⟩ := by
  rw [List.drop_of_length_le hi, firstF] at hE
  exact hE.symm
theorem firstE_next {a err : Int} {f : Nat → DEq → Bool} {l : List DEq} {i : Nat} {q : DEq} {E : DFault} (hE : firstE a err f i (l.drop i) = E) (hx : l[i]? = some q) (h : f i q = true) : firstE a err f (i + 1) (l.drop (i + 1)) = E := by
  obtain ⟨hi, rfl⟩ := List.getElem?_eq_some_iff.1 hx
  rw [List.drop_eq_getElem_cons hi, firstE, if_pos h] at hE
  exact hE
theorem firstE_at {a err : Int} {f : Nat → DEq → Bool} {l : List DEq} {i : Nat} {q : DEq} {E : DFault} (hE : firstE a err f i (l.drop i) = E) (hx : l[i]? = some q) (h : f i q = false) : E = ⟨a, (i : Int), err⟩ := by
  obtain ⟨hi, rfl⟩ := List.getElem?_eq_some_iff.1 hx
  rw [List.drop_eq_getElem_cons hi, firstE, if_neg (by rw [h]; simp)] at hE
  exact hE.symm
theorem firstE_0 {a err : Int} {f : Nat → DEq → Bool} {l : List DEq} {i : Nat} {E : DFault} (hE : firstE a err f i (l.drop i) = E) (hi : l.length ≤ i) : E = ⟨0, 0, 0⟩ := by
  rw [List.drop_of_length_le hi, firstE] at hE
  exact hE.symm
theorem firstE_zero {a err : Int} {f : Nat → DEq → Bool} (he : ¬ err = 0) : ∀ {l : List DEq} {i : Nat}, (firstE a err f i l).Err = 0 → firstE a err f i l = ⟨0, 0, 0⟩ ∧ ∀ (k : Nat) q, l[k]? = some q → f (i + k) q = true
  | [], i, _ => ⟨rfl, fun k q h => by simp at h⟩
  | q :: r, i, h => by
    rw [firstE] at h ⊢
    split at h
    · rename_i hq
      obtain ⟨h1, h2⟩ := firstE_zero he h
      refine ⟨by rw [if_pos hq]; exact h1, fun k x hk => ?_⟩
      match k with
      | 0 => simp at hk; subst hk; exact hq
      | k + 1 => have := h2 k x (by simpa using hk); rw [show i + (k + 1) = i + 1 + k by omega]; exact this
    · exact absurd h he
theorem firstF_zero {f : Nat → DNode → DFault} : ∀ {l : List DNode} {i : Nat}, (firstF f i l).Err = 0 → firstF f i l = ⟨0, 0, 0⟩ ∧ ∀ (k : Nat) n, l[k]? = some n → (f (i + k) n).Err = 0
  | [], i, _ => ⟨rfl, fun k q h => by simp at h⟩
  | n :: r, i, h => by
    rw [firstF] at h ⊢
    split at h
    · rename_i hq
      obtain ⟨h1, h2⟩ := firstF_zero h
      refine ⟨by rw [if_pos hq]; exact h1, fun k x hk => ?_⟩
      match k with
      | 0 => simp at hk; subst hk; exact hq
      | k + 1 => have := h2 k x (by simpa using hk); rw [show i + (k + 1) = i + 1 + k by omega]; exact this
    · rename_i hq; exact absurd h hq
end Go.Proofs.YtpamokpmlplopaaGreatDoor

namespace Go.Proofs.YtpamokpmlplopaaGreatDoor
open Go.Abs
set_option maxRecDepth 20000
set_option linter.unusedSimpArgs false
set_option linter.unusedVariables false
set_option maxHeartbeats 1000000
attribute [local irreducible] vc vcOps vcStep vcGuard prK hrK gK gsK brK callK ElemK SeqK BlockK ScopeK OpsK CallK LoopK LoopGo finPost ACall PCall PCallE BCall vqOps vqStep vqGuard qrK heK pcK gqK gqsK QOpsK qcallK DrawK
abbrev HS (A : List Blk) (p : DProg) (at_ : Int) (c : Nat) (f : Value → Option AV) (r : List Blk) : List Blk := A ++ .mp .str c f :: .cells 268 [.lst 2 (p.Enums.map DEnum.enc) none, .lst 5 (p.Nodes.map DNode.enc) none, .i at_, .map A.length] :: r
theorem finKb {T : TypeId → TI} {s : List AV} {h : List Blk} {rs : List ResultVar} {K : AV → List Blk → Prop} {b c : Bool} (hl : resAV T s h rs = some [.b b]) (e : c = b) (hK : K (.b c) h) : FinK T rs K s h := by
  subst e
  exact finK hl hK
theorem HS_app {A r r' : List Blk} {p : DProg} {at_ : Int} {c : Nat} {f : Value → Option AV} : HS A p at_ c f (r ++ r') = HS A p at_ c f r ++ r' := by simp
section
variable {A r : List Blk} {p : DProg} {at_ : Int} {c : Nat} {f : Value → Option AV} {n : DNode} {D : List ByteArray} {K : AV → List Blk → Prop}

theorem is138 (hM : MapN f (knF n D)) (s : ByteArray) (hK : ∀ r', K (.b (isF n s)) (HS A p at_ c f (r ++ r'))) : ACall Tryz.prog 290 [.ptr (A.length + 1) 0, .s s] (HS A p at_ c f r) K := by
  have hMx := hM s
  have his := kn_is n D s
  have hk := hK []
  rw [List.append_nil] at hk
  rw [← his] at hk
  refine acallK_of_vc tabOK Tryz.func290 (by kernel_rfl) rfl (n := 12) rfl (rs := [.tmp 4]) rfl ?_
  simp only [go_sem, hMx]
  refine finK (r := .b (decide (0 < knF n D s))) ?_ hk
  have e : decide (((knF n D s : Nat) : Int) > 0) = decide (0 < knF n D s) := decide_eq_decide.2 (by omega)
  rw [e]
  rfl

theorem arm139 (s : ByteArray) (hK : ∀ r', K (.b (armOk p.Enums s)) (HS A p at_ c f (r ++ r'))) : ACall Tryz.prog 291 [.ptr (A.length + 1) 0, .s s] (HS A p at_ c f r) K := by
  refine acallK_of_vc tabOK Tryz.func291 (by kernel_rfl) rfl (n := 20) rfl (rs := [.tmp 4]) rfl ?_
  simp only [go_sem]
  refine PCall.call (arm146 p.Enums s) ?_
  unfold armOk at hK
  generalize armF p.Enums s = q at hK
  obtain ⟨t, v, ok⟩ := q
  simp only [go_sem]
  refine finK (r := .b ok) rfl ?_
  have hk := hK [.cells 42 [.i t.Kind, .i t.Enum, .i t.Len]]
  simpa using hk

theorem define140 (hM : MapN f (knF n D)) (s : ByteArray) (h5 : isF n s = false → ∀ r', K (.i 5) (HS A p at_ c f (r ++ r'))) (h6 : isF n s = true → (inF n s = true ∨ s ∈ D) → ∀ r', K (.i 6) (HS A p at_ c f (r ++ r')))
    (h0 : isF n s = true → inF n s = false → s ∉ D → ∀ c' f' r', MapN f' (knF n (D ++ [s])) → K (.i 0) (HS A p at_ c' f' (r ++ r'))) : ACall Tryz.prog 292 [.ptr (A.length + 1) 0, .s s] (HS A p at_ c f r) K := by
  have hMx := hM s
  refine acallK_of_vc tabOK Tryz.func292 (by kernel_rfl) rfl (n := 21) rfl (rs := [.tmp 4]) rfl ?_
  simp only [go_sem]
  refine is138 hM s (fun r1 => ?_)
  cases hi : isF n s with
  | false =>
    simp only [go_sem]
    exact finK (r := .i 5) rfl (h5 hi r1)
  | true =>
    simp only [go_sem, hMx]
    have hfr := kn_free (D := D) hi
    refine brK_dec (fun hq => ?_) (fun hq => ?_)
    · simp only [go_sem]
      refine finK (r := .i 6) rfl (h6 hi ?_ r1)
      by_cases hz : inF n s = true ∨ s ∈ D
      · exact hz
      · exact absurd (by have := hfr.2 hz; omega) hq
    · have hz : knF n D s = 2 := by omega
      have hnz := hfr.1 hz
      obtain ⟨k1, k2⟩ := kn_put hz
      simp only [go_sem]
      refine finK (r := .i 0) rfl (h0 hi (by cases hh : inF n s; rfl; exact absurd (.inl hh) hnz) (fun hm => hnz (.inr hm)) _ _ r1 ?_)
      exact hM.put s 3 (knF n (D ++ [s])) k1 k2

theorem clocked88 (hM : MapN f (knF n D)) (d : DDecl) (hK : ∀ r', K (.b (clockedF p.Enums n d)) (HS A p at_ c f (r ++ r'))) : ACall Tryz.prog 245 [.ptr (A.length + 1) 0, d.enc] (HS A p at_ c f r) K := by
  unfold clockedF at hK
  refine acallK_of_vc tabOK Tryz.func245 (by kernel_rfl) rfl (n := 20) rfl (rs := [.tmp 4]) rfl ?_
  repeat' first
    | simp only [go_sem]
    | refine gK_dec (fun _ => ?_) (fun _ => ?_)
    | refine gK_split (fun _ => ?_) (fun _ => ?_)
    | ((fail_if_success (clear hi)); refine is138 hM d.On (fun r1 => ?_); generalize hi : isF n d.On = i at hK ⊢; cases i)
    | (refine arm139 d.Ctor (fun r2 => ?_); generalize armOk p.Enums d.Ctor = i at hK ⊢; cases i)
    | exact finKb rfl (by simp [*]) (hK _)

theorem node87 {j : Nat} (hj : p.Nodes[j]? = some n) (hK : ∀ r', K n.enc (HS A p (j : Int) c f (r ++ r'))) : ACall Tryz.prog 244 [.ptr (A.length + 1) 0] (HS A p (j : Int) c f r) K := by
  refine acallK_of_vc tabOK Tryz.func244 (by kernel_rfl) rfl (n := 14) rfl (rs := [.cell 2 68]) rfl ?_
  simp only [go_sem]
  refine drawZ mo (by kernel_rfl) rfl ?_
  simp only [List.dropLast_cons_cons, List.dropLast_singleton, List.getLast_cons_cons, List.getLast_singleton]
  repeat' first
    | simp only [go_sem]
    | refine elemHave (by omega) hj ?_
  refine ⟨[n.enc], ?_, n.enc, .refl _, hK _⟩
  rw [DNode.enc_eq]
  simp only [go_sem]

theorem leads178 (s : ByteArray) {h : List Blk} {k : Nat} (hk : h[k]? = some (.cells 234 [.ptr (A.length + 1) 0])) (hh : ∃ r, h = HS A p at_ c f r) (hK : K (.b (!(armOk p.Enums s))) h) : ACall Tryz.prog 318 [.s s, .ptr k 0] h K := by
  obtain ⟨r, rfl⟩ := hh
  refine acall_of_vc tabOK Tryz.func318 (by kernel_rfl) rfl (n := 8) rfl (rs := [.tmp 3]) rfl ?_
  simp only [go_sem, hk]
  refine arm139 s (fun r' => ?_)
  simp only [go_sem]
  rw [HS_app]
  exact finH0 r' rfl (.raw _) hK

theorem leads141 (hM : MapN f (knF n D)) (e : Ex) (hK : ∀ r', K (.b (leadsF p at_ n e)) (HS A p at_ c f (r ++ r'))) : ACall Tryz.prog 293 [.ptr (A.length + 1) 0, e.enc] (HS A p at_ c f r) K := by
  have hall : e.arms.all (armOk p.Enums) = !(e.arms.any fun s => !(armOk p.Enums s)) := List.all_eq_not_any_not
  unfold leadsF at hK
  rw [hall] at hK
  refine acallK_of_vc tabOK Tryz.func293 (by kernel_rfl) rfl (n := 47) rfl (rs := [.tmp 4]) rfl ?_
  simp only [go_sem]
  refine containsStrR (p := fun s => !(armOk p.Enums s)) (fun s hs K hK => leads178 s (by simp only [go_sem]) ⟨_, rfl⟩ hK) ?_
  generalize (e.arms.any fun s => !(armOk p.Enums s)) = b at hK ⊢
  cases b
  all_goals
    repeat' first
      | (exfalso; omega)
      | simp only [go_sem]
      | refine brK_dec (fun _ => ?_) (fun _ => ?_)
      | refine gK_dec (fun _ => ?_) (fun _ => ?_)
      | (refine is138 hM e.name (fun r1 => ?_))
      | (refine arm139 e.name (fun r1 => ?_))
      | (refine drawZ mo (by kernel_rfl) rfl ?_; simp only [List.dropLast_cons_cons, List.dropLast_singleton, List.getLast_cons_cons, List.getLast_singleton])
      | (refine pcK_of (find23 p e.name) ?_)
      | exact finKb rfl (by simp [*]) (hK _)
end
end Go.Proofs.YtpamokpmlplopaaGreatDoor

namespace Go.Proofs.YtpamokpmlplopaaGreatDoor
open Go.Abs
set_option maxRecDepth 20000
set_option linter.unusedSimpArgs false
set_option linter.unusedVariables false
set_option maxHeartbeats 1000000
attribute [local irreducible] vc vcOps vcStep vcGuard prK hrK gK gsK brK callK ElemK SeqK BlockK ScopeK OpsK CallK LoopK LoopGo finPost ACall PCall PCallE BCall vqOps vqStep vqGuard qrK heK pcK gqK gqsK QOpsK qcallK DrawK
theorem eqErr_names {p : DProg} {a : Int} {n : DNode} {D : List ByteArray} {q : DEq} {E : Int} (h : namesErr n D q.Names = E) (hE : ¬ E = 0) : eqErr p a n D q = E := by
  subst h
  unfold eqErr
  rw [if_neg hE]
theorem eqErr_parts {p : DProg} {a : Int} {n : DNode} {D : List ByteArray} {q : DEq} (h : namesErr n D q.Names = 0) : eqErr p a n D q = if (parts q.E).all (leadsF p a n) = true then 0 else 5 := by
  unfold eqErr
  rw [if_pos h]
theorem snoc6 {α : Type} (A r r' : List α) (a b c d e w z : α) : A ++ a :: b :: (r ++ c :: d :: e :: (r' ++ [w, z])) = (A ++ a :: b :: (r ++ c :: d :: e :: (r' ++ [w]))) ++ [z] := by simp
section
variable {A r : List Blk} {p : DProg} {at_ : Int} {c : Nat} {f : Value → Option AV} {n : DNode} {D : List ByteArray} {K : AV → List Blk → Prop}

theorem eq89 (hM : MapN f (knF n D)) (q : DEq) (hq : okEq q) (hK : ∀ c' f' r', (eqErr p at_ n D q = 0 → MapN f' (knF n (D ++ q.Names))) → K (.i (eqErr p at_ n D q)) (HS A p at_ c' f' (r ++ r'))) :
    ACall Tryz.prog 246 [.ptr (A.length + 1) 0, q.enc] (HS A p at_ c f r) K := by
  refine acallK_of_vc tabOK Tryz.func246 (by kernel_rfl) rfl (n := 31) rfl (rs := [.cell 4 59]) rfl ?_
  simp only [go_sem]
  intro _
  generalize hE : namesErr n D q.Names = E
  refine loop_fr [6, 7, 12, 13, 14, 15, 16, 17, 18, 19, 20, 21, 22] (fun m C hh => ∃ (i c' : Nat) (f' : Value → Option AV) (r' : List Blk), i ≤ q.Names.length ∧ m = q.Names.length - i ∧ MapN f' (knF n (D ++ q.Names.take i)) ∧ namesErr n (D ++ q.Names.take i) (q.Names.drop i) = E ∧ C = [(12, .raw (.int .i64 (i : Nat)))] ∧
    hh = HS A p at_ c' f' (r ++ .cells 234 [.ptr (A.length + 1) 0] :: .cells 74 [.lst 1 (q.Names.map AV.s) none, .i q.E.kind, .i q.E.n, .s q.E.name, .i q.E.op, .lst 1 (q.E.arms.map AV.s) none, .lst 6 (q.E.subs.map Ex.enc) none] :: .cells 59 [.i 0] :: r')) q.Names.length _ ⟨0, c, f, [], by omega, by omega, by simpa using hM, by simpa using hE, rfl, rfl⟩ (.cons rfl .nil) ?_
  rintro m C j hh ⟨i, c', f', r', hi, rfl, hM', hE', rfl, rfl⟩
  simp only [go_sem]
  refine brK_dec (fun hlt => ?_) (fun hge => ?_)
  · simp only [go_sem]
    refine elemMap (by omega) (by omega) (fun x hx => ?_)
    simp only [go_sem]
    refine define140 hM' x (fun h5 r1 => ?_) (fun h6 h7 r1 => ?_) (fun h1 h2 h3 c1 f1 r1 hM1 => ?_)
    · have e5 := names_5 hE' hx h5
      have ee : eqErr p at_ n D q = 5 := by rw [eqErr_names hE (by omega), e5]
      rw [ee] at hK
      simp only [go_sem]
      refine ⟨[.i 5], by simp only [go_sem], .i 5, .refl _, hK _ _ _ (fun h => by omega)⟩
    · have e6 := names_6 hE' hx h6 h7
      have ee : eqErr p at_ n D q = 6 := by rw [eqErr_names hE (by omega), e6]
      rw [ee] at hK
      simp only [go_sem]
      refine ⟨[.i 6], by simp only [go_sem], .i 6, .refl _, hK _ _ _ (fun h => by omega)⟩
    · have hE1 := names_next hE' hx h1 h2 h3
      have hst : D ++ q.Names.take (i + 1) = D ++ q.Names.take i ++ [x] := by
        rw [Int.toNat_natCast] at hx
        obtain ⟨hi, rfl⟩ := List.getElem?_eq_some_iff.1 hx
        rw [List.take_succ_eq_append_getElem hi, List.append_assoc]
      simp only [go_sem]
      exact loopFr _ (by omega) ⟨i + 1, c1, f1, _, by omega, rfl, by rw [hst]; exact hM1, hE1, rfl, rfl⟩ (.next rfl (by omega) .nil) rfl
  · simp only [go_sem]
    have e0 := names_0 hE' (by omega)
    rw [List.take_of_length_le (by omega)] at hM'
    rw [e0] at hE
    rw [eqErr_parts hE] at hK
    refine each28 q.E ?_
    simp only [go_sem]
    intro l
    rw [snoc6]
    refine each_range q.E (A.length + (r.length + (r'.length + 1 + 1 + 1 + 1) + 1 + 1)) (A.length + (r.length + (r'.length + 1 + 1 + 1) + 1 + 1)) 0 (fun k => ∀ y ∈ (parts q.E).take k, leadsF p at_ n y = true) (fun _ => A ++ .mp .str c' f' :: .cells 268 [.lst 2 (p.Enums.map DEnum.enc) none, .lst 5 (p.Nodes.map DNode.enc) none, .i at_, .map A.length] :: (r ++ .cells 234 [.ptr (A.length + 1) 0] :: .cells 74 [.lst 1 (q.Names.map AV.s) none, .i q.E.kind, .i q.E.n, .s q.E.name, .i q.E.op, .lst 1 (q.E.arms.map AV.s) none, .lst 6 (q.E.subs.map Ex.enc) none] :: .cells 59 [.i 0] :: (r' ++ [exBx q.E]))) (fun _ => [])
      (fun h => (parts q.E).all (leadsF p at_ n) = false ∧ h = A ++ .mp .str c' f' :: .cells 268 [.lst 2 (p.Enums.map DEnum.enc) none, .lst 5 (p.Nodes.map DNode.enc) none, .i at_, .map A.length] :: (r ++ .cells 234 [.ptr (A.length + 1) 0] :: .cells 74 [.lst 1 (q.Names.map AV.s) none, .i q.E.kind, .i q.E.n, .s q.E.name, .i q.E.op, .lst 1 (q.E.arms.map AV.s) none, .lst 6 (q.E.subs.map Ex.enc) none] :: .cells 59 [.i 5] :: (r' ++ [exBx q.E]))) ?_ (fun _ => rfl) ?_ ?_ rfl rfl rfl (by simp) (fun k z r1 K hz hi hK1 hK2 => ?_) (fun r1 hi => ?_) (fun k h' r1 hs => ?_)
    · intro _; simp
    · rintro h ⟨_, rfl⟩; simp
    · simp only [go_sem]
    · simp only [go_sem, setPs, roundA]
      refine leads141 hM' z (fun r2 => ?_)
      cases hl : leadsF p at_ n z with
      | true =>
        have hk := hK1 (take_all hi hz hl) (exBx z :: r2)
        simp only [go_sem, roundB]
        simpa using hk
      | false =>
        have hk := hK2 _ (exBx z :: r2) ⟨List.all_eq_false.2 ⟨z, List.mem_of_getElem? hz, by simp [hl]⟩, rfl⟩
        simp only [go_sem, roundB]
        simpa using hk
    · rw [List.take_length] at hi
      rw [List.all_eq_true.2 hi] at hK
      simp only [go_sem]
      refine ⟨[.i 0], by simp only [go_sem], .i 0, .refl _, ?_⟩
      have hk := fun z => hK c' f' z (fun _ => hM')
      simp only [if_true] at hk
      exact hk _
    · obtain ⟨hs, rfl⟩ := hs
      rw [hs] at hK
      simp only [go_sem]
      refine ⟨[.i 5], by simp only [go_sem], .i 5, .refl _, ?_⟩
      have hk := fun z => hK c' f' z (fun h => by simp at h)
      simp only [Bool.false_eq_true, if_false] at hk
      exact hk _
end
end Go.Proofs.YtpamokpmlplopaaGreatDoor

namespace Go.Proofs.YtpamokpmlplopaaGreatDoor
open Go.Abs
set_option maxRecDepth 20000
set_option linter.unusedSimpArgs false
set_option linter.unusedVariables false
set_option maxHeartbeats 1000000
attribute [local irreducible] vc vcOps vcStep vcGuard prK hrK gK gsK brK callK ElemK SeqK BlockK ScopeK OpsK CallK LoopK LoopGo finPost ACall PCall PCallE BCall vqOps vqStep vqGuard qrK heK pcK gqK gqsK QOpsK qcallK DrawK
theorem fault_err {p : DProg} {a : Int} {n : DNode} (h : ¬ (allV n).all (clockedF p.Enums n) = true) : nodeFault p a n = ⟨a, -1, 5⟩ := by unfold nodeFault; rw [if_neg h]
theorem fault_eq {p : DProg} {a : Int} {n : DNode} {e : Int × Int} (h : (allV n).all (clockedF p.Enums n) = true) (he : eqsErr p a n 0 [] n.Eqs = e) (h2 : ¬ e.2 = 0) : nodeFault p a n = ⟨a, e.1, e.2⟩ := by unfold nodeFault; rw [if_pos h, he, if_neg h2]
theorem fault_def {p : DProg} {a : Int} {n : DNode} {e : Int × Int} (h : (allV n).all (clockedF p.Enums n) = true) (he : eqsErr p a n 0 [] n.Eqs = e) (h2 : e.2 = 0) : nodeFault p a n = if allDef n = true then ⟨0, 0, 0⟩ else ⟨a, -1, 5⟩ := by unfold nodeFault; rw [if_pos h, he, if_pos h2]
theorem eqsErr_in {p : DProg} {a : Int} {n : DNode} : ∀ {l : List DEq} {i : Nat} {D : List ByteArray}, (eqsErr p a n i D l).2 = 0 → ∀ s ∈ l.flatMap DEq.Names, inF n s = false
  | [], _, _, _ => by simp
  | q :: r, i, D, h => by
    rw [eqsErr] at h
    split at h
    · rename_i h0
      intro s hs
      rw [List.flatMap_cons] at hs
      rcases List.mem_append.1 hs with hs | hs
      · have hn : namesErr n D q.Names = 0 := by
          unfold eqErr at h0
          split at h0
          · assumption
          · assumption
        exact namesErr_in hn s hs
      · exact eqsErr_in h s hs
    · rename_i h0
      exact absurd h h0
abbrev trK : Tr := (.two 0 (.two 1 (.two 2 (.two 3 (.one 4 (.one 5 (.one 6 (.one 7 .nil)))) 4 (.two 3 (.one 5 (.one 6 (.one 7 .nil))) 5 (.one 3 (.one 6 (.one 7 .nil))))) 4 (.two 2 (.two 3 (.one 5 (.one 6 (.one 7 .nil))) 5 (.one 3 (.one 6 (.one 7 .nil)))) 5 (.one 2 (.one 3 (.one 6 (.one 7 .nil)))))) 4 (.two 1 (.two 2 (.two 3 (.one 5 (.one 6 (.one 7 .nil))) 5 (.one 3 (.one 6 (.one 7 .nil)))) 5 (.one 2 (.one 3 (.one 6 (.one 7 .nil))))) 5 (.one 1 (.one 2 (.one 3 (.one 6 (.one 7 .nil))))))) 4 (.two 0 (.two 1 (.two 2 (.two 3 (.one 5 (.one 6 (.one 7 .nil))) 5 (.one 3 (.one 6 (.one 7 .nil)))) 5 (.one 2 (.one 3 (.one 6 (.one 7 .nil))))) 5 (.one 1 (.one 2 (.one 3 (.one 6 (.one 7 .nil)))))) 5 (.one 0 (.one 1 (.one 2 (.one 3 (.one 6 (.one 7 .nil))))))))
section
variable {A r : List Blk} {p : DProg} {c : Nat} {f : Value → Option AV} {n : DNode} {K : AV → List Blk → Prop}

theorem check49 {j : Nat} (hj : p.Nodes[j]? = some n) (hn : okNode n) (hM : MapN f (knF n [])) (hK : ∀ c' f' r', K (nodeFault p (j : Int) n).enc (HS A p (j : Int) c' f' (r ++ r'))) : ACall Tryz.prog 196 [.ptr (A.length + 1) 0] (HS A p (j : Int) c f r) K := by
  have hh1 := hn.1.1
  have hh2 := hn.2.1.1
  have hh3 := hn.2.2.1.1
  have hh4 := hn.2.2.2.1
  have hal : (allV n).length ≤ 60 := by simp [allV]; omega
  have hfl : [n.Ins, n.Outs, n.Vars].flatten.length = (allV n).length := rfl
  refine acallK_of_vc tabOK Tryz.func196 (by kernel_rfl) rfl (n := 83) rfl (rs := [.cell 2 61]) rfl ?_
  simp only [go_sem]
  refine node87 hj (fun r1 => ?_)
  simp only [go_sem]
  refine PCall.callW (concatD [n.Ins, n.Outs, n.Vars] (by show (allV n).length ≤ _; omega)) ⟨.tok _ _ _, trivial⟩ ?_
  simp only [go_sem]
  intro _
  refine loop_frX [6, 27, 28, 29, 30, 31, 32, 33, 34, 35, 36, 37] (fun m C => ∃ i : Nat, i ≤ (allV n).length ∧ m = (allV n).length - i ∧ (∀ d ∈ (allV n).take i, clockedF p.Enums n d = true) ∧ C = [(27, .raw (.int .i64 (i : Nat)))]) (allV n).length _ ⟨0, by omega, by omega, by simp, rfl⟩ (.cons rfl .nil) ?_
  rintro m C ja r2 ⟨i, hi, rfl, hp, rfl⟩
  simp only [go_sem]
  refine brK_dec (fun hlt => ?_) (fun hge => ?_)
  · simp only [go_sem]
    refine elemMap (by omega) (by omega) (fun d hd => ?_)
    simp only [go_sem]
    refine clocked88 hM d (fun r3 => ?_)
    cases hdx : clockedF p.Enums n d with
    | true =>
      simp only [go_sem]
      exact loopFrX _ (by omega) _ ⟨i + 1, by omega, rfl, take_all hp (by simpa using hd) hdx, rfl⟩ (.next rfl (by omega) .nil) rfl (by first | rfl | (simp only [List.append_assoc, List.cons_append, List.nil_append]; rfl))
    | false =>
      have hf := fault_err (p := p) (a := (j : Int)) (n := n) (by rw [List.all_eq_false.2 ⟨d, List.mem_of_getElem? hd, by simp [hdx]⟩]; simp)
      rw [hf, DFault.enc_eq] at hK
      simp only [go_sem]
      exact ⟨[.agg [.i (j : Int), .i (-1), .i 5]], by simp only [go_sem], _, .refl _, hK _ _ _⟩
  · have hcl : (allV n).all (clockedF p.Enums n) = true := List.all_eq_true.2 (take_full hp (by omega))
    simp only [go_sem]
    intro _
    generalize hE : eqsErr p (j : Int) n 0 [] n.Eqs = E
    refine loop_fr [7, 8, 41, 42, 43, 44, 45, 46, 47, 48, 49, 50, 51, 52, 53, 54, 55] (fun m C hh => ∃ (i c' : Nat) (f' : Value → Option AV) (r' : List Blk), i ≤ n.Eqs.length ∧ m = n.Eqs.length - i ∧ MapN f' (knF n ((n.Eqs.take i).flatMap DEq.Names)) ∧ eqsErr p (j : Int) n i ((n.Eqs.take i).flatMap DEq.Names) (n.Eqs.drop i) = E ∧ C = [(41, .raw (.int .i64 (i : Nat)))] ∧
      hh = HS A p (j : Int) c' f' (r ++ .cells 61 [.i 0, .i 0, .i 0] :: .cells 61 [.i (j : Int), .i (-1), .i 0] :: (r1 ++ .cells 68 [.s n.Name, .lst 6 (n.Ins.map DDecl.enc) none, .lst 6 (n.Outs.map DDecl.enc) none, .lst 6 (n.Vars.map DDecl.enc) none, .lst 7 (n.Eqs.map DEq.enc) none] :: r'))) n.Eqs.length _ ⟨0, c, f, _, by omega, by omega, by simpa using hM, by simpa using hE, rfl, by first | rfl | (simp only [List.append_assoc, List.cons_append, List.nil_append]; rfl)⟩ (.cons rfl .nil) ?_
    rintro m C jb hh ⟨i, c', f', r', hi, rfl, hM', hE', rfl, rfl⟩
    simp only [go_sem]
    refine brK_dec (fun hlt => ?_) (fun hge => ?_)
    · simp only [go_sem]
      refine elemMap (by omega) (by omega) (fun x hx => ?_)
      simp only [go_sem]
      refine eq89 hM' x (hn.2.2.2.2.2 _ (List.mem_of_getElem? hx)) (fun c1 f1 r3 hM1 => ?_)
      have hv := eqErr_vals p (j : Int) n ((n.Eqs.take i).flatMap DEq.Names) x
      by_cases he : eqErr p (j : Int) n ((n.Eqs.take i).flatMap DEq.Names) x = 0
      · have hM2 := hM1 he
        have hE1 := eqs_next hE' hx he
        have hst := flatMap_next DEq.Names (l := n.Eqs) (by simpa using hx)
        rw [he]
        simp only [go_sem]
        exact loopFr _ (by omega) ⟨i + 1, c1, f1, _, by omega, rfl, by rw [hst]; exact hM2, hE1, rfl, rfl⟩ (.next rfl (by omega) .nil) rfl
      · have hE1 := eqs_at hE' hx he
        have hf := fault_eq hcl hE (by rw [hE1]; exact he)
        rw [hf, hE1, DFault.enc_eq] at hK
        generalize eqErr p (j : Int) n ((n.Eqs.take i).flatMap DEq.Names) x = ee at hK he hv
        simp only [go_sem]
        refine brK_dec (fun hq => ?_) (fun hq => ?_)
        · simp only [go_sem]
          refine brK_dec (fun _ => ?_) (fun hq2 => absurd hq hq2)
          simp only [go_sem]
          exact ⟨[.agg [.i (j : Int), .i (i : Int), .i ee]], by simp only [go_sem], _, .refl _, hK _ _ _⟩
        · exact absurd hq (by simpa using he)
    · simp only [go_sem]
      have hE1 := eqs_0 hE' (by omega)
      rw [List.take_of_length_le (by omega)] at hM'
      have hD := eqsErr_in (p := p) (a := (j : Int)) (n := n) (l := n.Eqs) (i := 0) (D := []) (by rw [hE, hE1])
      have hf := fault_def hcl hE (by rw [hE1])
      unfold allDef at hf
      have hL : [n.Outs, n.Vars].flatten = n.Outs ++ n.Vars := by simp
      have hll : (n.Outs ++ n.Vars).length ≤ 60 := by simp; omega
      refine PCall.callW (concatD [n.Outs, n.Vars] (by show ([n.Outs, n.Vars].flatten).length ≤ _; rw [hL]; omega)) ⟨.tok _ _ _, trivial⟩ ?_
      rw [hL]
      generalize hW : n.Outs ++ n.Vars = W at hf hll
      simp only [go_sem]
      intro _
      refine loop_frX [10, 67, 68, 69, 70, 71, 72, 73, 74, 75, 76, 77, 78, 79, 80, 81] (fun m C => ∃ i : Nat, i ≤ W.length ∧ m = W.length - i ∧ (∀ d ∈ W.take i, memB d.Name (n.Eqs.flatMap DEq.Names) = true) ∧ C = [(67, .raw (.int .i64 (i : Nat)))]) W.length _ ⟨0, by omega, by omega, by simp, rfl⟩ (.cons rfl .nil) ?_
      rintro m C jc r4 ⟨i2, hi2, rfl, hp2, rfl⟩
      simp only [go_sem]
      refine brK_dec (fun hlt => ?_) (fun hge2 => ?_)
      · simp only [go_sem]
        refine elemMap (by omega) (by omega) (fun d hd => ?_)
        simp only [go_sem]
        have hMx := hM' d.Name
        have hdn := kn_done (n := n) (D := n.Eqs.flatMap DEq.Names) (d := d) (by rw [hW]; exact List.mem_of_getElem? hd) hD
        refine drawV trK mo (by kernel_rfl) ?_
        simp only [go_sem, hMx]
        repeat' first
          | refine And.intro ?_ ?_
          | simp only [go_sem, hMx]
        all_goals
          refine brK_dec (fun hq => ?_) (fun hq => ?_)
          · have hno : memB d.Name (n.Eqs.flatMap DEq.Names) = false := by
              cases hb : memB d.Name (n.Eqs.flatMap DEq.Names) with
              | false => rfl
              | true => exact absurd (by have := hdn.2 hb; omega) hq
            rw [List.all_eq_false.2 ⟨d, List.mem_of_getElem? hd, by simp [hno]⟩, if_neg (by simp)] at hf
            rw [hf, DFault.enc_eq] at hK
            simp only [go_sem]
            exact ⟨[.agg [.i (j : Int), .i (-1), .i 5]], by simp only [go_sem], _, .refl _, hK _ _ _⟩
          · have hyes : memB d.Name (n.Eqs.flatMap DEq.Names) = true := hdn.1 (by omega)
            simp only [go_sem]
            exact loopFrX _ (by omega) _ ⟨i2 + 1, by omega, rfl, take_all hp2 (by simpa using hd) hyes, rfl⟩ (.next rfl (by omega) .nil) rfl (by first | rfl | (simp only [List.append_assoc, List.cons_append, List.nil_append]; rfl))
      · rw [List.all_eq_true.2 (take_full hp2 (by omega)), if_pos rfl] at hf
        rw [hf, DFault.enc_eq] at hK
        simp only [go_sem]
        exact ⟨[.agg [.i 0, .i 0, .i 0]], by simp only [go_sem], _, .refl _, hK _ _ _⟩
end
end Go.Proofs.YtpamokpmlplopaaGreatDoor

namespace Go.Proofs.YtpamokpmlplopaaGreatDoor
open Go.Abs
set_option maxRecDepth 20000
set_option linter.unusedSimpArgs false
set_option linter.unusedVariables false
set_option maxHeartbeats 1000000
attribute [local irreducible] vc vcOps vcStep vcGuard prK hrK gK gsK brK callK ElemK SeqK BlockK ScopeK OpsK CallK LoopK LoopGo finPost ACall PCall PCallE BCall vqOps vqStep vqGuard qrK heK pcK gqK gqsK QOpsK qcallK DrawK

theorem rightN (L : List DEnum) (n : DNode) (hn : okNode n) : PCall Tryz.prog 241 [.lst 2 (L.map DEnum.enc) none, n.enc] (.b (nodeF L.length n)) := by
  have h1 := hn.1.1
  have h2 := hn.2.1.1
  have h3 := hn.2.2.1.1
  have hal : (allV n).length ≤ 60 := by simp [allV]; omega
  have hba : bareN n = (!(n.Ins.any fun d => !(decide (d.On = ⟨#[]⟩))) && !(n.Outs.any fun d => !(decide (d.On = ⟨#[]⟩)))) := by
    unfold bareN
    rw [List.all_append, List.all_eq_not_any_not, List.all_eq_not_any_not]
  refine pcall_of_vc tabOK Tryz.func241 (by kernel_rfl) rfl pureL pureI (n := 55) rfl (rs := [.tmp 4]) rfl ?_
  simp only [go_sem]
  refine acallK_of_vc tabOK Tryz.func286 (by kernel_rfl) rfl (n := 4) rfl (rs := [.tmp 2]) rfl ?_
  simp only [go_sem]
  refine finK rfl ?_
  repeat' first
    | exact finB rfl
    | exact finI rfl
    | exact finP rfl
    | exact absurd rfl (by assumption)
    | simp only [go_sem]
    | (intro _)
    | refine brK_dec (fun _ => ?_) (fun _ => ?_)
    | refine brK_split (fun hb_ => ?_) (fun hb_ => ?_)
    | refine gK_dec (fun _ => ?_) (fun _ => ?_)
    | refine gK_split (fun hb_ => ?_) (fun hb_ => ?_)
    | refine gqK_dec (fun _ => ?_) (fun _ => ?_)
    | refine ⟨by omega, ?_⟩
    | refine elemHave (by omega) (by assumption) ?_
    | refine elemMap (by omega) (by omega) (fun x hx => ?_)
    | refine drawK mo (by kernel_rfl) ?_
    | (refine PCall.call (all63 n (by omega)) ?_)
    | (refine declared131 L x (k := 1) rfl ?_; generalize hdx : declaredF L.length x = b; cases b)
    | ((fail_if_success (clear hu)); refine bareP ?_; generalize hu : (n.Ins.any fun d => !(decide (d.On = ⟨#[]⟩))) = u at hba ⊢; cases u)
    | (refine bareP ?_; generalize hv : (n.Outs.any fun d => !(decide (d.On = ⟨#[]⟩))) = v at hba ⊢; cases v)
    | (refine PCall.call (equationP x (hn.2.2.2.2.2 _ (List.mem_of_getElem? hx))) ?_; generalize hqx : eqF x = b; cases b)
    | (refine PCall.call (low6 n.Name) ?_; generalize hlx : lowF n.Name = b; cases b)
    | (refine finBq rfl ?_; rw [node_no hx hdx]; done)
    | (refine finBq rfl ?_; rw [node_no2 hba]; done)
    | (refine finBq rfl ?_; rw [node_no3 hx hqx]; done)
    | (refine finBq rfl ?_; rw [node_yes hpi (by omega) hba hpj (by omega), hlx]; first | rfl | (simp; done) | (simp; omega))
    | exact loopFrX _ (by omega) _ ⟨i + 1, by omega, rfl, take_all hpi (by simpa using hx) hdx, rfl⟩ (.next rfl (by omega) .nil) rfl (by first | rfl | (simp only [List.append_assoc, List.cons_append, List.nil_append]; rfl))
    | (refine loop_frX [4, 7, 16, 17, 18, 19, 20, 21, 22, 23, 24] (fun mm_ CC_ => ∃ (i : Nat), i ≤ (allV n).length ∧ mm_ = (allV n).length - i ∧ (∀ d ∈ (allV n).take i, declaredF L.length d = true) ∧ CC_ = [(16, .raw (.int .i64 ((i : Nat) : Int)))]) ((allV n).length) _ ⟨0, by omega, by omega, by simp, rfl⟩ (.cons rfl .nil) ?_; rintro mm_ CC_ ji ri ⟨i, hi, rfl, hpi, rfl⟩)
    | exact loopFrX _ (by omega) _ ⟨j + 1, by omega, rfl, take_all hpj (by simpa using hx) hqx, rfl⟩ (.next rfl (by omega) .nil) rfl (by first | rfl | (simp only [List.append_assoc, List.cons_append, List.nil_append]; rfl))
    | (refine loop_frX [4, 10, 38, 39, 40, 41, 42, 43, 44, 45] (fun mm_ CC_ => ∃ (j : Nat), j ≤ n.Eqs.length ∧ mm_ = n.Eqs.length - j ∧ (∀ q ∈ n.Eqs.take j, eqF q = true) ∧ CC_ = [(38, .raw (.int .i64 ((j : Nat) : Int)))]) (n.Eqs.length) _ ⟨0, by omega, by omega, by simp, rfl⟩ (.cons rfl .nil) ?_; rintro mm_ CC_ jj rj ⟨j, hj, rfl, hpj, rfl⟩)
theorem greatP (n : DNode) : PCall Tryz.prog 239 [n.enc] (.b (greatF n)) := by
  refine pcall_of_vc tabOK Tryz.func239 (by kernel_rfl) rfl pureL pureI (n := 25) rfl (rs := [.tmp 2]) rfl ?_
  repeat' first
    | exact finB rfl
    | exact finI rfl
    | exact finP rfl
    | exact absurd rfl (by assumption)
    | simp only [go_sem]
    | (intro _)
    | refine brK_dec (fun _ => ?_) (fun _ => ?_)
    | refine brK_any ?_ ?_
    | refine gK_dec (fun _ => ?_) (fun _ => ?_)
    | refine gK_any ?_ ?_
    | refine gqK_dec (fun _ => ?_) (fun _ => ?_)
    | refine ⟨by omega, ?_⟩
    | refine elemHave (by omega) (by assumption) ?_
    | refine elemMap (by omega) (by omega) (fun x hx => ?_)
    | refine drawK mo (by kernel_rfl) ?_
    | (exfalso; omega)
    | (refine finBq rfl ?_; unfold greatF; (try rw [decide_eq_true (p := n.Ins.length > 6) (by omega)]); (try rw [decide_eq_false (p := n.Ins.length > 6) (by omega)]); (try rw [decide_eq_true (p := n.Outs.length > 6) (by omega)]); (try rw [decide_eq_false (p := n.Outs.length > 6) (by omega)]); (try rw [decide_eq_true (p := n.Vars.length > 12) (by omega)]); (try rw [decide_eq_false (p := n.Vars.length > 12) (by omega)]); simp; done)
    | (refine finBq rfl ?_; unfold greatF; (try rw [decide_eq_true (p := n.Ins.length > 6) (by omega)]); (try rw [decide_eq_false (p := n.Ins.length > 6) (by omega)]); (try rw [decide_eq_true (p := n.Outs.length > 6) (by omega)]); (try rw [decide_eq_false (p := n.Outs.length > 6) (by omega)]); (try rw [decide_eq_true (p := n.Vars.length > 12) (by omega)]); (try rw [decide_eq_false (p := n.Vars.length > 12) (by omega)]); simp; omega)

theorem onceP (n : DNode) (hl : (allV n).length ≤ 60) : PCall Tryz.prog 243 [n.enc] (.b (onceN n)) := by
  refine pcall_of_vc tabOK Tryz.func243 (by kernel_rfl) rfl pureL pureI (n := 21) rfl (rs := [.tmp 2]) rfl ?_
  unfold onceN
  simp only [go_sem]
  refine PCall.call (all63 n (by omega)) ?_
  generalize allV n = L at hl
  simp only [go_sem]
  intro _
  refine loop_ghost (ghost_tok 3 9 1 rfl) ?_
  refine loop_fr [3, 5, 9, 10, 11, 12, 13, 14, 15, 16, 17, 18] (fun m C hh => ∃ (i : Nat) (r : List Blk), i ≤ L.length ∧ m = L.length - i ∧ C = [(9, .raw (.int .i64 (i : Nat))), (3, .lst 1 (((L.take i).map DDecl.Name).map AV.s) (some 1))] ∧ hh = .cells 68 [.s n.Name, .lst 6 (n.Ins.map DDecl.enc) none, .lst 6 (n.Outs.map DDecl.enc) none, .lst 6 (n.Vars.map DDecl.enc) none, .lst 7 (n.Eqs.map DEq.enc) none] :: .tok 9 1 (L.take i).length :: r) L.length _ ⟨0, [], by omega, by omega, rfl, rfl⟩ (.cons rfl (.cons rfl .nil)) ?_
  rintro m C j hh ⟨i, r, hi, rfl, rfl, rfl⟩
  simp only [go_sem]
  refine brK_dec (fun hlt => ?_) (fun hge => ?_)
  · simp only [go_sem]
    refine elemMap (by omega) (by omega) (fun d hd => ?_)
    have hli : (L.take i).length = i := by rw [List.length_take]; omega
    have hli2 : (L.take (i + 1)).length = i + 1 := by rw [List.length_take]; omega
    have hst := take_mapS (f := DDecl.Name) hd
    try simp only [go_sem]
    refine ⟨by simp; omega, ?_⟩
    try simp only [go_sem]
    exact loopFr _ (by omega) ⟨i + 1, _, by omega, rfl, rfl, by rw [hli2, hli]⟩ (.next rfl (by omega) (.cons (by rw [hst]; simp [slot]) .nil)) rfl
  · simp only [go_sem]
    rw [List.take_of_length_le (by omega)]
    refine PCall.callW (once12 (L.map DDecl.Name)) ⟨.tok _ _ _, trivial⟩ ?_
    simp only [go_sem]
    exact finBq rfl rfl
theorem flat_at {L : List DEnum} {i k : Nat} {e : DEnum} {c : ByteArray} (he : L[i]? = some e) (hc : e.Ctors[k]? = some c) : (L.flatMap DEnum.Ctors)[((L.take i).flatMap DEnum.Ctors).length + k]? = some c := by
  obtain ⟨hi, rfl⟩ := List.getElem?_eq_some_iff.1 he
  have h1 : L.flatMap DEnum.Ctors = (L.take i).flatMap DEnum.Ctors ++ (L[i].Ctors ++ (L.drop (i + 1)).flatMap DEnum.Ctors) := by
    have h2 : L = L.take i ++ L[i] :: L.drop (i + 1) := by rw [← List.drop_eq_getElem_cons hi, List.take_append_drop]
    conv => lhs; rw [h2]
    rw [List.flatMap_append, List.flatMap_cons]
  rw [h1, List.getElem?_append_right (by omega), Nat.add_sub_cancel_left, List.getElem?_append_left (List.getElem?_eq_some_iff.1 hc).1]
  exact hc
theorem ctors_all {L : List DEnum} {ps : Array Tmp} {x y : Code} {s : List AV} {l : Nat} {Q : Post} (m k0 g : Nat) (H G : Nat → List Blk) (hH : ∀ n, (H n).length = m) (hG : ∀ n, (G n).length = g)
    (hk : ∀ n, (H n)[k0]? = some (.cells 22 [.lst 2 (L.map DEnum.enc) none])) (hps : ps.size = 2) (hx : noR x = true) (hy : noR y = true)
    (hbody : ∀ (n : Nat) (c : ByteArray) (i k : Nat) (r : List Blk) (K : AV → List Blk → Prop), (L.flatMap DEnum.Ctors)[n]? = some c → (∀ r', K (.b true) (H (n + 1) ++ (.lp l .ready none ps x y s :: (G (n + 1) ++ (r ++ r'))))) →
      vc Tryz.prog ti x (roundA Tryz.prog ti l m ps x y s K) (setPs s ps.toList [.agg [.i (i : Int), .i (k : Int)], .s c]) (H n ++ (.lp l .ready none ps x y s :: (G n ++ r))))
    (hn : ∀ r, Q .normal s (H (L.flatMap DEnum.Ctors).length ++ (.dead :: (G (L.flatMap DEnum.Ctors).length ++ r)))) :
    ACall Tryz.prog 297 [.fn (.yield l) [] [], .ptr k0 0] (H 0 ++ (.lp l .ready none ps x y s :: G 0)) (fun _ h' => loopEnd Q s m h') := by
  refine ctors155 L l k0 (fun i k h => ∃ (r : List Blk) (n : Nat), n = ((L.take i).flatMap DEnum.Ctors).length + k ∧ h = H n ++ (.lp l .ready none ps x y s :: (G n ++ r))) (fun _ => False) ?_ ?_ ?_ ?_ ⟨[], 0, by simp, by simp⟩ ?_ ?_
  · rintro i k h ⟨r, n, _, rfl⟩
    rw [List.getElem?_append_left (List.getElem?_eq_some_iff.1 (hk n)).1]
    exact hk n
  · rintro i k h r' ⟨r, n, hn, rfl⟩
    exact ⟨r ++ r', n, hn, by simp⟩
  · rintro i e h he ⟨r, n, hn, rfl⟩
    exact ⟨r, n, by rw [hn, flatMap_next _ he]; simp, rfl⟩
  · rintro i k e c h he hc ⟨r, n, hn, rfl⟩ K hK1 _
    refine ycall_of_vc tabOK (k := m) (ps := ps) (x := x) (y := y) (s := s) ?_ (by simp [hps]) hx hy (hbody n c i k r K (by rw [hn]; exact flat_at he hc) (fun r' => hK1 _ ⟨r ++ r', n + 1, by omega, by simp⟩))
    rw [List.getElem?_append_right (by rw [hH]; exact Nat.le_refl _), hH, Nat.sub_self]; rfl
  · rintro h' ⟨r, n, hn', rfl⟩
    rw [List.take_length, Nat.add_zero] at hn'
    subst hn'
    have e1 : (H (L.flatMap DEnum.Ctors).length ++ (Blk.lp l .ready none ps x y s :: (G (L.flatMap DEnum.Ctors).length ++ r)))[m]? = some (.lp l .ready none ps x y s) := by
      rw [List.getElem?_append_right (by rw [hH]; exact Nat.le_refl _), hH, Nat.sub_self]; rfl
    have e2 : (H (L.flatMap DEnum.Ctors).length ++ (Blk.lp l .ready none ps x y s :: (G (L.flatMap DEnum.Ctors).length ++ r))).set m .dead = H (L.flatMap DEnum.Ctors).length ++ (.dead :: (G (L.flatMap DEnum.Ctors).length ++ r)) := by
      rw [List.set_append_right _ _ (by rw [hH]; exact Nat.le_refl _), hH, Nat.sub_self]; rfl
    unfold loopEnd
    rw [e1, e2]
    exact hn r
  · rintro h' h
    exact h.elim
theorem ctors_all3 {L : List DEnum} {ps : Array Tmp} {x y : Code} {s : List AV} {l : Nat} {Q : Post} (B1 B2 : Nat → Blk) (B3 : Blk) (r0 : List Blk) (tk : Nat → Blk) {k0 m : Nat} (hk0 : k0 = r0.length + 3) (hm : m = r0.length + 4) (hps : ps.size = 2) (hx : noR x = true) (hy : noR y = true)
    (hbody : ∀ (n : Nat) (c : ByteArray) (i k : Nat) (r : List Blk) (K : AV → List Blk → Prop), (L.flatMap DEnum.Ctors)[n]? = some c →
      (∀ r', K (.b true) (B1 (n + 1) :: B2 (n + 1) :: B3 :: (r0 ++ .cells 22 [.lst 2 (L.map DEnum.enc) none] :: .lp l .ready none ps x y s :: tk (n + 1) :: (r ++ r')))) →
      vc Tryz.prog ti x (roundA Tryz.prog ti l m ps x y s K) (setPs s ps.toList [.agg [.i (i : Int), .i (k : Int)], .s c]) (B1 n :: B2 n :: B3 :: (r0 ++ .cells 22 [.lst 2 (L.map DEnum.enc) none] :: .lp l .ready none ps x y s :: tk n :: r)))
    (hn : ∀ r, Q .normal s (B1 (L.flatMap DEnum.Ctors).length :: B2 (L.flatMap DEnum.Ctors).length :: B3 :: (r0 ++ .cells 22 [.lst 2 (L.map DEnum.enc) none] :: .dead :: tk (L.flatMap DEnum.Ctors).length :: r))) :
    ACall Tryz.prog 297 [.fn (.yield l) [] [], .ptr k0 0] (B1 0 :: B2 0 :: B3 :: (r0 ++ [.cells 22 [.lst 2 (L.map DEnum.enc) none], .lp l .ready none ps x y s, tk 0])) (fun _ h' => loopEnd Q s m h') := by
  subst hk0 hm
  have h := ctors_all (L := L) (ps := ps) (x := x) (y := y) (s := s) (l := l) (Q := Q) (r0.length + 4) (r0.length + 3) 1 (fun n => B1 n :: B2 n :: B3 :: (r0 ++ [.cells 22 [.lst 2 (L.map DEnum.enc) none]])) (fun n => [tk n]) (fun n => by simp) (fun n => rfl) (fun n => by simp) hps hx hy
    (fun n c i k r K hc hK => by have := hbody n c i k r K hc (fun r' => by have := hK r'; simpa using this); simpa using this) (fun r => by have := hn r; simpa using this)
  simpa using h
theorem flat_len {L : List DEnum} (h : ∀ e ∈ L, okEnum e) : (L.flatMap DEnum.Ctors).length ≤ 12 * L.length := by
  induction L with
  | nil => simp
  | cons e L ih =>
    have h1 := (h e List.mem_cons_self).1
    have h2 := ih fun x hx => h x (List.mem_cons_of_mem _ hx)
    rw [List.flatMap_cons, List.length_append, List.length_cons]
    omega
theorem en_fin {L : List DEnum} {u v : Bool} (hg : greatE L = false) (hu : (L.all fun e => lowF e.Name && decide (0 < e.Ctors.length)) = u) (hv : (L.flatMap DEnum.Ctors).all highF = v) : enumsF L = if (v && u) = true then (if (onceB (L.map DEnum.Name) && onceB (L.flatMap DEnum.Ctors)) = true then 0 else 6) else 1 := by
  unfold enumsF rightEn
  rw [hg, hu, hv, Bool.and_comm]
  simp

theorem enumsP (L : List DEnum) (hl : okEnums L) : PCall Tryz.prog 237 [.lst 2 (L.map DEnum.enc) none] (.i (enumsF L)) := by
  have hl8 := hl.1
  refine pcall_of_vc tabOK Tryz.func237 (by kernel_rfl) rfl pureL pureI (n := 61) rfl (rs := [.tmp 2]) rfl ?_
  simp only [go_sem]
  refine PCall.call (great74 L) ?_
  cases hg : greatE L with
  | true =>
    simp only [go_sem]
    exact finIq rfl (en_many hg).symm
  | false =>
  simp only [go_sem]
  intro _
  refine loop_ghost (ghost_tok 3 9 1 rfl) ?_
  refine loop_fr [3, 7, 14, 15, 16, 17, 18, 19, 20, 21, 22, 23, 24, 25, 26, 27, 28, 29, 30, 31, 32, 33, 34, 35] (fun m C hh => ∃ (i : Nat) (r : List Blk), i ≤ L.length ∧ m = L.length - i ∧ C = [(14, .raw (.int .i64 (i : Nat))), (3, .lst 1 (((L.take i).map DEnum.Name).map AV.s) (some 2))] ∧ hh = .cells 46 [.raw (.slice none 0 0)] :: .cells 4 [.b ((L.take i).all fun e => lowF e.Name && decide (0 < e.Ctors.length))] :: .tok 9 1 (L.take i).length :: r) L.length _ ⟨0, [], by omega, by omega, rfl, rfl⟩ (.cons rfl (.cons rfl .nil)) ?_
  rintro m C j hh ⟨i, r, hi, rfl, rfl, rfl⟩
  simp only [go_sem]
  refine brK_dec (fun hlt => ?_) (fun hge => ?_)
  · simp only [go_sem]
    refine elemMap (by omega) (by omega) (fun d hd => ?_)
    have hli : (L.take i).length = i := by rw [List.length_take]; omega
    have hli2 : (L.take (i + 1)).length = i + 1 := by rw [List.length_take]; omega
    have hst := take_mapS (f := DEnum.Name) hd
    have hal := all_nextZ (fun e : DEnum => lowF e.Name && decide (0 < e.Ctors.length)) hd
    have hgt : decide ((d.Ctors.length : Int) > 0) = decide (0 < d.Ctors.length) := decide_eq_decide.2 (by omega)
    try simp only [go_sem]
    refine ⟨by simp; omega, ?_⟩
    generalize hu : ((L.take i).all fun e => lowF e.Name && decide (0 < e.Ctors.length)) = u at hal ⊢
    cases u
    all_goals
      repeat' first
        | (exfalso; omega)
        | simp only [go_sem]
        | (intro _)
        | refine gK_dec (fun _ => ?_) (fun _ => ?_)
        | refine brK_dec (fun _ => ?_) (fun _ => ?_)
        | (refine PCall.call (low6 d.Name) ?_; generalize hlo : lowF d.Name = q at hal ⊢; cases q)
        | exact loopFr _ (by omega) ⟨i + 1, _, by omega, rfl, rfl, by rw [hli2, hal]; simp only [hli, hgt, Bool.false_and, Bool.true_and]; rfl⟩ (.next rfl (by omega) (.cons (by rw [hst]; simp [slot]) .nil)) rfl
  · simp only [go_sem]
    rw [List.take_of_length_le (by omega)]
    generalize hu : (L.all fun e => lowF e.Name && decide (0 < e.Ctors.length)) = u
    refine ctors154 L ?_
    simp only [go_sem]
    intro l
    refine acall_ghost (ghost_cell 0 0 9 1 rfl rfl) ?_
    simp only [go_sem]
    refine ctors_all3 (fun n => .cells 46 [.lst 1 (((L.flatMap DEnum.Ctors).take n).map AV.s) (some (r.length + 2 + 1 + 1 + 1))]) (fun n => .cells 4 [.b (((L.flatMap DEnum.Ctors).take n).all highF && u)]) (.tok 9 1 L.length) r (fun n => .tok 9 1 ((L.flatMap DEnum.Ctors).take n).length) (by omega) (by omega) rfl rfl rfl (fun n c i' k' r' K hc hK => ?_) (fun r' => ?_)
    · have hfl := flat_len hl.2
      have hle : ((L.flatMap DEnum.Ctors).take n).length ≤ 96 := by rw [List.length_take]; omega
      have hst : (((L.flatMap DEnum.Ctors).take (n + 1)).map AV.s) = (((L.flatMap DEnum.Ctors).take n).map AV.s) ++ [AV.s c] := by
        obtain ⟨hn, rfl⟩ := List.getElem?_eq_some_iff.1 hc
        rw [List.take_succ_eq_append_getElem hn, List.map_append]; rfl
      have hln : ((L.flatMap DEnum.Ctors).take (n + 1)).length = ((L.flatMap DEnum.Ctors).take n).length + 1 := by
        have := congrArg List.length hst
        simpa using this
      have hal : (((L.flatMap DEnum.Ctors).take (n + 1)).all highF && u) = (((L.flatMap DEnum.Ctors).take n).all highF && u && highF c) := by
        rw [all_next highF hc]
        cases ((L.flatMap DEnum.Ctors).take n).all highF <;> cases u <;> cases highF c <;> rfl
      simp only [hst, hln, hal] at hK
      simp only [go_sem, setPs, roundA]
      refine ⟨by omega, ?_⟩
      generalize (((L.flatMap DEnum.Ctors).take n).all highF && u) = w at hK ⊢
      cases w
      all_goals
        repeat' first
          | simp only [go_sem, roundB]
          | refine ⟨rfl, ?_⟩
          | (refine PCall.call (high8 c) ?_; generalize highF c = q at hK ⊢; cases q)
          | (have hk := hK [.tok 9 1 1]; (simpa using hk); done)
    · simp only [go_sem]
      rw [List.take_length]
      generalize hv : (L.flatMap DEnum.Ctors).all highF = v
      have hfin := en_fin hg hu hv
      cases u <;> cases v
      all_goals
        repeat' first
          | simp only [go_sem]
          | (refine PCall.callW (once12 (L.map DEnum.Name)) ⟨.tok _ _ _, trivial⟩ ?_; generalize onceB (L.map DEnum.Name) = q at hfin ⊢; cases q)
          | (refine PCall.callW (once12 (L.flatMap DEnum.Ctors)) ⟨.tok _ _ _, trivial⟩ ?_; generalize onceB (L.flatMap DEnum.Ctors) = q at hfin ⊢; cases q)
          | (refine finIq rfl ?_; rw [hfin]; simp; done)
abbrev progBd (p : DProg) : Blk := .cells 25 [.lst 2 (p.Enums.map DEnum.enc) none, .lst 5 (p.Nodes.map DNode.enc) none]

theorem some37 {p : DProg} {q : DNode → Bool} {g : Nat} {first capt : List AV} {h : List Blk} {K : AV → List Blk → Prop} (hp : ∀ x ∈ p.Nodes, ∀ (r : List Blk) (K : AV → List Blk → Prop), K (.b (q x)) (h ++ r) → ACall Tryz.prog g (first ++ DNode.enc x :: capt) (h ++ r) K)
    (hK : K (.b (p.Nodes.any q)) h) : ACall Tryz.prog 238 [p.enc, .fn (.func g) first capt] h K := by
  refine acall_of_vc tabOK Tryz.func238 (by kernel_rfl) rfl (n := 9) rfl (rs := [.tmp 4]) rfl ?_
  simp only [go_sem]
  refine containsNo (p := q) (fun x hx K hK => hp x hx _ K hK) ?_
  simp only [go_sem]
  exact finH0 _ rfl (.raw _) hK

theorem check39 (p : DProg) (n : DNode) (hn : okNode n) {k : Nat} {h : List Blk} {K : AV → List Blk → Prop} (hk : h[k]? = some (progBd p)) (hK : K (.b (!(nodeF p.Enums.length n))) h) : ACall Tryz.prog 240 [n.enc, .ptr k 0] h K := by
  have hkl := (List.getElem?_eq_some_iff.1 hk).1
  have hk1 : ∀ r, (h ++ r)[k]? = some (.cells 25 [.lst 2 (p.Enums.map DEnum.enc) none, .lst 5 (p.Nodes.map DNode.enc) none]) := fun r => by rw [List.getElem?_append_left hkl]; exact hk
  refine acall_of_vc tabOK Tryz.func240 (by kernel_rfl) rfl (n := 9) rfl (rs := [.tmp 3]) rfl ?_
  simp only [go_sem, hk1]
  refine PCall.call (rightN p.Enums n hn) ?_
  simp only [go_sem]
  exact finH0 _ rfl (.raw _) hK

theorem check41 (n : DNode) (hl : (allV n).length ≤ 60) {h : List Blk} {K : AV → List Blk → Prop} (hK : K (.b (!(onceN n))) h) : ACall Tryz.prog 242 [n.enc] h K := by
  refine acall_of_vc tabOK Tryz.func242 (by kernel_rfl) rfl (n := 6) rfl (rs := [.tmp 2]) rfl ?_
  simp only [go_sem]
  refine PCall.call (onceP n hl) ?_
  simp only [go_sem]
  exact finH0 _ rfl (.raw _) hK
theorem great_f (n : DNode) {h : List Blk} {K : AV → List Blk → Prop} (hK : K (.b (greatF n)) h) : ACall Tryz.prog 239 [n.enc] h K := by
  refine PCall.call (greatP n) ?_
  exact hK
theorem okN_len {n : DNode} (h : okNode n) : (allV n).length ≤ 60 := by
  have h1 := h.1.1
  have h2 := h.2.1.1
  have h3 := h.2.2.1.1
  simp [allV]
  omega

theorem checkP (p : DProg) (hp : okProg p) : PCall Tryz.prog 194 [p.enc] (.i (checkF p)) := by
  have hp6 := hp.2.1
  refine pcall_of_vc tabOK Tryz.func194 (by kernel_rfl) rfl pureL pureI (n := 52) rfl (rs := [.tmp 2]) rfl ?_
  unfold checkF
  simp only [go_sem]
  refine PCall.call (enumsP p.Enums hp.1) ?_
  generalize enumsF p.Enums = e
  simp only [go_sem]
  refine brK_dec (fun h0 => ?_) (fun h0 => ?_)
  · simp only [go_sem]
    exact finIq rfl (by rw [if_pos (by simpa using h0)])
  rw [if_neg (by simpa using h0)]
  simp only [go_sem]
  intro _
  refine loop_ghost (ghost_tok 4 9 1 rfl) ?_
  refine loop_fr [4, 6, 16, 17, 18, 19, 20, 21, 22, 23, 24, 25] (fun m C hh => ∃ (i : Nat) (r : List Blk), i ≤ p.Nodes.length ∧ m = p.Nodes.length - i ∧ C = [(16, .raw (.int .i64 (i : Nat))), (4, .lst 1 (((p.Nodes.take i).map DNode.Name).map AV.s) (some 1))] ∧ hh = progBd p :: .tok 9 1 (p.Nodes.take i).length :: r) p.Nodes.length _ ⟨0, [], by omega, by omega, rfl, rfl⟩ (.cons rfl (.cons rfl .nil)) ?_
  rintro m C j hh ⟨i, r, hi, rfl, rfl, rfl⟩
  simp only [go_sem]
  refine brK_dec (fun hlt => ?_) (fun hge => ?_)
  · simp only [go_sem]
    refine elemMap (by omega) (by omega) (fun d hd => ?_)
    have hli : (p.Nodes.take i).length = i := by rw [List.length_take]; omega
    have hli2 : (p.Nodes.take (i + 1)).length = i + 1 := by rw [List.length_take]; omega
    have hst := take_mapS (f := DNode.Name) hd
    try simp only [go_sem]
    refine ⟨by simp; omega, ?_⟩
    try simp only [go_sem]
    exact loopFr _ (by omega) ⟨i + 1, _, by omega, rfl, rfl, by rw [hli2, hli]⟩ (.next rfl (by omega) (.cons (by rw [hst]; simp [slot]) .nil)) rfl
  · rw [List.take_of_length_le (by omega)]
    have hany1 : p.Nodes.all (nodeF p.Enums.length) = !(p.Nodes.any fun n => !(nodeF p.Enums.length n)) := List.all_eq_not_any_not
    have hany2 : p.Nodes.all onceN = !(p.Nodes.any fun n => !(onceN n)) := List.all_eq_not_any_not
    rw [hany1, hany2]
    repeat' first
      | (exfalso; omega)
      | simp only [go_sem]
      | (intro _)
      | refine brK_dec (fun _ => ?_) (fun _ => ?_)
      | refine gK_dec (fun _ => ?_) (fun _ => ?_)
      | (refine some37 (q := greatF) (fun x hx r K hK => great_f x hK) ?_; generalize p.Nodes.any greatF = b; cases b)
      | (refine some37 (q := fun n => !(nodeF p.Enums.length n)) (fun x hx r K hK => check39 p x (hp.2.2 x hx) (k := 0) rfl hK) ?_; generalize (p.Nodes.any fun n => !(nodeF p.Enums.length n)) = b; cases b)
      | (refine some37 (q := fun n => !(onceN n)) (fun x hx r K hK => check41 x (okN_len (hp.2.2 x hx)) hK) ?_; generalize (p.Nodes.any fun n => !(onceN n)) = b; cases b)
      | (refine PCall.callW (once12 (p.Nodes.map DNode.Name)) ⟨.tok _ _ _, trivial⟩ ?_; generalize onceB (p.Nodes.map DNode.Name) = b; cases b)
      | (refine finIq rfl ?_; rw [if_pos (c := p.Nodes.length = 0) (by omega)]; done)
      | (refine finIq rfl ?_; (try rw [if_pos (c := p.Nodes.length = 0) (by omega)]); (try rw [if_neg (c := p.Nodes.length = 0) (by omega)]); (try rw [decide_eq_true (p := p.Nodes.length > 6) (by omega)]); (try rw [decide_eq_false (p := p.Nodes.length > 6) (by omega)]); simp; done)
theorem any_next {α : Type} {l : List α} {i : Nat} {x : α} (f : α → Bool) (hx : l[i]? = some x) : (l.take (i + 1)).any f = ((l.take i).any f || f x) := by
  obtain ⟨hi, rfl⟩ := List.getElem?_eq_some_iff.1 hx
  rw [List.take_succ_eq_append_getElem hi, List.any_append]
  simp
def nmD (l : List DDecl) (s : ByteArray) : Bool := l.any fun d => decide (d.Name = s)
theorem nmD_next {l : List DDecl} {i : Nat} {x : DDecl} (hx : l[i]? = some x) (s : ByteArray) : nmD (l.take (i + 1)) s = (nmD (l.take i) s || decide (x.Name = s)) := any_next _ hx
def gOpen (l m : List DDecl) (s : ByteArray) : Nat := if nmD l s = true then 1 else if nmD m s = true then 2 else 0
theorem gOpen_end (n : DNode) (s : ByteArray) : gOpen n.Ins (n.Outs ++ n.Vars) s = knF n [] s := by
  unfold gOpen knF inF nmD memB
  simp
theorem open_free {f : Value → Option AV} {W : List DDecl} {i : Nat} {d : DDecl} (hM : MapN f (gOpen [] (W.take i))) (hd : W[i]? = some d) : MapN (mput f (.string d.Name) (.raw (.int .i64 2))) (gOpen [] (W.take (i + 1))) := by
  refine hM.put d.Name 2 _ ?_ (fun s hs => ?_)
  · unfold gOpen; rw [nmD_next hd]; simp [nmD]
  · have : ¬ d.Name = s := fun e => hs e.symm
    unfold gOpen; rw [nmD_next hd]; simp [this]
theorem open_in {f : Value → Option AV} {L W : List DDecl} {i : Nat} {d : DDecl} (hM : MapN f (gOpen (L.take i) W)) (hd : L[i]? = some d) : MapN (mput f (.string d.Name) (.raw (.int .i64 1))) (gOpen (L.take (i + 1)) W) := by
  refine hM.put d.Name 1 _ ?_ (fun s hs => ?_)
  · unfold gOpen; rw [nmD_next hd]; simp
  · have : ¬ d.Name = s := fun e => hs e.symm
    unfold gOpen; rw [nmD_next hd]; simp [this]
theorem snoc3 {α : Type} (h : List α) (a b c : α) : h ++ [a, b, c] = (h ++ [a]) ++ [b, c] := by simp

theorem open48 {p : DProg} {j : Nat} {n : DNode} (hj : p.Nodes[j]? = some n) (hn : okNode n) {h : List Blk} {K : AV → List Blk → Prop} (hK : ∀ A c f r, A = h ++ [progBd p] → MapN f (knF n []) → K (.ptr (A.length + 1) 0) (HS A p (j : Int) c f r)) : ACall Tryz.prog 195 [p.enc, .i (j : Int)] h K := by
  have hh1 := hn.1.1
  have hh2 := hn.2.1.1
  have hh3 := hn.2.2.1.1
  have hL : [n.Outs, n.Vars].flatten = n.Outs ++ n.Vars := by simp
  have hll : (n.Outs ++ n.Vars).length ≤ 60 := by simp; omega
  refine acallK_of_vc tabOK Tryz.func195 (by kernel_rfl) rfl (n := 51) rfl (rs := [.tmp 4]) rfl ?_
  simp only [go_sem]
  rw [snoc3]
  obtain ⟨A, hA⟩ : ∃ A, A = h ++ [progBd p] := ⟨_, rfl⟩
  rw [← hA]
  have hl1 : h.length + 1 = A.length := by rw [hA]; simp
  have hl2 : h.length + 2 = A.length + 1 := by omega
  rw [hl1, hl2]
  refine node87 hj (fun r1 => ?_)
  simp only [go_sem]
  simp only [DNode.enc_eq]
  simp only [go_sem]
  refine node87 hj (fun r2 => ?_)
  simp only [go_sem]
  simp only [DNode.enc_eq]
  simp only [go_sem]
  refine PCall.callW (concatD [n.Outs, n.Vars] (by show ([n.Outs, n.Vars].flatten).length ≤ _; rw [hL]; omega)) ⟨.tok _ _ _, trivial⟩ ?_
  rw [hL]
  generalize hW : n.Outs ++ n.Vars = W at hll
  simp only [go_sem]
  intro _
  refine loop_fr [7, 24, 25, 26, 27, 28, 29, 30, 31, 32, 33, 34] (fun m C hh => ∃ (i c' : Nat) (f' : Value → Option AV) (r' : List Blk), i ≤ W.length ∧ m = W.length - i ∧ MapN f' (gOpen [] (W.take i)) ∧ C = [(24, .raw (.int .i64 (i : Nat)))] ∧ hh = HS A p (j : Int) c' f' r') W.length _ ⟨0, 0, _, _, by omega, by omega, MapN.nil.cast (fun s => by simp [gOpen, nmD]), rfl, rfl⟩ (.cons rfl .nil) ?_
  rintro m C jb hh ⟨i, c', f', r', hi, rfl, hM, rfl, rfl⟩
  simp only [go_sem]
  refine brK_dec (fun hlt => ?_) (fun hge => ?_)
  · simp only [go_sem]
    refine elemMap (by omega) (by omega) (fun d hd => ?_)
    have hM2 := open_free hM (by simpa using hd)
    simp only [go_sem]
    refine drawZ mo (by kernel_rfl) rfl ?_
    simp only [List.dropLast_cons_cons, List.dropLast_singleton, List.getLast_cons_cons, List.getLast_singleton]
    simp only [go_sem]
    exact loopFr _ (by omega) ⟨i + 1, _, _, _, by omega, rfl, hM2, rfl, rfl⟩ (.next rfl (by omega) .nil) rfl
  · rw [List.take_of_length_le (by omega)] at hM
    simp only [go_sem]
    refine node87 hj (fun r3 => ?_)
    simp only [go_sem]
    simp only [DNode.enc_eq]
    simp only [go_sem]
    intro _
    refine loop_fr [9, 39, 40, 41, 42, 43, 44, 45, 46, 47, 48, 49] (fun m C hh => ∃ (i c' : Nat) (f' : Value → Option AV) (r' : List Blk), i ≤ n.Ins.length ∧ m = n.Ins.length - i ∧ MapN f' (gOpen (n.Ins.take i) W) ∧ C = [(39, .raw (.int .i64 (i : Nat)))] ∧ hh = HS A p (j : Int) c' f' r') n.Ins.length _ ⟨0, _, _, _, by omega, by omega, hM, rfl, rfl⟩ (.cons rfl .nil) ?_
    rintro m C jd hh ⟨i2, c2, f2, r4, hi2, rfl, hM2, rfl, rfl⟩
    simp only [go_sem]
    refine brK_dec (fun hlt2 => ?_) (fun hge2 => ?_)
    · simp only [go_sem]
      refine elemMap (by omega) (by omega) (fun d hd => ?_)
      have hM3 := open_in hM2 (by simpa using hd)
      simp only [go_sem]
      refine drawZ mo (by kernel_rfl) rfl ?_
      simp only [List.dropLast_cons_cons, List.dropLast_singleton, List.getLast_cons_cons, List.getLast_singleton]
      simp only [go_sem]
      exact loopFr _ (by omega) ⟨i2 + 1, _, _, _, by omega, rfl, hM3, rfl, rfl⟩ (.next rfl (by omega) .nil) rfl
    · rw [List.take_of_length_le (by omega)] at hM2
      simp only [go_sem]
      exact finK (r := .ptr (A.length + 1) 0) rfl (hK A c2 f2 r4 hA (hM2.cast (fun s => by rw [← hW]; exact gOpen_end n s)))

theorem scopeCheck (p : DProg) (hp : okProg p) : PCall Tryz.prog 155 [p.enc] (scopeF p).enc := by
  refine pcall_of_vc tabOK Tryz.func155 (by kernel_rfl) rfl (by first | exact pureL | exact pureI) (by first | exact pureL | exact pureI) (n := 28) rfl (rs := [.cell 2 61]) rfl ?_
  have hp6 := hp.2.1
  unfold scopeF
  simp only [go_sem]
  refine PCall.call (checkP p hp) ?_
  generalize checkF p = e
  simp only [go_sem]
  refine brK_dec (fun h0 => ?_) (fun h0 => ?_)
  · rw [if_neg h0, DFault.enc_eq]
    simp only [go_sem]
    exact ⟨_, rfl, false, .refl _⟩
  rw [if_pos (by simpa using h0)]
  simp only [go_sem]
  intro _
  generalize hE : nodesFault p 0 p.Nodes = E
  refine loop_frX [4, 5, 15, 16, 17, 18, 19, 20, 21, 22, 23, 24, 25, 26] (fun m C => ∃ i : Nat, i ≤ p.Nodes.length ∧ m = p.Nodes.length - i ∧ nodesFault p i (p.Nodes.drop i) = E ∧ C = [(15, .raw (.int .i64 (i : Nat)))]) p.Nodes.length _ ⟨0, by omega, by omega, hE, rfl⟩ (.cons rfl .nil) ?_
  rintro m C ja r ⟨i, hi, rfl, hE', rfl⟩
  simp only [go_sem]
  refine brK_dec (fun hlt => ?_) (fun hge => ?_)
  · obtain ⟨n, hj⟩ : ∃ n, p.Nodes[i]? = some n := ⟨_, List.getElem?_eq_getElem (by omega)⟩
    have hn := hp.2.2 n (List.mem_of_getElem? hj)
    simp only [go_sem]
    refine open48 hj hn (fun A c f r1 hA hM => ?_)
    simp only [go_sem]
    refine check49 hj hn hM (fun c' f' r2 => ?_)
    subst hA
    by_cases hF : (nodeFault p (i : Int) n).Err = 0
    · have hE1 := nodes_next hE' (by simpa using hj) hF
      have hz := nodeFault_zero hF
      rw [hz, DFault.enc_eq]
      simp only [go_sem]
      exact loopFrX _ (by omega) _ ⟨i + 1, by omega, rfl, hE1, rfl⟩ (.next rfl (by omega) .nil) rfl (by first | rfl | (simp only [List.append_assoc, List.cons_append, List.nil_append]; rfl))
    · have hE1 := nodes_at hE' (by simpa using hj) hF
      rw [hE1]
      generalize nodeFault p (i : Int) n = F at hF
      rw [DFault.enc_eq]
      simp only [go_sem]
      refine brK_dec (fun _ => ?_) (fun hq => absurd hF hq)
      simp only [go_sem]
      exact ⟨_, rfl, false, by rw [DFault.enc_eq]; exact .refl _⟩
  · have h0 := nodes_0 hE' (by omega)
    subst h0
    rw [DFault.enc_eq]
    simp only [go_sem]
    exact ⟨_, rfl, false, .refl _⟩
def okAB (i : Nat) (a b : List ByteArray) : Prop := a.length ≤ i ∧ b.length ≤ 12 * i ∧ ∀ s ∈ b, s.size ≤ 100
theorem okAB.zero : okAB 0 [] [] := ⟨by simp, by simp, by simp⟩
theorem okAB.next {l : List DEnum} {i : Nat} {a b : List ByteArray} {x : DEnum} (h : okAB i a b) (hl : okEnums l) (hx : l[((i : Nat) : Int).toNat]? = some x) : okAB (i + 1) (a ++ [x.Name]) (b ++ x.Ctors) := by
  have hm := hl.2 x (List.mem_of_getElem? hx)
  have h1 := hm.1
  refine ⟨by have := h.1; simp; omega, by have := h.2.1; simp; omega, fun s hs => ?_⟩
  rcases List.mem_append.1 hs with q | q
  · exact h.2.2 s q
  · exact hm.2.2 s q

def okAX (l : List DEnum) (i : Nat) (a b : List ByteArray) : Prop := okAB i a b ∧ a = (l.take i).map DEnum.Name ∧ b = (l.take i).flatMap DEnum.Ctors ∧ ∀ e ∈ l.take i, e.Ctors.length ≤ 6
theorem okAX.zero {l : List DEnum} : okAX l 0 [] [] := ⟨.zero, by simp, by simp, by simp⟩
theorem okAX.next {l : List DEnum} {i : Nat} {a b : List ByteArray} {x : DEnum} (h : okAX l i a b) (hl : okEnums l) (hx : l[((i : Nat) : Int).toNat]? = some x) (h6 : x.Ctors.length ≤ 6) : okAX l (i + 1) (a ++ [x.Name]) (b ++ x.Ctors) :=
  ⟨h.1.next hl hx, by rw [take_mapS hx, h.2.1], by rw [flatMap_next _ (by simpa using hx), h.2.2.1], take_all h.2.2.2 (by simpa using hx) h6⟩
end Go.Proofs.YtpamokpmlplopaaGreatDoor

namespace Go.Proofs.YtpamokpmlplopaaGreatDoor
open Go.Abs
set_option maxRecDepth 20000
set_option linter.unusedSimpArgs false
set_option linter.unusedVariables false
set_option maxHeartbeats 1000000
attribute [local irreducible] vc vcOps vcStep vcGuard prK hrK gK gsK brK callK ElemK SeqK BlockK ScopeK OpsK CallK LoopK LoopGo finPost ACall PCall PCallE BCall vqOps vqStep vqGuard qrK heK pcK gqK gqsK QOpsK qcallK DrawK
def chkX (p : DProg) (i : Nat) (a : List ByteArray) (u v : Bool) : Prop := a = (p.Nodes.take i).map DNode.Name ∧ u = (p.Nodes.take i).all (nodeF p.Enums.length) ∧ v = (p.Nodes.take i).all onceN ∧ ∀ n ∈ p.Nodes.take i, greatF n = false
theorem chkX.zero {p : DProg} : chkX p 0 [] true true := ⟨by simp, by simp, by simp, by simp⟩
theorem chkX.next {p : DProg} {i : Nat} {a : List ByteArray} {u v u' v' : Bool} {n : DNode} (h : chkX p i a u v) (hx : p.Nodes[((i : Nat) : Int).toNat]? = some n) (hg : greatF n = false) (hu : u' = (u && nodeF p.Enums.length n)) (hv : v' = (v && onceN n)) : chkX p (i + 1) (a ++ [n.Name]) u' v' :=
  ⟨by rw [take_mapS hx, h.1], by rw [hu, all_nextZ _ hx, h.2.1], by rw [hv, all_nextZ _ hx, h.2.2.1], take_all h.2.2.2 (by simpa using hx) hg⟩
section
variable {p : DProg} {en : Int}
end
end Go.Proofs.YtpamokpmlplopaaGreatDoor

namespace Go.Proofs.YtpamokpmlplopaaGreatDoor
open Go.Abs
set_option maxRecDepth 20000
set_option linter.unusedSimpArgs false
set_option linter.unusedVariables false
set_option maxHeartbeats 1000000
attribute [local irreducible] vc vcOps vcStep vcGuard prK hrK gK gsK brK callK ElemK SeqK BlockK ScopeK OpsK CallK LoopK LoopGo finPost ACall PCall PCallE BCall vqOps vqStep vqGuard qrK heK pcK gqK gqsK QOpsK qcallK DrawK

noncomputable def toldP (p : DProg) (n : DNode) (e : Ex) : List DTy × Bool :=
  if e.kind = 13 then (match allS (ofL p n e.subs) with
    | none => ([], false)
    | some ts => ((callT p e ts).1.Outs.map DDecl.Ty, (callT p e ts).2))
  else ([(headP p n e (ofL p n e.subs)).1], (headP p n e (ofL p n e.subs)).2)
noncomputable def eqTy (p : DProg) (n : DNode) (q : DEq) : Bool := (toldP p n q.E).2 && eqB (q.Names.map fun s => (decl n s).1.Ty) (toldP p n q.E).1
def clkTy (p : DProg) (n : DNode) (d : DDecl) : Bool := decide (d.On = ⟨#[]⟩) || whenT p n d.On d.Ctor
noncomputable def nodeTy (p : DProg) (a : Nat) (n : DNode) : DFault :=
  if (allV n).all (clkTy p n) = true then firstE (a : Int) 7 (fun _ q => eqTy p n q) 0 n.Eqs else ⟨(a : Int), -1, 7⟩
noncomputable def typesF (p : DProg) : DFault := if (scopeF p).Err = 0 then firstF (nodeTy p) 0 p.Nodes else scopeF p
theorem nodes_first (p : DProg) : ∀ (l : List DNode) (i : Nat), nodesFault p i l = firstF (fun i n => nodeFault p (i : Int) n) i l
  | [], _ => rfl
  | n :: r, i => by rw [nodesFault, firstF, nodes_first p r (i + 1)]
theorem scope_zero {p : DProg} (h : (scopeF p).Err = 0) : scopeF p = ⟨0, 0, 0⟩ ∧ checkF p = 0 ∧ ∀ (k : Nat) n, p.Nodes[k]? = some n → (nodeFault p (k : Int) n).Err = 0 := by
  unfold scopeF at *
  split at h
  · rename_i h0
    rw [if_pos h0]
    rw [nodes_first] at h ⊢
    obtain ⟨h1, h2⟩ := firstF_zero h
    exact ⟨h1, h0, fun k n hk => by have := h2 k n hk; simpa using this⟩
  · rename_i h0; exact absurd h h0
theorem nodeTy_zero {p : DProg} {a : Nat} {n : DNode} (h : (nodeTy p a n).Err = 0) : nodeTy p a n = ⟨0, 0, 0⟩ ∧ (∀ d ∈ allV n, clkTy p n d = true) ∧ ∀ q ∈ n.Eqs, eqTy p n q = true := by
  unfold nodeTy at *
  split at h
  · rename_i h0
    rw [if_pos h0]
    obtain ⟨h1, h2⟩ := firstE_zero (by decide) h
    refine ⟨h1, List.all_eq_true.1 h0, fun q hq => ?_⟩
    obtain ⟨i, hi, rfl⟩ := List.getElem_of_mem hq
    exact h2 i _ (List.getElem?_eq_getElem hi)
  · cases h
theorem types_zero {p : DProg} (h : (typesF p).Err = 0) : typesF p = ⟨0, 0, 0⟩ ∧ scopeF p = ⟨0, 0, 0⟩ ∧ checkF p = 0 ∧ ∀ (k : Nat) n, p.Nodes[k]? = some n → (nodeTy p k n).Err = 0 := by
  unfold typesF at *
  split at h
  · rename_i h0
    rw [if_pos h0]
    obtain ⟨h1, h2⟩ := firstF_zero h
    obtain ⟨k1, k2, k3⟩ := scope_zero h0
    exact ⟨h1, k1, k2, fun k n hk => by have := h2 k n hk; simpa using this⟩
  · rename_i h0; exact absurd h h0
theorem eqs_right {p : DProg} (h : checkF p = 0) {n : DNode} (hn : n ∈ p.Nodes) {q : DEq} (hq : q ∈ n.Eqs) : 0 < q.Names.length ∧ rightE q.E = true := by
  have hnf := List.all_eq_true.1 (check_nodes h) n hn
  unfold nodeF at hnf
  simp only [Bool.and_eq_true] at hnf
  have hd := List.all_eq_true.1 hnf.1.2 q hq
  unfold eqF at hd
  simp only [Bool.and_eq_true, decide_eq_true_eq] at hd
  exact ⟨hd.1.1.1, hd.1.1.2⟩

def layRevD_ren : Go.Shelf.Ren := ⟨fun | 35 => 209 | n => n, fun | 22 => 65 | 23 => 77 | 3 => 3 | 4 => 4 | 0 => 0 | n => n, fun | n => n⟩
theorem layRevD : Go.Proofs.SlLaysE0.n35 Tryz.prog layRevD_ren := {
  mixed := by kernel_rfl
  f35 := ⟨Tryz.f209.name, by decide, Tryz.func209.trans (congrArg some (by kernel_rfl))⟩
  t0 := Tryz.underlying0
  a0 := Tryz.isAgg0
  z0 := Tryz.sizeOf0
  v0 := Tryz.zeroValue0
  t3 := Tryz.underlying3
  a3 := Tryz.isAgg3
  z3 := Tryz.sizeOf3
  v3 := Tryz.zeroValue3
  t4 := Tryz.underlying4
  a4 := Tryz.isAgg4
  z4 := Tryz.sizeOf4
  v4 := Tryz.zeroValue4
  t22 := Tryz.underlying65
  a22 := Tryz.isAgg65
  z22 := Tryz.sizeOf65
  v22 := Tryz.zeroValue65 }
/-- slices.Reverse on a slice of the call's own. -/
theorem reverseD {es : List AV} {kk n : Nat} {h : List Blk} {K : AV → List Blk → Prop} (hn : n = es.length) (hk : h[kk]? = some (.own 77 6 es)) (hK : K (.tup []) (h.set kk (.own 77 6 es.reverse))) :
    ACall Tryz.prog 209 [.own 6 kk n] h K := by
  subst hn
  exact own_reverse (by decide) (fun vs w => run_callFunc Tryz.func209 (by kernel_rfl) rfl vs w)
    (fun blk cap d w hH hsz => Go.Proofs.AnyQ.slices_Reverse layRevD 6 Tryz.isAgg77 Tryz.sizeOf77 (fun x : Cells 6 => x.1) (fun x => x.2.1) (fun x => x.2.2) blk 0 cap d w hH hsz)
    (fun a cap w => Go.Proofs.AnyQ.slices_Reverse_empty layRevD a cap w) hk hK

theorem Weak.tups {cs ds : List AV} (h : WeakL cs ds) : Weak (.tup cs) (.tup ds) := .tup cs ds h.at.1 h.at.2

def clk (n : DNode) : Nat → ByteArray → List DDecl → List DDecl × Bool
  | 0, _, _ => ([], false)
  | k + 1, name, acc => if (decl n name).2 = true then (if (decl n name).1.On = ⟨#[]⟩ then (acc, true) else clk n k (decl n name).1.On ((decl n name).1 :: acc)) else ([], false)
def clock (n : DNode) (name : ByteArray) : List DDecl × Bool := clk n 13 name []
abbrev clockA (p : List DDecl × Bool) : AV := .tup [.lst 6 (p.1.map DDecl.enc) none, .b p.2]
theorem clk_succ (n : DNode) (k : Nat) (name : ByteArray) (acc : List DDecl) : clk n (k + 1) name acc = if (decl n name).2 = true then (if (decl n name).1.On = ⟨#[]⟩ then (acc, true) else clk n k (decl n name).1.On ((decl n name).1 :: acc)) else ([], false) := rfl
theorem clk_len (n : DNode) : ∀ (k : Nat) (s : ByteArray) (acc : List DDecl), (clk n k s acc).1.length ≤ acc.length + k
  | 0, _, _ => by simp [clk]
  | k + 1, s, acc => by
    rw [clk_succ]
    split
    · split
      · dsimp only; omega
      · have := clk_len n k (decl n s).1.On ((decl n s).1 :: acc)
        simp only [List.length_cons] at this
        omega
    · simp
theorem clock_len (n : DNode) (s : ByteArray) : (clock n s).1.length ≤ 13 := by
  have := clk_len n 13 s []
  simpa [clock] using this
theorem pure_clockA (p : List DDecl × Bool) : Go.Abs.Pure (clockA p) := .tup _ (pure_cons (DDecl.pures _) (pure_cons (.raw _) pure_nil))
theorem weak_no : Weak (.tup [.raw (.slice none 0 0), .b false]) (clockA ([], false)) := Weak.tups ⟨.nil _, .refl _, trivial⟩

abbrev nodeB (n : DNode) : Blk := .cells 68 [.s n.Name, .lst 6 (n.Ins.map DDecl.enc) none, .lst 6 (n.Outs.map DDecl.enc) none, .lst 6 (n.Vars.map DDecl.enc) none, .lst 7 (n.Eqs.map DEq.enc) none]


theorem clock21 (n : DNode) (name : ByteArray) (hl : (allV n).length ≤ 4294967296) : PCall Tryz.prog 162 [n.enc, .s name] (clockA (clock n name)) := by
  refine pcall_of_vc tabOK Tryz.func162 (by kernel_rfl) rfl (by first | exact pureL | exact pureI) (pure_clockA _) (n := 32) rfl (rs := [.tmp 4, .tmp 5]) rfl ?_
  simp only [go_sem]
  refine loop_ghost (ghost_own 6 77 6 rfl) ?_
  simp only [go_sem]
  refine loop_fr [1, 6, 7, 8, 9, 10, 11, 12, 13, 14, 15, 16, 17, 18, 19, 20, 21, 22, 23, 24, 25, 26, 27, 28, 29, 30, 31, 4, 5]
    (fun m C h => ∃ (i : Nat) (nm : ByteArray) (acc : List DDecl) (r : List Blk), i ≤ 13 ∧ acc.length ≤ i ∧ m = 13 - i ∧ clk n (13 - i) nm acc = clock n name ∧ C = [(9, .raw (.int .i64 (i : Nat))), (1, .s nm), (6, .own 6 1 (acc.reverse.map DDecl.enc).length)] ∧
      h = nodeB n :: .own 77 6 (acc.reverse.map DDecl.enc) :: r) 13 _ ⟨0, name, [], [], by omega, by simp, rfl, rfl, rfl, rfl⟩ (.cons rfl (.cons rfl (.cons rfl .nil))) ?_
  rintro m C j h ⟨i, nm, acc, r, hi, hal, rfl, hc, rfl, rfl⟩
  simp only [go_sem]
  refine brK_dec (fun hlt => ?_) (fun hge => ?_)
  · simp only [go_sem]
    refine PCall.call (decl25 n nm hl) ?_
    have he : 13 - i = (13 - (i + 1)) + 1 := by omega
    rw [he, clk_succ] at hc
    generalize decl n nm = d at hc ⊢
    obtain ⟨d, ok⟩ := d
    simp only [go_sem]
    cases ok with
    | false =>
      simp only [Bool.false_eq_true, if_false] at hc
      rw [← hc]
      simp only [go_sem]
      exact ⟨_, rfl, false, weak_no⟩
    | true =>
      simp only [if_true] at hc
      simp only [go_sem]
      refine brK_dec (fun hon => ?_) (fun hon => ?_)
      · rw [if_pos hon] at hc
        rw [← hc]
        simp only [go_sem]
        refine reverseD (es := acc.reverse.map DDecl.enc) (kk := 1) (by simp) rfl ?_
        simp only [go_sem]
        refine ⟨_, rfl, true, ?_⟩
        have hz : ∀ R : List Blk, frz (nodeB n :: .own 77 6 (acc.reverse.map DDecl.enc).reverse :: R) (.own 6 1 acc.reverse.length) = .lst 6 (acc.map DDecl.enc) none := by
          intro R
          simp [frz]
        show Weak (.tup [frz _ (.own 6 1 acc.reverse.length), .b true]) _
        rw [hz]
        exact .refl _
      · rw [if_neg hon] at hc
        simp only [go_sem]
        refine ⟨by simp; omega, ?_⟩
        exact loopFr (13 - (i + 1)) (by omega) ⟨i + 1, d.On, d :: acc, r ++ [.cells 77 [.s d.Name, .i d.Ty.Kind, .i d.Ty.Enum, .i d.Ty.Len, .s d.On, .s d.Ctor], .tok 77 6 1], by omega, by simp; omega, rfl, hc, rfl, by simp⟩
          (.next rfl (by omega) (.cons rfl (.cons (by simp) .nil))) rfl
  · have : i = 13 := by omega
    subst this
    simp only [go_sem]
    rw [← hc]
    exact ⟨_, rfl, false, weak_no⟩

abbrev placeE (p : DProg) (k : Int) : AV := .agg [.lst 2 (p.Enums.map DEnum.enc) none, .lst 5 (p.Nodes.map DNode.enc) none, .i k]
theorem pure_place (p : DProg) (k : Int) : Go.Abs.Pure (placeE p k) := .agg _ (pure_cons (DEnum.pures _) (pure_cons (DNode.pures _) (pure_cons (.raw _) pure_nil)))
def condOf (L : List DEnum) (nm arm : ByteArray) : DCond := ⟨nm, (armF L arm).2.1⟩
def rowL (L : List DEnum) (l : List DDecl) : List DCond × Bool := if l.all (fun d => armOk L d.Ctor) = true then (l.map (fun d => condOf L d.On d.Ctor), true) else ([], false)
def rowN (L : List DEnum) (n : DNode) (name : ByteArray) : List DCond × Bool := if (clock n name).2 = true then rowL L (clock n name).1 else ([], false)
def nodeAt (p : DProg) (k : Int) : Option DNode := if 0 ≤ k then p.Nodes[k.toNat]? else none
def rowF (p : DProg) (k : Int) (name : ByteArray) : List DCond × Bool := match nodeAt p k with | some n => rowN p.Enums n name | none => ([], false)
abbrev rowA (r : List DCond × Bool) : AV := .tup [.lst 2 (r.1.map DCond.enc) none, .b r.2]
theorem pure_rowA (r : List DCond × Bool) : Go.Abs.Pure (rowA r) := .tup _ (pure_cons (DCond.pures _) (pure_cons (.raw _) pure_nil))
abbrev condA (c : DCond) (ok : Bool) : AV := .tup [c.enc, .b ok]
theorem condA_mk (nm : ByteArray) (v : Int) (ok : Bool) : condA ⟨nm, v⟩ ok = .tup [.agg [.s nm, .i v], .b ok] := by
  show AV.tup [DCond.enc _, _] = _
  rw [DCond.enc_eq]
theorem pure_condA (c : DCond) (ok : Bool) : Go.Abs.Pure (condA c ok) := .tup _ (pure_cons (DCond.pure _) (pure_cons (.raw _) pure_nil))
theorem weak_norow : Weak (.tup [.raw (.slice none 0 0), .b false]) (rowA ([], false)) := Weak.tups ⟨.nil _, .refl _, trivial⟩

theorem isSome_getElem?_dec {α : Type} (l : List α) (i : Nat) : (l[i]?).isSome = decide (i < l.length) := by
  by_cases h : i < l.length
  · simp [h]
  · simp [h]
    try omega
theorem rowL_no {L : List DEnum} {l : List DDecl} {d : DDecl} (hd : d ∈ l) (h : armOk L d.Ctor = false) : rowL L l = ([], false) := by
  unfold rowL
  rw [if_neg]
  intro q
  have := List.all_eq_true.1 q d hd
  simp [h] at this
theorem rowL_yes {L : List DEnum} {l : List DDecl} (h : ∀ d ∈ l, armOk L d.Ctor = true) : rowL L l = (l.map (fun d => condOf L d.On d.Ctor), true) := by
  unfold rowL
  rw [if_pos (List.all_eq_true.2 fun d hd => by simpa using h d hd)]


theorem cond127 (p : DProg) (k : Int) (nm arm : ByteArray) : PCall Tryz.prog 163 [placeE p k, .s nm, .s arm] (condA (condOf p.Enums nm arm) (armOk p.Enums arm)) := by
  refine pcall_of_vc tabOK Tryz.func163 (by kernel_rfl) rfl (pure_cons (pure_place p k) (pure_cons (.raw _) (pure_cons (.raw _) pure_nil))) (pure_condA _ _) (n := 24) rfl (rs := [.cell 6 97, .tmp 7]) rfl ?_
  simp only [go_sem]
  refine PCall.call (arm146 _ _) ?_
  rw [show armF p.Enums arm = ((armF p.Enums arm).1, (armF p.Enums arm).2.1, armOk p.Enums arm) from rfl]
  unfold condOf
  generalize armF p.Enums arm = d
  generalize armOk p.Enums arm = ok
  obtain ⟨t, v, ok'⟩ := d
  rw [show armA (t, v, ok) = .tup [.agg [.i t.Kind, .i t.Enum, .i t.Len], .i v, .b ok] by rw [← DTy.enc_eq], condA_mk]
  simp only [go_sem]
  exact ⟨_, rfl, false, .refl _⟩


theorem row90 (p : DProg) (k : Nat) (n : DNode) (hn : p.Nodes[k]? = some n) (name : ByteArray) (hl : (allV n).length ≤ 4294967296) : PCall Tryz.prog 131 [placeE p k, .s name] (rowA (rowN p.Enums n name)) := by
  refine pcall_of_vc tabOK Tryz.func131 (by kernel_rfl) rfl (pure_cons (pure_place p k) (pure_cons (.raw _) pure_nil)) (pure_rowA _) (n := 50) rfl (rs := [.tmp 4, .tmp 5]) rfl ?_
  simp only [go_sem]
  refine elemHave (by omega) (by simpa using hn) ?_
  simp only [go_sem]
  refine PCall.call (clock21 n name hl) ?_
  unfold rowN
  have hlen := clock_len n name
  generalize clock n name = d at hlen ⊢
  obtain ⟨l, ok⟩ := d
  dsimp only at hlen
  simp only [go_sem]
  cases ok with
  | false =>
    simp only [go_sem]
    exact ⟨_, rfl, false, weak_norow⟩
  | true =>
    simp only [go_sem]
    intro _
    refine loop_ghost (ghost_own 8 97 2 rfl) ?_
    simp only [go_sem]
    refine loop_fr [4, 5, 8, 10, 11, 12, 29, 30, 31, 32, 33, 34, 35, 36, 37, 38, 39, 40, 41, 42, 43, 44, 45, 46, 47, 48] (fun m C h => ∃ (i : Nat) (r : List Blk), i ≤ l.length ∧ m = l.length - i ∧ (∀ d ∈ l.take i, armOk p.Enums d.Ctor = true) ∧ C = [(29, .raw (.int .i64 (i : Nat))), (8, .own 2 1 (((l.take i).map (fun d => condOf p.Enums d.On d.Ctor)).map DCond.enc).length)] ∧
      h = .cells 169 [.lst 2 (p.Enums.map DEnum.enc) none, .lst 5 (p.Nodes.map DNode.enc) none, .i k] :: .own 97 2 (((l.take i).map (fun d => condOf p.Enums d.On d.Ctor)).map DCond.enc) :: r) l.length _ ⟨0, [], by omega, by omega, by simp, rfl, rfl⟩ (.cons rfl (.cons rfl .nil)) ?_
    rintro m C j h ⟨i, r, hi, rfl, ha, rfl, rfl⟩
    simp only [go_sem]
    refine brK_dec (fun hlt => ?_) (fun hge => ?_)
    · simp only [go_sem]
      refine elemMap (by omega) (by omega) (fun x hx => ?_)
      have hx' : l[i]? = some x := by simpa using hx
      simp only [go_sem]
      refine PCall.call (cond127 p k x.On x.Ctor) ?_
      simp only [go_sem]
      cases hb : armOk p.Enums x.Ctor with
      | false =>
        simp only [go_sem]
        rw [rowL_no (List.mem_of_getElem? hx') hb]
        exact ⟨_, rfl, false, weak_norow⟩
      | true =>
        simp only [go_sem]
        refine ⟨by simp; omega, ?_⟩
        have h3 : ((l.take (i + 1)).map (fun d => condOf p.Enums d.On d.Ctor)).map DCond.enc = ((l.take i).map (fun d => condOf p.Enums d.On d.Ctor)).map DCond.enc ++ [(condOf p.Enums x.On x.Ctor).enc] := by
          obtain ⟨hlt', rfl⟩ := List.getElem?_eq_some_iff.1 hx'
          rw [List.take_succ_eq_append_getElem hlt', List.map_append, List.map_append]
          rfl
        exact loopFr _ (by omega) ⟨i + 1, _, by omega, rfl, take_all ha hx' hb, rfl, by rw [h3]⟩
          (.next rfl (by omega) (.cons (by simp; try omega) .nil)) rfl
    · have : i = l.length := by omega
      subst this
      simp only [go_sem]
      rw [List.take_length] at ha ⊢
      rw [rowL_yes ha]
      refine ⟨_, rfl, true, ?_⟩
      show Weak (.tup [frz _ (.own 2 1 _), .b true]) _
      refine Weak.tups ⟨?_, .refl _, trivial⟩
      simp [frz]
      exact .refl _


theorem at89 (p : DProg) (k : Int) : PCall Tryz.prog 130 [p.enc, .i k] (.tup [placeE p k, .b (nodeAt p k).isSome]) := by
  refine pcall_of_vc tabOK Tryz.func130 (by kernel_rfl) rfl (by first | exact pureL | exact pureI) (.tup _ (pure_cons (pure_place p k) (pure_cons (.raw _) pure_nil))) (n := 18) rfl (rs := [.cell 4 169, .tmp 5]) rfl ?_
  unfold nodeAt
  simp only [go_sem]
  refine drawC [1] mo (by kernel_rfl) ?_
  repeat' first
    | exact finB rfl
    | exact finI rfl
    | exact finP rfl
    | exact absurd rfl (by assumption)
    | simp only [go_sem]
    | (intro _)
    | refine brK_dec (fun _ => ?_) (fun _ => ?_)
    | refine brK_any ?_ ?_
    | refine gK_dec (fun _ => ?_) (fun _ => ?_)
    | refine gK_any ?_ ?_
    | refine gqK_dec (fun _ => ?_) (fun _ => ?_)
    | refine ⟨by omega, ?_⟩
    | refine elemHave (by omega) (by assumption) ?_
    | refine elemMap (by omega) (by omega) (fun x hx => ?_)
    | refine drawK mo (by kernel_rfl) ?_
  · rw [if_pos (by assumption), show (p.Nodes[k.toNat]?).isSome = decide (k < p.Nodes.length) by rw [isSome_getElem?_dec]; congr 1; apply propext; omega]
    exact ⟨_, rfl, false, .refl _⟩
  · rw [if_neg (by assumption)]
    exact ⟨_, rfl, false, .refl _⟩

theorem row45 (p : DProg) (k : Int) (name : ByteArray) (hl : ∀ n ∈ p.Nodes, (allV n).length ≤ 4294967296) : PCall Tryz.prog 90 [p.enc, .i k, .s name] (rowA (rowF p k name)) := by
  refine pcall_of_vc tabOK Tryz.func90 (by kernel_rfl) rfl pureL pureI (n := 23) rfl (rs := [.tmp 6, .tmp 7]) rfl ?_
  simp only [go_sem]
  refine PCall.call (at89 p k) ?_
  simp only [go_sem]
  unfold rowF
  cases hn : nodeAt p k with
  | none =>
    simp only [go_sem, Option.isSome_none]
    exact ⟨_, rfl, false, weak_norow⟩
  | some n =>
    unfold nodeAt at hn
    have hk : 0 ≤ k := by
      rcases Int.lt_or_le k 0 with h | h
      · rw [if_neg (by omega)] at hn; cases hn
      · exact h
    rw [if_pos hk] at hn
    obtain ⟨m, rfl⟩ := Int.eq_ofNat_of_zero_le hk
    have hn' : p.Nodes[m]? = some n := by simpa using hn
    simp only [go_sem, Option.isSome_some]
    refine PCall.call (row90 p m n hn' name (hl n (List.mem_of_getElem? hn'))) ?_
    simp only [go_sem]
    exact ⟨_, rfl, false, .refl _⟩
end Go.Proofs.YtpamokpmlplopaaGreatDoor

namespace Go.Proofs.YtpamokpmlplopaaGreatDoor
open Go.Abs
set_option maxRecDepth 20000
set_option linter.unusedSimpArgs false
set_option linter.unusedVariables false
set_option maxHeartbeats 1000000
attribute [local irreducible] vc vcOps vcStep vcGuard prK hrK gK gsK brK callK ElemK SeqK BlockK ScopeK OpsK CallK LoopK LoopGo finPost ACall PCall PCallE BCall vqOps vqStep vqGuard qrK heK pcK gqK gqsK QOpsK qcallK DrawK
theorem equalCs (l m : List DCond) : PCall Tryz.prog 110 [.lst 2 (l.map (DCond.enc)) none, .lst 2 (m.map (DCond.enc)) none] (.b (eqB l m)) := by
  refine pcall_of_vc tabOK Tryz.func110 (by kernel_rfl) rfl pureL pureI (n := 26) rfl (rs := [.tmp 4]) rfl ?_
  repeat' first
    | exact finB rfl
    | exact finI rfl
    | exact finP rfl
    | exact absurd rfl (by assumption)
    | simp only [go_sem]
    | (intro _)
    | refine brK_dec (fun _ => ?_) (fun _ => ?_)
    | refine brK_any ?_ ?_
    | refine gK_dec (fun _ => ?_) (fun _ => ?_)
    | refine gK_any ?_ ?_
    | refine gqK_dec (fun _ => ?_) (fun _ => ?_)
    | refine ⟨by omega, ?_⟩
    | refine elemHave (by omega) (by assumption) ?_
    | refine elemMap (by omega) (by omega) (fun x hx => ?_)
    | refine drawK mo (by kernel_rfl) ?_
    | (rw [eqB_ne (len_ne (l := l) (m := m) (by omega))]; exact ⟨_, rfl, false, .refl _⟩)
    | (rw [eqB_ne (at_ne (l := l) (m := m) (i := i) (by assumption) (by assumption) (by assumption))]; exact ⟨_, rfl, false, .refl _⟩)
    | (rw [eqB_eq (take_eq_full (l := l) (m := m) (i := i) (by omega) hpi (by omega))]; exact ⟨_, rfl, false, .refl _⟩)
    | exact loopFrH _ (by omega) ⟨i + 1, by omega, rfl, take_eq_step hpi (by assumption) (by assumption) (by assumption), rfl⟩ (.next rfl (by omega) .nil) rfl
    | (refine loop_frH [4, 5, 13, 14, 15, 16, 17, 18, 19, 20, 21, 22, 23, 24, 25] (fun mm_ CC_ => ∃ (i : Nat), i ≤ l.length ∧ mm_ = l.length - i ∧ (l.take i = m.take i) ∧ CC_ = [(13, .raw (.int .i64 ((i : Nat) : Int)))]) (l.length) _ ⟨0, by omega, by omega, rfl, rfl⟩ (.cons rfl .nil) ?_; rintro mm_ CC_ ji ⟨i, hi, rfl, hpi, rfl⟩)

mutual
noncomputable def fitsF (R : ByteArray → List DCond × Bool) (L : List DEnum) : Ex → List DCond → Bool
  | .mk k _ m _ a s, on =>
    if k = 1 ∨ k = 2 ∨ k = 4 then true
    else if k = 3 then (R m).2 && eqB (R m).1 on
    else if k = 8 then decide (s.length = 2) && fitsT R L s on
    else if k = 11 then decide (a.length = 1) && decide (s.length = 1) && (R m).2 && armOk L (a.headD ⟨#[]⟩) && eqB on ((R m).1 ++ [condOf L m (a.headD ⟨#[]⟩)]) && fitsL R L s (R m).1
    else if k = 12 then (R m).2 && eqB (R m).1 on && decide (a.length = s.length) && fitsM R L m a s on
    else if k = 17 then false
    else fitsL R L s on
noncomputable def fitsL (R : ByteArray → List DCond × Bool) (L : List DEnum) : List Ex → List DCond → Bool
  | [], _ => true
  | x :: xs, on => fitsF R L x on && fitsL R L xs on
noncomputable def fitsT (R : ByteArray → List DCond × Bool) (L : List DEnum) : List Ex → List DCond → Bool
  | [], _ => true
  | _ :: xs, on => fitsL R L xs on
noncomputable def fitsM (R : ByteArray → List DCond × Bool) (L : List DEnum) (m : ByteArray) : List ByteArray → List Ex → List DCond → Bool
  | _, [], _ => true
  | [], _ :: _, _ => true
  | c :: cs, x :: xs, on => armOk L c && fitsF R L x (on ++ [condOf L m c]) && fitsM R L m cs xs on
end
theorem fitsF_eq (R : ByteArray → List DCond × Bool) (L : List DEnum) (e : Ex) (on : List DCond) : fitsF R L e on =
    if e.kind = 1 ∨ e.kind = 2 ∨ e.kind = 4 then true
    else if e.kind = 3 then (R e.name).2 && eqB (R e.name).1 on
    else if e.kind = 8 then decide (e.subs.length = 2) && fitsL R L (e.subs.drop 1) on
    else if e.kind = 11 then decide (e.arms.length = 1) && decide (e.subs.length = 1) && (R e.name).2 && armOk L (e.arms.headD ⟨#[]⟩) && eqB on ((R e.name).1 ++ [condOf L e.name (e.arms.headD ⟨#[]⟩)]) && fitsL R L e.subs (R e.name).1
    else if e.kind = 12 then (R e.name).2 && eqB (R e.name).1 on && decide (e.arms.length = e.subs.length) && fitsM R L e.name e.arms e.subs on
    else if e.kind = 17 then false
    else fitsL R L e.subs on := by
  cases e with
  | mk k n m o a s =>
    rw [fitsF]
    have : fitsT R L s on = fitsL R L (s.drop 1) on := by cases s <;> simp [fitsT, fitsL]
    rw [this]
    rfl
section
variable {R : ByteArray → List DCond × Bool} {L : List DEnum}
theorem fitsL_all (s : List Ex) (on : List DCond) : fitsL R L s on = s.all (fun x => fitsF R L x on) := by
  induction s with
  | nil => simp [fitsL]
  | cons x s ih => simp [fitsL, ih]
theorem fitsM_yes {m : ByteArray} {on : List DCond} : ∀ {a : List ByteArray} {s : List Ex}, (∀ (i : Nat) c x, a[i]? = some c → s[i]? = some x → armOk L c = true ∧ fitsF R L x (on ++ [condOf L m c]) = true) → fitsM R L m a s on = true
  | _, [], _ => by simp [fitsM]
  | [], _ :: _, _ => by simp [fitsM]
  | c :: cs, x :: xs, h => by
    have h0 := h 0 c x rfl rfl
    rw [fitsM, h0.1, h0.2]
    simp only [Bool.true_and]
    exact fitsM_yes fun i c x hc hx => h (i + 1) c x (by simpa using hc) (by simpa using hx)
theorem fitsM_at {m : ByteArray} {on : List DCond} : ∀ {a : List ByteArray} {s : List Ex} {i : Nat} {c : ByteArray} {x : Ex}, fitsM R L m a s on = true → a[i]? = some c → s[i]? = some x → armOk L c = true ∧ fitsF R L x (on ++ [condOf L m c]) = true
  | _, [], i, _, _, _, _, hx => by simp at hx
  | [], _ :: _, i, _, _, _, hc, _ => by simp at hc
  | c :: cs, x :: xs, 0, c', x', h, hc, hx => by
    simp at hc hx
    subst hc; subst hx
    rw [fitsM] at h
    simp only [Bool.and_eq_true] at h
    exact h.1
  | c :: cs, x :: xs, i + 1, c', x', h, hc, hx => by
    rw [fitsM] at h
    simp only [Bool.and_eq_true] at h
    exact fitsM_at h.2 (by simpa using hc) (by simpa using hx)
theorem fitsM_no {m : ByteArray} {on : List DCond} {a : List ByteArray} {s : List Ex} {i : Nat} {c : ByteArray} {x : Ex} (hc : a[i]? = some c) (hx : s[i]? = some x) (h : armOk L c = false ∨ fitsF R L x (on ++ [condOf L m c]) = false) : fitsM R L m a s on = false := by
  cases hb : fitsM R L m a s on with
  | false => rfl
  | true =>
    have := fitsM_at hb hc hx
    simp_all
end
theorem monoAppI : ∀ (r x : List Blk), MonoH r (r ++ x)
  | [], _ => trivial
  | b :: r, x => ⟨by cases b <;> trivial, monoAppI r x⟩
theorem monoApp (r x : List Blk) : MonoH r (r ++ x) = True := eq_true (monoAppI r x)
theorem monoApp2 : ∀ (r x y : List Blk), MonoH (r ++ x) (r ++ y) = MonoH x y
  | [], _, _ => rfl
  | b :: r, x, y => by
    show ((match b with | .cells _ cs => (match b with | .cells _ cs' => cs = cs' | _ => False) | _ => True) ∧ MonoH (r ++ x) (r ++ y)) = _
    rw [monoApp2 r x y]
    cases b <;> simp
theorem on_split {on : List DCond} {k : Nat} {c : DCond} (hk : on.length = k + 1) (hc : on[k]? = some c) : on = on.take k ++ [c] := by
  obtain ⟨hlt, rfl⟩ := List.getElem?_eq_some_iff.1 hc
  rw [← List.take_succ_eq_append_getElem hlt, List.take_of_length_le (by omega)]
theorem eqB_split {on r : List DCond} {j : Nat} {c d : DCond} (hon : on = on.take j ++ [c]) : eqB on (r ++ [d]) = (eqB r (on.take j) && decide (c = d)) := by
  by_cases h1 : r = on.take j
  · by_cases h2 : c = d
    · rw [eqB_eq (by rw [h1, ← h2]; exact hon), eqB_eq h1]; simp [h2]
    · rw [eqB_ne (fun e => h2 (by rw [hon] at e; exact (List.append_inj' e rfl).2 |> fun q => by simpa using q))]; simp [h2]
  · rw [eqB_ne (fun e => h1 (by rw [hon] at e; exact (List.append_inj' e rfl).1.symm)), eqB_ne h1]; simp
theorem eq_one {α : Type} {l : List α} {x : α} (hl : l.length = 1) (hx : l[0]? = some x) : l = [x] := by
  match l, hl with
  | [y], _ => simp at hx; rw [hx]
theorem size_lt {e x : Ex} (h : x ∈ e.subs) : (parts x).length < (parts e).length := by
  obtain ⟨i, hi, rfl⟩ := List.getElem_of_mem h
  have := parts_le hi
  rw [parts_eq e]
  simp
  omega


theorem on129 (p : DProg) (k : Nat) (n : DNode) (hn : p.Nodes[k]? = some n) (hl : (allV n).length ≤ 4294967296) (name : ByteArray) (on : List DCond) :
    PCall Tryz.prog 201 [placeE p k, .s name, .lst 2 (on.map DCond.enc) none] (.b ((rowN p.Enums n name).2 && eqB (rowN p.Enums n name).1 on)) := by
  refine pcall_of_vc tabOK Tryz.func201 (by kernel_rfl) rfl (pure_cons (pure_place p k) (pure_cons (.raw _) (pure_cons (DCond.pures _) pure_nil))) (.raw _) (n := 21) rfl (rs := [.tmp 6]) rfl ?_
  simp only [go_sem]
  refine PCall.call (row90 p k n hn name hl) ?_
  generalize rowN p.Enums n name = r
  obtain ⟨r, ok⟩ := r
  cases ok with
  | false =>
    simp only [go_sem]
    first | exact ⟨_, rfl, false, .refl _⟩ | (refine drawK mo (by kernel_rfl) ?_; simp only [go_sem]; exact ⟨_, rfl, false, .refl _⟩)
  | true =>
    simp only [go_sem]
    first | refine PCall.call (equalCs r on) ?_ | (refine drawK mo (by kernel_rfl) ?_; simp only [go_sem]; refine pcK_of (equalCs r on) ?_)
    simp only [go_sem]
    exact ⟨_, rfl, false, .refl _⟩

end Go.Proofs.YtpamokpmlplopaaGreatDoor

namespace Go.Proofs.YtpamokpmlplopaaGreatDoor
open Go.Abs
set_option maxRecDepth 20000
set_option linter.unusedSimpArgs false
set_option linter.unusedVariables false
set_option maxHeartbeats 1000000
attribute [local irreducible] vc vcOps vcStep vcGuard prK hrK gK gsK brK callK ElemK SeqK BlockK ScopeK OpsK CallK LoopK LoopGo finPost ACall PCall PCallE BCall vqOps vqStep vqGuard qrK heK pcK gqK gqsK QOpsK qcallK DrawK

theorem when130 (p : DProg) (k : Nat) (n : DNode) (hn : p.Nodes[k]? = some n) (hl : (allV n).length ≤ 4294967296) (e : Ex) (on : List DCond) (h11 : e.kind = 11)
    (ih : ∀ x ∈ e.subs, ∀ on' : List DCond, on'.length ≤ on.length + 14 → PCall Tryz.prog 202 [placeE p k, x.enc, .lst 2 (on'.map DCond.enc) none] (.b (fitsF (rowN p.Enums n) p.Enums x on'))) :
    PCall Tryz.prog 250 [placeE p k, e.enc, .lst 2 (on.map DCond.enc) none] (.b (fitsF (rowN p.Enums n) p.Enums e on)) := by
  refine pcall_of_vc tabOK Tryz.func250 (by kernel_rfl) rfl (pure_cons (pure_place p k) (pure_cons (pure_enc e) (pure_cons (DCond.pures _) pure_nil))) (.raw _) (n := 67) rfl (rs := [.tmp 6]) rfl ?_
  have hB : fitsF (rowN p.Enums n) p.Enums e on = (decide (e.arms.length = 1) && decide (e.subs.length = 1) && (rowN p.Enums n e.name).2 && armOk p.Enums (e.arms.headD ⟨#[]⟩) && eqB on ((rowN p.Enums n e.name).1 ++ [condOf p.Enums e.name (e.arms.headD ⟨#[]⟩)]) && fitsL (rowN p.Enums n) p.Enums e.subs (rowN p.Enums n e.name).1) := by
    rw [fitsF_eq]; simp [h11]
  rw [hB]
  clear hB
  by_cases hst : ¬ (on.length = 0) ∧ e.arms.length = 1 ∧ e.subs.length = 1
  · obtain ⟨hon, ha1, hs1⟩ := hst
    obtain ⟨j, hj⟩ : ∃ j, on.length = j + 1 := ⟨on.length - 1, by omega⟩
    obtain ⟨c, hc⟩ : ∃ c, on[j]? = some c := ⟨_, List.getElem?_eq_getElem (by omega)⟩
    obtain ⟨a, ha⟩ : ∃ a, e.arms[0]? = some a := ⟨_, List.getElem?_eq_getElem (by omega)⟩
    obtain ⟨x, hx⟩ : ∃ x, e.subs[0]? = some x := ⟨_, List.getElem?_eq_getElem (by omega)⟩
    have hxm := List.mem_of_getElem? hx
    have hon' := on_split hj hc
    rw [eq_one ha1 ha]
    rw [show fitsL (rowN p.Enums n) p.Enums e.subs (rowN p.Enums n e.name).1 = fitsF (rowN p.Enums n) p.Enums x (rowN p.Enums n e.name).1 by rw [eq_one hs1 hx]; simp [fitsL]]
    simp only [hs1, List.headD_cons, List.length_singleton, decide_true, Bool.true_and]
    simp only [go_sem]
    intro hmax
    have hw : IntKind.i64.wrap ((on.length : Int) - 1) = (j : Int) := by rw [hj, wrap_in _ (by omega) (by omega)]; omega
    simp only [hw]
    repeat' first
      | (exfalso; omega)
      | simp only [go_sem]
      | refine brK_dec (fun _ => ?_) (fun _ => ?_)
      | refine gK_dec (fun _ => ?_) (fun _ => ?_)
      | refine gqK_dec (fun _ => ?_) (fun _ => ?_)
      | (intro _)
      | refine drawK mo (by kernel_rfl) ?_
      | refine elemHave (by omega) ha ?_
      | refine elemHave (by omega) hx ?_
      | refine elemHave (by omega) (by simpa using hc) ?_
      | (refine pcK_of (cond127 p k e.name a) ?_; generalize hok : armOk p.Enums a = ok; cases ok)
      | (refine pcK_of (on129 p k n hn hl e.name (on.take j)) ?_; rw [Int.toNat_natCast]; generalize hr : rowN p.Enums n e.name = r; obtain ⟨r, okr⟩ := r; cases okr <;> (try generalize hq : eqB r (on.take j) = q) <;> (try cases q) <;> (try (replace hq := eqB_t hq; subst hq)))
      | refine pcK_of (ih x hxm (on.take j) (by simp; omega)) ?_
      | refine ⟨by omega, ?_⟩
      | (refine finBq rfl ?_; first | (simp; done) | (rw [eqB_split hon']; clear hon'; simp [*]; done) | (rw [eqB_split hon', eqB_eq rfl]; clear hon'; simp [*]; done))
  · have hB : (decide (e.arms.length = 1) && decide (e.subs.length = 1) && (rowN p.Enums n e.name).2 && armOk p.Enums (e.arms.headD ⟨#[]⟩) && eqB on ((rowN p.Enums n e.name).1 ++ [condOf p.Enums e.name (e.arms.headD ⟨#[]⟩)]) && fitsL (rowN p.Enums n) p.Enums e.subs (rowN p.Enums n e.name).1) = false := by
      by_cases h0 : on.length = 0
      · have : eqB on ((rowN p.Enums n e.name).1 ++ [condOf p.Enums e.name (e.arms.headD ⟨#[]⟩)]) = false := eqB_ne (len_ne (by simp; omega))
        rw [this]; simp
      · have : ¬ (e.arms.length = 1) ∨ ¬ (e.subs.length = 1) := by
          rcases Classical.em (e.arms.length = 1) with q | q
          · exact .inr fun q' => hst ⟨h0, q, q'⟩
          · exact .inl q
        rcases this with q | q <;> simp [q]
    rw [hB]
    simp only [go_sem]
    intro hmax
    have hw : IntKind.i64.wrap ((on.length : Int) - 1) = (on.length : Int) - 1 := wrap_in _ (by omega) (by omega)
    simp only [hw]
    repeat' first
      | (exfalso; omega)
      | exact finP rfl
      | simp only [go_sem]
      | refine brK_dec (fun _ => ?_) (fun _ => ?_)
      | refine gK_dec (fun _ => ?_) (fun _ => ?_)
      | refine gqK_dec (fun _ => ?_) (fun _ => ?_)
      | (intro _)
      | refine drawK mo (by kernel_rfl) ?_
theorem weak_tk {sz : Nat} {es ds : List AV} {k : Nat} (h : es = ds) : Weak (.lst sz es (some k)) (.lst sz ds none) := h ▸ .tok _ _ _

theorem merge131 (p : DProg) (k : Nat) (n : DNode) (hn : p.Nodes[k]? = some n) (hl : (allV n).length ≤ 4294967296) (e : Ex) (on : List DCond) (h12 : e.kind = 12) (hlen : on.length ≤ 1000000)
    (ih : ∀ x ∈ e.subs, ∀ on' : List DCond, on'.length ≤ on.length + 14 → PCall Tryz.prog 202 [placeE p k, x.enc, .lst 2 (on'.map DCond.enc) none] (.b (fitsF (rowN p.Enums n) p.Enums x on'))) :
    PCall Tryz.prog 251 [placeE p k, e.enc, .lst 2 (on.map DCond.enc) none] (.b (fitsF (rowN p.Enums n) p.Enums e on)) := by
  refine pcall_of_vc tabOK Tryz.func251 (by kernel_rfl) rfl (pure_cons (pure_place p k) (pure_cons (pure_enc e) (pure_cons (DCond.pures _) pure_nil))) (.raw _) (n := 66) rfl (rs := [.tmp 6]) rfl ?_
  have hB : fitsF (rowN p.Enums n) p.Enums e on = ((rowN p.Enums n e.name).2 && eqB (rowN p.Enums n e.name).1 on && decide (e.arms.length = e.subs.length) && fitsM (rowN p.Enums n) p.Enums e.name e.arms e.subs on) := by
    rw [fitsF_eq]; simp [h12]
  rw [hB]
  clear hB
  have hon := on129 p k n hn hl e.name on
  simp only [go_sem]
  refine PCall.call hon ?_
  generalize ((rowN p.Enums n e.name).2 && eqB (rowN p.Enums n e.name).1 on) = b0
  cases b0 with
  | false =>
    rw [Bool.false_and, Bool.false_and]
    simp only [go_sem]
    exact finP rfl
  | true =>
    rw [Bool.true_and]
    simp only [go_sem]
    intro _ _
    refine brK_dec (fun hne => ?_) (fun heq => ?_)
    · simp only [go_sem]
      exact finBq rfl (by have : ¬ (e.arms.length = e.subs.length) := by omega
                          simp [this])
    · have heq' : e.arms.length = e.subs.length := by omega
      rw [decide_eq_true heq', Bool.true_and]
      simp only [go_sem, List.take_length]
      intro _ _
      refine ⟨by omega, ?_⟩
      intro _
      refine loop_frX [6, 8, 9, 10, 11, 36, 37, 38, 39, 40, 41, 42, 43, 44, 45, 46, 47, 48, 49, 50, 51, 52, 53, 54, 55, 56, 57, 58, 59, 60, 61, 62, 63, 64, 65] (fun m C => ∃ i : Nat, i ≤ e.arms.length ∧ m = e.arms.length - i ∧ (∀ (j : Nat) c x, j < i → e.arms[j]? = some c → e.subs[j]? = some x → armOk p.Enums c = true ∧ fitsF (rowN p.Enums n) p.Enums x (on ++ [condOf p.Enums e.name c]) = true) ∧ C = [(36, .raw (.int .i64 (i : Nat)))]) e.arms.length _ ⟨0, by omega, by omega, fun j c x hj => by omega, rfl⟩ (.cons rfl .nil) ?_
      rintro m C jj r ⟨i, hi, rfl, hp, rfl⟩
      simp only [go_sem]
      refine brK_dec (fun hlt => ?_) (fun hge => ?_)
      · have hlt' : i < e.arms.length := by omega
        obtain ⟨c, hc⟩ : ∃ c, e.arms[i]? = some c := ⟨_, List.getElem?_eq_getElem hlt'⟩
        obtain ⟨x, hx⟩ : ∃ x, e.subs[i]? = some x := ⟨_, List.getElem?_eq_getElem (by omega)⟩
        simp only [go_sem]
        refine elemHave (by omega) (by simpa using hc) ?_
        simp only [go_sem]
        refine PCall.call (cond127 p k e.name c) ?_
        generalize hok : armOk p.Enums c = ok
        cases ok with
        | false =>
          simp only [go_sem]
          refine drawK mo (by kernel_rfl) ?_
          simp only [go_sem, monoApp, monoApp2]
          exact finBq rfl (fitsM_no hc hx (.inl hok)).symm
        | true =>
          simp only [go_sem]
          refine drawK mo (by kernel_rfl) ?_
          simp only [go_sem, monoApp, monoApp2]
          refine elemHave (by omega) (by simpa using hx) ?_
          simp only [go_sem, monoApp, monoApp2]
          simp only [Int.toNat_natCast, List.take_length]
          refine ⟨⟨by first | rfl | trivial | omega, by omega⟩, ?_⟩
          refine pcK_ofW (ih x (List.mem_of_getElem? hx) (on ++ [condOf p.Enums e.name c]) (by simp)) ⟨.refl _, .refl _, weak_tk (by simp), trivial⟩ ?_
          generalize hf : fitsF (rowN p.Enums n) p.Enums x (on ++ [condOf p.Enums e.name c]) = f
          cases f with
          | false =>
            simp only [go_sem]
            exact finBq rfl (fitsM_no hc hx (.inr hf)).symm
          | true =>
            simp only [go_sem]
            exact loopFrX _ (by omega) _ ⟨i + 1, by omega, rfl, fun j c' x' hj hc' hx' => by
              rcases Nat.lt_or_ge j i with h | h
              · exact hp j c' x' h hc' hx'
              · have : j = i := by omega
                subst this
                rw [hc] at hc'; rw [hx] at hx'
                cases hc'; cases hx'
                exact ⟨hok, hf⟩, rfl⟩ (.next rfl (by omega) .nil) rfl (by first | rfl | (simp only [List.append_assoc, List.cons_append, List.nil_append]; rfl))
      · have : i = e.arms.length := by omega
        subst this
        simp only [go_sem]
        refine finBq rfl (fitsM_yes fun j c x hc hx => hp j c x (List.getElem?_eq_some_iff.1 hc).1 hc hx).symm

theorem containsEx {l : List Ex} {p : Ex → Bool} {g : Nat} {first capt : List AV} {h : List Blk} {K : AV → List Blk → Prop} (hp : ∀ x ∈ l, ∀ K : AV → List Blk → Prop, K (.b (p x)) h → ACall Tryz.prog g (first ++ Ex.enc x :: capt) h K)
    (hK : K (.b (l.any p)) h) : ACall Tryz.prog 170 [.lst 6 (l.map Ex.enc) none, .fn (.func g) first capt] h K := by
  refine acall_of_vc tabOK Tryz.func170 (by kernel_rfl) rfl (n := 9) rfl (rs := [.tmp 4]) rfl ?_
  simp only [go_sem]
  refine indexEx hp ?_
  simp only [go_sem]
  rw [idx_any]
  exact finH1 rfl (.raw _) hK



theorem fits92 (p : DProg) (k : Nat) (n : DNode) (hn : p.Nodes[k]? = some n) (hl : (allV n).length ≤ 4294967296) : ∀ (e : Ex) (on : List DCond), on.length + 14 * (parts e).length ≤ 100000 →
    PCall Tryz.prog 202 [placeE p k, e.enc, .lst 2 (on.map DCond.enc) none] (.b (fitsF (rowN p.Enums n) p.Enums e on)) := by
  intro e
  induction e using Ex.ind with
  | _ e ih =>
  intro on hb
  have ih' : ∀ x ∈ e.subs, ∀ on' : List DCond, on'.length ≤ on.length + 14 → PCall Tryz.prog 202 [placeE p k, x.enc, .lst 2 (on'.map DCond.enc) none] (.b (fitsF (rowN p.Enums n) p.Enums x on')) :=
    fun x hx on' h => ih x hx on' (by have := size_lt hx; omega)
  refine pcall_of_vc tabOK Tryz.func202 (by kernel_rfl) rfl (pure_cons (pure_place p k) (pure_cons (pure_enc e) (pure_cons (DCond.pures _) pure_nil))) (.raw _) (n := 48) rfl (rs := [.tmp 6]) rfl ?_
  simp only [go_sem]
  repeat' first
    | (exfalso; omega)
    | simp only [go_sem]
    | refine brK_dec (fun _ => ?_) (fun _ => ?_)
    | (intro _)
    | refine ⟨by omega, ?_⟩
    | refine PCall.call (on129 p k n hn hl e.name on) ?_
    | refine PCall.call (when130 p k n hn hl e on (by assumption) ih') ?_
    | refine PCall.call (merge131 p k n hn hl e on (by assumption) (by omega) ih') ?_
    | (refine finBq rfl ?_; rw [fitsF_eq]; first | (simp [*]; done) | (have h2 : ¬ e.subs.length = 2 := (by omega); simp [*]; done))
    | (refine finBq rfl rfl)
    | (refine containsEx (p := fun x => !fitsF (rowN p.Enums n) p.Enums x on) (fun x hx K hK => ?_) ?_
       · refine acall_of_vc tabOK Tryz.func252 (by kernel_rfl) rfl (n := 10) rfl (rs := [.tmp 4]) rfl ?_
         simp only [go_sem]
         refine PCall.call (ih' x (by first | exact hx | exact List.mem_of_mem_drop hx) on (by omega)) ?_
         simp only [go_sem]
         exact finH0 _ rfl (.raw _) hK
       simp only [go_sem]
       refine finBq rfl ?_
       rw [fitsF_eq]
       first | (simp [*, fitsL_all, List.all_eq_not_any_not]; done) | (have h2 : e.subs.length = 2 := (by omega); simp [*, fitsL_all, List.all_eq_not_any_not]; done))

theorem nodeAt_nat {p : DProg} {k : Nat} : nodeAt p k = p.Nodes[k]? := by simp [nodeAt]

theorem rowN_len (L : List DEnum) (n : DNode) (nm : ByteArray) : (rowN L n nm).1.length ≤ 13 := by
  unfold rowN rowL
  have := clock_len n nm
  split
  · split
    · simpa using this
    · simp
  · simp
def rowsOk (L : List DEnum) (n : DNode) : Bool := (allV n).all fun d => (rowN L n d.Name).2
noncomputable def eqCk (L : List DEnum) (n : DNode) (q : DEq) : Bool := q.Names.all (fun s => eqB (rowN L n s).1 (rowN L n (q.Names.headD ⟨#[]⟩)).1) && fitsF (rowN L n) L q.E (rowN L n (q.Names.headD ⟨#[]⟩)).1
noncomputable def nodeCk (p : DProg) (a : Nat) (n : DNode) : DFault :=
  if rowsOk p.Enums n = true then firstE (a : Int) 8 (fun _ q => eqCk p.Enums n q) 0 n.Eqs else ⟨(a : Int), -1, 8⟩
noncomputable def clockF (p : DProg) : DFault := if (typesF p).Err = 0 then firstF (nodeCk p) 0 p.Nodes else typesF p
theorem nodeCk_zero {p : DProg} {a : Nat} {n : DNode} (h : (nodeCk p a n).Err = 0) : nodeCk p a n = ⟨0, 0, 0⟩ ∧ rowsOk p.Enums n = true ∧ ∀ q ∈ n.Eqs, eqCk p.Enums n q = true := by
  unfold nodeCk at *
  split at h
  · rename_i h0
    rw [if_pos h0]
    obtain ⟨h1, h2⟩ := firstE_zero (by decide) h
    refine ⟨h1, h0, fun q hq => ?_⟩
    obtain ⟨i, hi, rfl⟩ := List.getElem_of_mem hq
    exact h2 i _ (List.getElem?_eq_getElem hi)
  · cases h
theorem clock_zero {p : DProg} (h : (clockF p).Err = 0) : clockF p = ⟨0, 0, 0⟩ ∧ (typesF p).Err = 0 ∧ ∀ (k : Nat) n, p.Nodes[k]? = some n → (nodeCk p k n).Err = 0 := by
  unfold clockF at *
  split at h
  · rename_i h0
    rw [if_pos h0]
    obtain ⟨h1, h2⟩ := firstF_zero h
    exact ⟨h1, h0, fun k n hk => by have := h2 k n hk; simpa using this⟩
  · rename_i h0; exact absurd h h0
theorem names_is {n : DNode} : ∀ {l D : List ByteArray}, namesErr n D l = 0 → ∀ s ∈ l, isF n s = true
  | [], _, _ => by simp
  | x :: r, D, h => by
    rw [namesErr] at h
    split at h
    · omega
    · rename_i h0
      split at h
      · omega
      · intro s hs
        rcases List.mem_cons.1 hs with rfl | hs
        · simpa using h0
        · exact names_is h s hs
theorem eqs_is {p : DProg} {a : Int} {n : DNode} : ∀ {l : List DEq} {i : Nat} {D : List ByteArray}, (eqsErr p a n i D l).2 = 0 → ∀ q ∈ l, (∀ s ∈ q.Names, isF n s = true) ∧ (parts q.E).all (leadsF p a n) = true
  | [], _, _, _ => by simp
  | q :: r, i, D, h => by
    rw [eqsErr] at h
    split at h
    · rename_i h0
      intro x hx
      rcases List.mem_cons.1 hx with rfl | hx
      · unfold eqErr at h0
        split at h0
        · rename_i h1
          refine ⟨names_is h1, ?_⟩
          split at h0
          · assumption
          · omega
        · rename_i h1; exact absurd h0 h1
      · exact eqs_is h x hx
    · rename_i h0; exact absurd h h0
theorem node_is {p : DProg} {a : Int} {n : DNode} (h : (nodeFault p a n).Err = 0) : ∀ q ∈ n.Eqs, (∀ s ∈ q.Names, isF n s = true) ∧ (parts q.E).all (leadsF p a n) = true := by
  unfold nodeFault at h
  split at h
  · split at h
    · rename_i h2; exact eqs_is h2
    · rename_i h2; exact absurd h h2
  · cases h
theorem is_mem {n : DNode} {s : ByteArray} (h : isF n s = true) : ∃ d ∈ allV n, d.Name = s := by
  unfold isF decl at h
  rw [declF_any, List.any_eq_true] at h
  obtain ⟨d, hd, he⟩ := h
  exact ⟨d, hd, of_decide_eq_true he⟩
theorem row_is {L : List DEnum} {n : DNode} (hr : rowsOk L n = true) {s : ByteArray} (h : isF n s = true) : (rowN L n s).2 = true := by
  obtain ⟨d, hd, rfl⟩ := is_mem h
  exact List.all_eq_true.1 hr d hd
theorem mapN (l : List Nat) : l.map AV.n = (l.map fun n : Nat => (n : Int)).map AV.i := by simp
theorem contains106 {l : List ByteArray} {p : ByteArray → Bool} {g : Nat} {first capt : List AV} {h : List Blk} {K : AV → List Blk → Prop} (hp : ∀ x ∈ l, ∀ K : AV → List Blk → Prop, K (.b (p x)) h → ACall Tryz.prog g (first ++ AV.s x :: capt) h K)
    (hK : K (.b (l.any p)) h) : ACall Tryz.prog 113 [.lst 1 (l.map AV.s) none, .fn (.func g) first capt] h K := by
  refine acall_of_vc tabOK Tryz.func113 (by kernel_rfl) rfl (n := 9) rfl (rs := [.tmp 4]) rfl ?_
  simp only [go_sem]
  refine indexStr hp ?_
  simp only [go_sem]
  rw [idx_any]
  exact finH1 rfl (.raw _) hK

abbrev orderA (p : List Nat × Bool) : AV := .tup [.lst 1 (p.1.map AV.n) none, .b p.2]
theorem pure_orderA (p : List Nat × Bool) : Go.Abs.Pure (orderA p) := by
  refine .tup _ (pure_cons (.lst _ _ fun c hc => ?_) (pure_cons (.raw _) pure_nil))
  have : flat (p.1.map AV.n) = p.1.map AV.n := by
    generalize p.1 = l
    induction l with
    | nil => rfl
    | cons x l ih => simp only [List.map_cons]; rw [show flat (AV.n x :: l.map AV.n) = AV.n x :: flat (l.map AV.n) from rfl, ih]
  rw [this] at hc
  obtain ⟨n, _, rfl⟩ := List.mem_map.1 hc
  exact .raw _
theorem Weak.tups2 {cs ds : List AV} (h : WeakL cs ds) : Weak (.tup cs) (.tup ds) := .tup cs ds h.at.1 h.at.2
theorem weak_order (out : List Nat) (b : Bool) (k : Option Nat) : Weak (.tup [.lst 1 (out.map AV.n) k, .b b]) (orderA (out, b)) := Weak.tups2 ⟨by cases k <;> first | exact .refl _ | exact .tok _ _ _, .refl _, trivial⟩
theorem flat_le {α : Type} {c : Nat} : ∀ {N : List (List α)}, (∀ l ∈ N, l.length ≤ c) → N.flatten.length ≤ N.length * c
  | [], _ => by simp
  | n :: N, h => by
    have h1 := flat_le (N := N) fun l hl => h l (List.mem_cons_of_mem _ hl)
    have h2 := h n List.mem_cons_self
    rw [List.flatten_cons, List.length_append, List.length_cons, Nat.succ_mul]
    omega
def mineK (k : Int) (m : ByteArray) : List ByteArray := if k = 3 ∨ k = 11 ∨ k = 12 then [m] else []
def keepK (k : Int) (s : List Ex) : List Ex := if k = 10 then [] else if k = 8 then s.take 1 else s
mutual
def readsF : Ex → List ByteArray
  | .mk k _ m _ _ s => mineK k m ++ (if k = 10 then [] else if k = 8 then readsH s else readsL s)
def readsH : List Ex → List ByteArray
  | [] => []
  | x :: _ => readsF x
def readsL : List Ex → List ByteArray
  | [] => []
  | x :: xs => readsF x ++ readsL xs
end
theorem readsF_eq (e : Ex) : readsF e = mineK e.kind e.name ++ readsL (keepK e.kind e.subs) := by
  cases e with
  | mk k n m o a s =>
    simp only [readsF, Ex.kind, Ex.name, Ex.subs, keepK]
    by_cases h1 : k = 10
    · simp [h1, readsL]
    · by_cases h2 : k = 8
      · cases s <;> simp [h2, readsH, readsL]
      · simp [h1, h2]
theorem readsL_append (l m : List Ex) : readsL (l ++ m) = readsL l ++ readsL m := by
  induction l with
  | nil => simp [readsL]
  | cons x l ih => simp [readsL, ih]
theorem readsL_take {l : List Ex} {k : Nat} (h : k < l.length) : readsL (l.take (k + 1)) = readsL (l.take k) ++ readsF l[k] := by
  rw [List.take_succ_eq_append_getElem h, readsL_append]
  simp [readsL]
theorem readsL_le {l : List Ex} {k : Nat} : (readsL (l.take k)).length ≤ (readsL l).length := by
  have : readsL l = readsL (l.take k) ++ readsL (l.drop k) := by rw [← readsL_append, List.take_append_drop]
  rw [this]; simp
theorem reads_le {l : List Ex} {k : Nat} (h : k < l.length) : (readsF l[k]).length ≤ (readsL l).length := by
  have h1 := readsL_take h
  have h2 := readsL_le (l := l) (k := k + 1)
  rw [h1] at h2
  simp at h2
  omega
abbrev exB (e : Ex) : Blk := .cells 72 [.i e.kind, .i e.n, .s e.name, .i e.op, .lst 1 (e.arms.map AV.s) none, .lst 6 (e.subs.map Ex.enc) none]

theorem reads42 : ∀ (e : Ex), (readsF e).length ≤ 100000 → PCall Tryz.prog 203 [e.enc] (.lst 1 ((readsF e).map AV.s) none) := by
  intro e
  induction e using Ex.ind with
  | _ e ih =>
  intro hl
  refine pcall_of_vc tabOK Tryz.func203 (by kernel_rfl) rfl pureL pureI (n := 41) rfl (rs := [.tmp 2]) rfl ?_
  rw [readsF_eq] at hl ⊢
  repeat' first | simp only [go_sem] | (intro _) | refine ⟨by omega, ?_⟩ | refine brK_dec (fun _ => ?_) (fun _ => ?_) | refine gqK_dec (fun _ => ?_) (fun _ => ?_) | refine gK_dec (fun _ => ?_) (fun _ => ?_)
  iterate 3
    · have hk : keepK e.kind e.subs = e.subs := by simp [keepK, *]
      have hm : mineK e.kind e.name = [e.name] := by simp [mineK, *]
      rw [hk, hm] at hl ⊢
      refine loop_fr [3, 6, 31, 32, 33, 34, 35, 36, 37, 38, 39] (fun m C h => ∃ (i : Nat) (b : Blk) (r : List Blk), i ≤ e.subs.length ∧ m = e.subs.length - i ∧
        C = [(31, .raw (.int .i64 (i : Nat))), (3, .lst 1 (([e.name] ++ readsL (e.subs.take i)).map AV.s) (some 2))] ∧
        h = .cells 72 [.i e.kind, .i e.n, .s e.name, .i e.op, .lst 1 (e.arms.map AV.s) none, .lst 6 (e.subs.map Ex.enc) none] :: b :: .tok 9 1 ([e.name] ++ readsL (e.subs.take i)).length :: r)
        (e.subs.length) _ ⟨0, _, _, by omega, rfl, rfl, by simp [readsL]; exact ⟨rfl, rfl⟩⟩ (.cons rfl (.cons (by simp [readsL]) .nil)) ?_
      rintro m C j h ⟨i, b, r, hi, rfl, rfl, rfl⟩
      simp only [go_sem]
      refine brK_dec (fun hlt => ?_) (fun hge => ?_)
      · have hlt' : i < e.subs.length := by omega
        have h1 := reads_le hlt'
        have h2 := readsL_le (l := e.subs) (k := i + 1)
        have h3 := readsL_take hlt'
        have hl' := hl
        rw [h3] at h2
        simp only [List.length_append, List.length_cons, List.length_nil] at hl' h1 h2
        simp only [go_sem]
        refine elemK (e.subs[i]).enc (by omega) (map_at _ (List.getElem?_eq_getElem hlt')) ?_
        simp only [go_sem]
        refine PCall.call (ih e.subs[i] (List.getElem_mem _) (by omega)) ?_
        simp only [go_sem]
        refine ⟨by omega, ?_⟩
        refine loopFr (e.subs.length - (i + 1)) (by omega) ⟨i + 1, b, r ++ [exB e.subs[i]], by omega, rfl, rfl, ?_⟩ (.next rfl (by omega) (.cons ?_ .nil)) rfl
        · rw [h3]; simp [slot]; try rfl
        · rw [h3]; simp [slot]
      · rw [List.take_of_length_le (by omega)]
        simp only [go_sem]
        exact ⟨_, rfl, false, .tok _ _ _⟩
  · have hk : keepK e.kind e.subs = [] := by simp [keepK, *]
    have hm : mineK e.kind e.name = [] := by simp [mineK, *]
    rw [hk, hm, readsL]
    refine loop_frH [3, 6, 31, 32, 33, 34, 35, 36, 37, 38, 39] (fun m C => C = [(31, .raw (.int .i64 0)), (3, .raw (.slice none 0 0))]) 0 _ rfl (.cons rfl (.cons rfl .nil)) ?_
    rintro m C j rfl
    simp only [go_sem]
    exact ⟨_, rfl, false, .nil _⟩
  · have hmem : ∀ x, x ∈ List.take (if (e.subs.length : Int) < 1 then (e.subs.length : Int) else 1).toNat e.subs → x ∈ e.subs := fun x hx => List.mem_of_mem_take hx
    have hk : keepK e.kind e.subs = List.take (if (e.subs.length : Int) < 1 then (e.subs.length : Int) else 1).toNat e.subs := by
      by_cases h : (e.subs.length : Int) < 1
      · have : e.subs = [] := List.length_eq_zero_iff.1 (by omega)
        simp [keepK, *]
      · simp [keepK, h, *]
    generalize List.take (if (e.subs.length : Int) < 1 then (e.subs.length : Int) else 1).toNat e.subs = S at *
    have hm : mineK e.kind e.name = [] := by simp [mineK, *]
    rw [hk, hm, List.nil_append] at hl ⊢
    refine loop_ghost (ghost_own 3 9 1 rfl) ?_
    simp only [go_sem]
    refine loop_fr [3, 6, 31, 32, 33, 34, 35, 36, 37, 38, 39] (fun m C h => ∃ (i : Nat) (r : List Blk), i ≤ S.length ∧ m = S.length - i ∧
      C = [(31, .raw (.int .i64 (i : Nat))), (3, .own 1 1 ((readsL (S.take i)).map AV.s).length)] ∧ h = exB e :: .own 9 1 ((readsL (S.take i)).map AV.s) :: r)
      S.length _ ⟨0, [], by omega, rfl, rfl, rfl⟩ (.cons rfl (.cons rfl .nil)) ?_
    rintro m C j h ⟨i, r, hi, rfl, rfl, rfl⟩
    simp only [go_sem]
    refine brK_dec (fun hlt => ?_) (fun hge => ?_)
    · have hlt' : i < S.length := by omega
      have h1 := reads_le hlt'
      have h2 := readsL_le (l := S) (k := i + 1)
      have h3 := readsL_take hlt'
      rw [h3] at h2
      simp only [List.length_append] at h1 h2
      simp only [go_sem]
      refine elemK (S[i]).enc (by omega) (map_at _ (List.getElem?_eq_getElem hlt')) ?_
      simp only [go_sem]
      refine PCall.call (ih S[i] (hmem _ (List.getElem_mem _)) (by omega)) ?_
      simp only [go_sem]
      refine ⟨by first | omega | (simp; omega), ?_⟩
      refine loopFr (S.length - (i + 1)) (by omega) ⟨i + 1, r ++ [exB S[i]], by omega, rfl, rfl, ?_⟩ (.next rfl (by omega) (.cons ?_ .nil)) rfl
      · rw [h3]; simp; try rfl
      · rw [h3]; simp [slot]; try omega
    · rw [List.take_of_length_le (by omega)]
      simp only [go_sem]
      refine ⟨_, rfl, true, ?_⟩
      have hz : ∀ R : List Blk, frz (exB e :: .own 9 1 ((readsL S).map AV.s) :: R) (.own 1 1 (readsL S).length) = .lst 1 ((readsL S).map AV.s) none := by
        intro R
        simp [frz]
      show Weak (frz (exB e :: .own 9 1 ((readsL S).map AV.s) :: r) (.own 1 1 (readsL S).length)) _
      rw [hz]
      exact .refl _
  · have hmem : ∀ x, x ∈ e.subs → x ∈ e.subs := fun x hx => hx
    have hk : keepK e.kind e.subs = e.subs := by simp [keepK, *]
    have hm : mineK e.kind e.name = [] := by simp [mineK, *]
    rw [hk, hm, List.nil_append] at hl ⊢
    refine loop_ghost (ghost_own 3 9 1 rfl) ?_
    simp only [go_sem]
    refine loop_fr [3, 6, 31, 32, 33, 34, 35, 36, 37, 38, 39] (fun m C h => ∃ (i : Nat) (r : List Blk), i ≤ e.subs.length ∧ m = e.subs.length - i ∧
      C = [(31, .raw (.int .i64 (i : Nat))), (3, .own 1 1 ((readsL (e.subs.take i)).map AV.s).length)] ∧ h = exB e :: .own 9 1 ((readsL (e.subs.take i)).map AV.s) :: r)
      e.subs.length _ ⟨0, [], by omega, rfl, rfl, rfl⟩ (.cons rfl (.cons rfl .nil)) ?_
    rintro m C j h ⟨i, r, hi, rfl, rfl, rfl⟩
    simp only [go_sem]
    refine brK_dec (fun hlt => ?_) (fun hge => ?_)
    · have hlt' : i < e.subs.length := by omega
      have h1 := reads_le hlt'
      have h2 := readsL_le (l := e.subs) (k := i + 1)
      have h3 := readsL_take hlt'
      rw [h3] at h2
      simp only [List.length_append] at h1 h2
      simp only [go_sem]
      refine elemK (e.subs[i]).enc (by omega) (map_at _ (List.getElem?_eq_getElem hlt')) ?_
      simp only [go_sem]
      refine PCall.call (ih e.subs[i] (hmem _ (List.getElem_mem _)) (by omega)) ?_
      simp only [go_sem]
      refine ⟨by first | omega | (simp; omega), ?_⟩
      refine loopFr (e.subs.length - (i + 1)) (by omega) ⟨i + 1, r ++ [exB e.subs[i]], by omega, rfl, rfl, ?_⟩ (.next rfl (by omega) (.cons ?_ .nil)) rfl
      · rw [h3]; simp; try rfl
      · rw [h3]; simp [slot]; try omega
    · rw [List.take_of_length_le (by omega)]
      simp only [go_sem]
      refine ⟨_, rfl, true, ?_⟩
      have hz : ∀ R : List Blk, frz (exB e :: .own 9 1 ((readsL e.subs).map AV.s) :: R) (.own 1 1 (readsL e.subs).length) = .lst 1 ((readsL e.subs).map AV.s) none := by
        intro R
        simp [frz]
      show Weak (frz (exB e :: .own 9 1 ((readsL e.subs).map AV.s) :: r) (.own 1 1 (readsL e.subs).length)) _
      rw [hz]
      exact .refl _
theorem pure_flat_strs (l : List ByteArray) : ∀ c ∈ flat (l.map AV.s), Go.Abs.Pure c := by
  have := pure_strs l
  cases this with
  | lst _ _ h => exact h

theorem reads42T (e : Ex) (hl : (readsF e).length ≤ 100000) {h : List Blk} {K : AV → List Blk → Prop} (hK : K (.lst 1 ((readsF e).map AV.s) (some h.length)) (h ++ [.tok 9 1 (readsF e).length])) : ACall Tryz.prog 203 [e.enc] h K := by
  refine tcall (e := 9) (sz := 1) (l := (readsF e).map AV.s) (fun KK hk0 => acallT_of_vc tabOK Tryz.func203 (by kernel_rfl) rfl (n := 41) rfl (rs := [.tmp 2]) rfl (e := 9) (sz := 1) (l := (readsF e).map AV.s) ?_) (pure_cons (pure_enc e) pure_nil) (pure_flat_strs _) (by simpa using hK)
  have hpl := pure_flat_strs (readsF e)
  clear hK
  rw [readsF_eq] at hl hpl hk0 ⊢
  repeat' first | simp only [go_sem] | (intro _) | refine ⟨by omega, ?_⟩ | refine brK_dec (fun _ => ?_) (fun _ => ?_) | refine gqK_dec (fun _ => ?_) (fun _ => ?_) | refine gK_dec (fun _ => ?_) (fun _ => ?_)
  iterate 3
    · have hk : keepK e.kind e.subs = e.subs := by simp [keepK, *]
      have hm : mineK e.kind e.name = [e.name] := by simp [mineK, *]
      rw [hk, hm] at hl hpl hk0 ⊢
      refine loop_fr [3, 6, 31, 32, 33, 34, 35, 36, 37, 38, 39] (fun m C h => ∃ (i : Nat) (b : Blk) (r : List Blk), i ≤ e.subs.length ∧ m = e.subs.length - i ∧
        C = [(31, .raw (.int .i64 (i : Nat))), (3, .lst 1 (([e.name] ++ readsL (e.subs.take i)).map AV.s) (some 2))] ∧
        h = exB e :: b :: .tok 9 1 ([e.name] ++ readsL (e.subs.take i)).length :: r)
        (e.subs.length) _ ⟨0, _, _, by omega, rfl, rfl, by simp [readsL]; exact ⟨rfl, rfl⟩⟩ (.cons rfl (.cons (by simp [readsL]) .nil)) ?_
      rintro m C j h ⟨i, b, r, hi, rfl, rfl, rfl⟩
      simp only [go_sem]
      refine brK_dec (fun hlt => ?_) (fun hge => ?_)
      · have hlt' : i < e.subs.length := by omega
        have h1 := reads_le hlt'
        have h2 := readsL_le (l := e.subs) (k := i + 1)
        have h3 := readsL_take hlt'
        have hl' := hl
        rw [h3] at h2
        simp only [List.length_append, List.length_cons, List.length_nil] at hl' h1 h2
        simp only [go_sem]
        refine elemK (e.subs[i]).enc (by omega) (map_at _ (List.getElem?_eq_getElem hlt')) ?_
        simp only [go_sem]
        refine PCall.call (reads42 e.subs[i] (by omega)) ?_
        simp only [go_sem]
        refine ⟨by omega, ?_⟩
        refine loopFr (e.subs.length - (i + 1)) (by omega) ⟨i + 1, b, r ++ [exB e.subs[i]], by omega, rfl, rfl, ?_⟩ (.next rfl (by omega) (.cons ?_ .nil)) rfl
        · rw [h3]; simp [slot]; try rfl
        · rw [h3]; simp [slot]
      · rw [List.take_of_length_le (by omega)]
        simp only [go_sem]
        exact finTk (k := 2) hk0 rfl rfl rfl (by simp) hpl
  · have hk : keepK e.kind e.subs = [] := by simp [keepK, *]
    have hm : mineK e.kind e.name = [] := by simp [mineK, *]
    rw [hk, hm, readsL] at hl hpl hk0 ⊢
    refine loop_ghost (ghost_tok 3 9 1 rfl) ?_
    simp only [go_sem]
    refine loop_frH [3, 6, 31, 32, 33, 34, 35, 36, 37, 38, 39] (fun m C => C = [(31, .raw (.int .i64 0)), (3, .lst 1 [] (some 1))]) 0 _ rfl (.cons rfl (.cons rfl .nil)) ?_
    rintro m C j rfl
    simp only [go_sem]
    exact finTk (k := 1) hk0 rfl rfl rfl (by simp) hpl
  · have hk : keepK e.kind e.subs = List.take (if (e.subs.length : Int) < 1 then (e.subs.length : Int) else 1).toNat e.subs := by
      by_cases h : (e.subs.length : Int) < 1
      · have : e.subs = [] := List.length_eq_zero_iff.1 (by omega)
        simp [keepK, *]
      · simp [keepK, h, *]
    generalize List.take (if (e.subs.length : Int) < 1 then (e.subs.length : Int) else 1).toNat e.subs = S at *
    have hm : mineK e.kind e.name = [] := by simp [mineK, *]
    rw [hk, hm, List.nil_append] at hl hpl hk0 ⊢
    refine loop_ghost (ghost_tok 3 9 1 rfl) ?_
    simp only [go_sem]
    refine loop_fr [3, 6, 31, 32, 33, 34, 35, 36, 37, 38, 39] (fun m C h => ∃ (i : Nat) (r : List Blk), i ≤ S.length ∧ m = S.length - i ∧
      C = [(31, .raw (.int .i64 (i : Nat))), (3, .lst 1 ((readsL (S.take i)).map AV.s) (some 1))] ∧ h = exB e :: .tok 9 1 (readsL (S.take i)).length :: r)
      S.length _ ⟨0, [], by omega, rfl, rfl, rfl⟩ (.cons rfl (.cons rfl .nil)) ?_
    rintro m C j h ⟨i, r, hi, rfl, rfl, rfl⟩
    simp only [go_sem]
    refine brK_dec (fun hlt => ?_) (fun hge => ?_)
    · have hlt' : i < S.length := by omega
      have h1 := reads_le hlt'
      have h2 := readsL_le (l := S) (k := i + 1)
      have h3 := readsL_take hlt'
      rw [h3] at h2
      simp only [List.length_append] at h1 h2
      simp only [go_sem]
      refine elemK (S[i]).enc (by omega) (map_at _ (List.getElem?_eq_getElem hlt')) ?_
      simp only [go_sem]
      refine PCall.call (reads42 S[i] (by omega)) ?_
      simp only [go_sem]
      refine ⟨by first | omega | (simp; omega), ?_⟩
      refine loopFr (S.length - (i + 1)) (by omega) ⟨i + 1, r ++ [exB S[i]], by omega, rfl, rfl, ?_⟩ (.next rfl (by omega) (.cons ?_ .nil)) rfl
      · rw [h3]; simp; try rfl
      · rw [h3]; simp [slot]; try omega
    · rw [List.take_of_length_le (by omega)]
      simp only [go_sem]
      exact finTk (k := 1) hk0 rfl rfl rfl (by simp) hpl
  · have hk : keepK e.kind e.subs = e.subs := by simp [keepK, *]
    have hm : mineK e.kind e.name = [] := by simp [mineK, *]
    rw [hk, hm, List.nil_append] at hl hpl hk0 ⊢
    refine loop_ghost (ghost_tok 3 9 1 rfl) ?_
    simp only [go_sem]
    refine loop_fr [3, 6, 31, 32, 33, 34, 35, 36, 37, 38, 39] (fun m C h => ∃ (i : Nat) (r : List Blk), i ≤ e.subs.length ∧ m = e.subs.length - i ∧
      C = [(31, .raw (.int .i64 (i : Nat))), (3, .lst 1 ((readsL (e.subs.take i)).map AV.s) (some 1))] ∧ h = exB e :: .tok 9 1 (readsL (e.subs.take i)).length :: r)
      e.subs.length _ ⟨0, [], by omega, rfl, rfl, rfl⟩ (.cons rfl (.cons rfl .nil)) ?_
    rintro m C j h ⟨i, r, hi, rfl, rfl, rfl⟩
    simp only [go_sem]
    refine brK_dec (fun hlt => ?_) (fun hge => ?_)
    · have hlt' : i < e.subs.length := by omega
      have h1 := reads_le hlt'
      have h2 := readsL_le (l := e.subs) (k := i + 1)
      have h3 := readsL_take hlt'
      rw [h3] at h2
      simp only [List.length_append] at h1 h2
      simp only [go_sem]
      refine elemK (e.subs[i]).enc (by omega) (map_at _ (List.getElem?_eq_getElem hlt')) ?_
      simp only [go_sem]
      refine PCall.call (reads42 e.subs[i] (by omega)) ?_
      simp only [go_sem]
      refine ⟨by first | omega | (simp; omega), ?_⟩
      refine loopFr (e.subs.length - (i + 1)) (by omega) ⟨i + 1, r ++ [exB e.subs[i]], by omega, rfl, rfl, ?_⟩ (.next rfl (by omega) (.cons ?_ .nil)) rfl
      · rw [h3]; simp; try rfl
      · rw [h3]; simp [slot]; try omega
    · rw [List.take_of_length_le (by omega)]
      simp only [go_sem]
      exact finTk (k := 1) hk0 rfl rfl rfl (by simp) hpl
end Go.Proofs.YtpamokpmlplopaaGreatDoor

namespace Go.Proofs.YtpamokpmlplopaaGreatDoor
open Go.Abs
set_option maxRecDepth 20000
set_option linter.unusedSimpArgs false
set_option linter.unusedVariables false
set_option maxHeartbeats 1000000
attribute [local irreducible] vc vcOps vcStep vcGuard prK hrK gK gsK brK callK ElemK SeqK BlockK ScopeK OpsK CallK LoopK LoopGo finPost ACall PCall PCallE BCall vqOps vqStep vqGuard qrK heK pcK gqK gqsK QOpsK qcallK DrawK
def hangsF (n : DNode) (q : DEq) : List ByteArray := readsF q.E ++ (match q.Names with | [] => [] | s :: _ => (clock n s).1.map DDecl.On)
def okH (n : DNode) (q : DEq) : Prop := (readsF q.E).length ≤ 100000 ∧ (allV n).length ≤ 4294967296
theorem on_take {l : List DDecl} {A acc : List ByteArray} {i : Nat} {x : DDecl} (h : acc = A ++ (l.take i).map DDecl.On ∧ acc.length ≤ A.length + i) (hx : l[((i : Nat) : Int).toNat]? = some x) : acc ++ [x.On] = A ++ (l.take (i + 1)).map DDecl.On ∧ (acc ++ [x.On]).length ≤ A.length + (i + 1) := by
  refine ⟨?_, by have := h.2; simp; omega⟩
  rw [take_mapS hx, ← List.append_assoc, ← h.1]
theorem on_done {l : List DDecl} {A acc : List ByteArray} {i : Nat} (h : acc = A ++ (l.take i).map DDecl.On ∧ acc.length ≤ A.length + i) (hi : ¬ (i : Int) < l.length) : A ++ l.map DDecl.On = acc := by
  rw [h.1, List.take_of_length_le (by omega)]

theorem hangs123 (n : DNode) (q : DEq) (hl : okH n q) : PCall Tryz.prog 159 [n.enc, q.enc] (.lst 1 ((hangsF n q).map AV.s) none) := by
  refine pcall_of_vc tabOK Tryz.func159 (by kernel_rfl) rfl pureL pureI (n := 40) rfl (rs := [.tmp 4]) rfl ?_
  obtain ⟨Ns, E⟩ := q
  obtain ⟨hl, hn⟩ := hl
  rcases Ns with _ | ⟨s, ss⟩
  · repeat' first
    | exact finB rfl
    | exact finI rfl
    | exact finP rfl
    | exact absurd rfl (by assumption)
    | simp only [go_sem]
    | (intro _)
    | refine brK_dec (fun _ => ?_) (fun _ => ?_)
    | refine brK_any ?_ ?_
    | refine gK_dec (fun _ => ?_) (fun _ => ?_)
    | refine gK_any ?_ ?_
    | refine gqK_dec (fun _ => ?_) (fun _ => ?_)
    | refine ⟨by omega, ?_⟩
    | refine elemHave (by omega) (by assumption) ?_
    | refine elemMap (by omega) (by omega) (fun x hx => ?_)
    | refine drawK mo (by kernel_rfl) ?_
    | (refine reads42T E hl ?_)
    | (simp only [hangsF, List.append_nil]; exact ⟨_, rfl, false, .tok _ _ _⟩)
    | (exact absurd rfl (by assumption))
  · have hcl := clock_len n s
    have h21 := clock21 n s hn
    unfold hangsF
    dsimp only
    generalize clock n s = c at hcl h21 ⊢
    obtain ⟨l, ok⟩ := c
    dsimp only at hcl hl ⊢
    repeat' first
    | exact finB rfl
    | exact finI rfl
    | exact finP rfl
    | exact absurd rfl (by assumption)
    | simp only [go_sem]
    | (intro _)
    | refine brK_dec (fun _ => ?_) (fun _ => ?_)
    | refine brK_any ?_ ?_
    | refine gK_dec (fun _ => ?_) (fun _ => ?_)
    | refine gK_any ?_ ?_
    | refine gqK_dec (fun _ => ?_) (fun _ => ?_)
    | refine ⟨by omega, ?_⟩
    | refine elemHave (by omega) (by assumption) ?_
    | refine elemMap (by omega) (by omega) (fun x hx => ?_)
    | refine drawK mo (by kernel_rfl) ?_
    | (refine reads42T E hl ?_)
    | (exfalso; omega)
    | (refine elemK (AV.s s) (by omega) rfl ?_)
    | (refine pcK_of h21 ?_)
    | (simp only [map_snoc])
    | (refine ⟨by have := hpi.2; simp; omega, ?_⟩)
    | (rw [on_done hpi (by assumption)]; exact ⟨_, rfl, false, .tok _ _ _⟩)
    | exact loopFr _ (by omega) ⟨i + 1, acc ++ [x.On], b0, b1, _, by omega, rfl, on_take hpi (by assumption), rfl, (by first | rfl | (simp; done) | (simp; rfl))⟩ (.next rfl (by omega) (.cons (by first | rfl | (simp; done) | (simp; rfl)) .nil)) rfl
    | (refine loop_fr [5, 9, 29, 30, 31, 32, 33, 34, 35, 36, 37, 38] (fun mm_ CC_ hh_ => ∃ (i : Nat) (acc : List ByteArray) (b0 : Blk) (b1 : Blk) (r_ : List Blk), i ≤ l.length ∧ mm_ = l.length - i ∧ ((acc = readsF E ++ (l.take i).map DDecl.On ∧ acc.length ≤ (readsF E).length + i)) ∧ CC_ = [(29, .raw (.int .i64 ((i : Nat) : Int))), (5, .lst 1 (acc.map AV.s) (some 2))] ∧ hh_ = b0 :: b1 :: .tok 9 1 acc.length :: r_) (l.length) _ ⟨0, readsF E, _, _, _, by omega, by omega, ⟨by simp, by simp⟩, rfl, (by first | rfl | (simp; done) | (simp; rfl))⟩ (.cons (by first | rfl | (simp; done) | (simp; rfl)) (.cons (by first | rfl | (simp; done) | (simp; rfl)) .nil)) ?_; rintro mm_ CC_ ji hh_ ⟨i, acc, b0, b1, ri, hi, rfl, hpi, rfl, rfl⟩)


end Go.Proofs.YtpamokpmlplopaaGreatDoor

/-
  Orders found from the end; maps of what equations hang on.
-/
namespace Go.Abs
open Go
/-- The first one that is ready, found from the end: all from a + 1 on are looked at, b is the first of them that is ready, or -1. -/
def okDn (N H : List (List ByteArray)) (pl : List Bool) (a b : Int) : Prop :=
  (b = -1 ∧ ∀ j : Nat, a < j → j < N.length → readyF N H pl j = false) ∨ ∃ k : Nat, k < N.length ∧ a < k ∧ b = k ∧ readyF N H pl k = true ∧ ∀ j : Nat, a < j → j < k → readyF N H pl j = false
section
variable {N H : List (List ByteArray)} {pl : List Bool} {a b : Int}
theorem okDn.zero : okDn N H pl ((N.length : Int) - 1) (-1) := .inl ⟨rfl, fun j h1 h2 => by omega⟩
theorem okDn.none_ (h : okDn N H pl a b) (ha : ¬ a ≥ 0) (hb : b < 0) : pickF N H pl 0 N.length = none := by
  rcases h with ⟨_, h⟩ | ⟨k, _, _, h, _⟩
  · exact pick_none fun j _ hj => h j (by omega) (by omega)
  · omega
end
/-- What a map of equations says: each that is not placed, and what it hangs on. -/
def EqM (f : Value → Option AV) (H : List (List ByteArray)) (pl : List Bool) : Prop := ∀ i : Nat, f (.int .i64 (i : Int)) = (match pl[i]?, H[i]? with | some false, some hs => some (.lst 1 (hs.map AV.s) none) | _, _ => none)
theorem keyEq_int (a b : Int) : keyEq (.int .i64 a) (.int .i64 b) = decide (a = b) := by
  by_cases h : a = b
  · subst h; simp [keyEq]
  · simp [keyEq, h]
theorem EqM.nil {H : List (List ByteArray)} : EqM (fun _ => none) H [] := fun i => by simp
theorem EqM.put {f : Value → Option AV} {H : List (List ByteArray)} {i : Nat} {hs : List ByteArray} (h : EqM f H (List.replicate i false)) (hh : H[i]? = some hs) : EqM (mput f (.int .i64 (i : Int)) (.lst 1 (hs.map AV.s) none)) H (List.replicate (i + 1) false) := by
  intro j
  unfold mput
  rw [keyEq_int]
  by_cases e : j = i
  · subst e
    have : (List.replicate (j + 1) false)[j]? = some false := by rw [List.getElem?_replicate, if_pos (by omega)]
    rw [this, hh]
    simp
  · have e1 : decide ((j : Int) = (i : Int)) = false := by rw [decide_eq_false_iff_not]; omega
    rw [e1]
    have e2 : (List.replicate (i + 1) false)[j]? = (List.replicate i false)[j]? := by
      rw [List.getElem?_replicate, List.getElem?_replicate]
      by_cases q : j < i
      · rw [if_pos q, if_pos (by omega)]
      · rw [if_neg q, if_neg (by omega)]
    rw [e2]
    exact h j
theorem EqM.more {f : Value → Option AV} {H : List (List ByteArray)} {i : Nat} (h : EqM f H (List.replicate i false)) (n : Nat) : more (f (.int .i64 (i : Int))) n = n + 1 := by
  have := h i
  rw [show (List.replicate i false)[i]? = none by rw [List.getElem?_replicate, if_neg (by omega)]] at this
  rw [this]
  rfl
theorem EqM.cut {f : Value → Option AV} {H : List (List ByteArray)} {pl : List Bool} {i : Nat} (h : EqM f H pl) : EqM (mcut f (.int .i64 (i : Int))) H (pl.set i true) := by
  intro j
  unfold mcut
  rw [keyEq_int]
  by_cases e : j = i
  · subst e
    have e2 : (pl.set j true)[j]? = some true ∨ (pl.set j true)[j]? = none := by
      rw [List.getElem?_set]
      simp only [if_true]
      by_cases q : j < pl.length
      · left; rw [if_pos q]
      · right; rw [if_neg q]
    rcases e2 with e2 | e2 <;> rw [e2] <;> simp
  · have e1 : decide ((j : Int) = (i : Int)) = false := by rw [decide_eq_false_iff_not]; omega
    rw [e1, List.getElem?_set, if_neg (fun q => e q.symm)]
    exact h j
theorem EqM.at {f : Value → Option AV} {H : List (List ByteArray)} {pl : List Bool} {i : Nat} {hs : List ByteArray} (h : EqM f H pl) (hp : pl[i]? = some false) (hh : H[i]? = some hs) : f (.int .i64 (i : Int)) = some (.lst 1 (hs.map AV.s) none) := by
  rw [h i, hp, hh]
theorem EqM.no {f : Value → Option AV} {H : List (List ByteArray)} {pl : List Bool} {i : Nat} (h : EqM f H pl) (hp : pl[i]? = some true) : f (.int .i64 (i : Int)) = none := by
  rw [h i, hp]
theorem EqM.less {f : Value → Option AV} {H : List (List ByteArray)} {pl : List Bool} {i : Nat} {hs : List ByteArray} (h : EqM f H pl) (hp : pl[i]? = some false) (hh : H[i]? = some hs) (n : Nat) : less (f (.int .i64 (i : Int))) n = n - 1 := by
  rw [h.at hp hh]; rfl
end Go.Abs

namespace Go.Proofs.YtpamokpmlplopaaGreatDoor
open Go.Abs
set_option maxRecDepth 20000
set_option linter.unusedSimpArgs false
set_option linter.unusedVariables false
set_option maxHeartbeats 1000000
attribute [local irreducible] vc vcOps vcStep vcGuard prK hrK gK gsK brK callK ElemK SeqK BlockK ScopeK OpsK CallK LoopK LoopGo finPost ACall PCall PCallE BCall vqOps vqStep vqGuard qrK heK pcK gqK gqsK QOpsK qcallK DrawK
abbrev namesC (f : DNode) : List (List ByteArray) := f.Eqs.map DEq.Names
abbrev hangsC (f : DNode) : List (List ByteArray) := f.Eqs.map (hangsF f)
theorem len_namesC (f : DNode) : (namesC f).length = f.Eqs.length := List.length_map ..
def okC (f : DNode) : Prop := f.Eqs.length ≤ 60 ∧ ∀ q ∈ f.Eqs, q.Names.length ≤ 20 ∧ okH f q
theorem okC.hang {f : DNode} {q : DEq} {i : Nat} (h : okC f) (hq : f.Eqs[i]? = some q) : okH f q := (h.2 q (List.mem_of_getElem? hq)).2
theorem okC.names {f : DNode} (h : okC f) : (namesC f).flatten.length ≤ 1200 := by
  have h1 := flat_le (N := namesC f) (c := 20) fun l hl => by
    obtain ⟨q, hq, rfl⟩ := List.mem_map.1 hl
    exact (h.2 q hq).1
  have := h.1
  rw [len_namesC] at h1
  omega


abbrev nodeB2 (f : DNode) : Blk := .cells 68 [.s f.Name, .lst 6 (f.Ins.map DDecl.enc) none, .lst 6 (f.Outs.map DDecl.enc) none, .lst 6 (f.Vars.map DDecl.enc) none, .lst 7 (f.Eqs.map DEq.enc) none]

abbrev leftB : Blk := .cells 173 [.map 3, .map 4]
abbrev zeroL : Blk := .cells 173 [.raw (.map none), .raw (.map none)]
theorem mono_maps {b0 b1 b2 : Blk} {kk kk' : KK} {n n' : Nat} {m m' : Value → Option AV} {l : List Blk} : MonoH (b0 :: b1 :: b2 :: .mp kk n m :: l) (b0 :: b1 :: b2 :: .mp kk' n' m' :: l) := ⟨by cases b0 <;> trivial, by cases b1 <;> trivial, by cases b2 <;> trivial, trivial, MonoH.refl l⟩

theorem all85 (f : DNode) (hf : okC f) (b0 : Blk) {K : AV → List Blk → Prop} (hK : ∀ n m1 m2 b2 r, EqM m1 (hangsC f) (List.replicate f.Eqs.length false) → MapN m2 (fun s => opn s (namesC f) (List.replicate f.Eqs.length false)) → K (.agg [.map 3, .map 4]) (b0 :: nodeB2 f :: b2 :: .mp .int f.Eqs.length m1 :: .mp .str n m2 :: r)) :
    ACall Tryz.prog 122 [f.enc] [b0] K := by
  have hn := hf.1
  have hN := len_namesC f
  have hfl := hf.names
  refine acallK_of_vc tabOK Tryz.func122 (by kernel_rfl) rfl (n := 40) rfl (rs := [.cell 2 173]) rfl ?_
  repeat' first
    | exact finB rfl
    | exact finI rfl
    | exact finP rfl
    | exact absurd rfl (by assumption)
    | simp only [go_sem]
    | (intro _)
    | refine brK_dec (fun _ => ?_) (fun _ => ?_)
    | refine brK_any ?_ ?_
    | refine gK_dec (fun _ => ?_) (fun _ => ?_)
    | refine gK_any ?_ ?_
    | refine gqK_dec (fun _ => ?_) (fun _ => ?_)
    | refine ⟨by omega, ?_⟩
    | refine elemHave (by omega) (by assumption) ?_
    | ((fail_if_success (clear hq)); refine elemMap (by omega) (by omega) (fun q hq => ?_))
    | refine elemMap (by omega) (by omega) (fun x hx => ?_)
    | refine drawK mo (by kernel_rfl) ?_
    | (simp only [go_sem, hpj.at _])
    | ((fail_if_success (clear hh)); have hh : (hangsC f)[i]? = some (hangsF f q) := map_some (by simpa using hq))
    | (refine pcK_of (hangs123 f q (hf.hang (by simpa using hq))) ?_)
    | (refine ⟨mono_maps, ?_⟩)
    | (simp only [hpi.1.more])
    | (have e9 : i = f.Eqs.length := (by omega); subst e9; exact ⟨_, rfl, _, .refl _, hK _ _ _ _ _ hpi.1 (hpi.2.cast fun s => by rw [cnt_all (by rw [hN]; exact Nat.le_refl _), hN])⟩)
    | exact loopFr _ (by omega) ⟨i + 1, _, _, _, (), _, by omega, rfl, ⟨hpi.1.put hh, hpj.cast fun s => cnt_step (map_some hq) (by omega) s⟩, rfl, (by first | rfl | (simp; done) | (simp; rfl))⟩ (.next rfl (by omega) .nil) rfl
    | (refine loop_fr [4, 5, 7, 14, 15, 16, 17, 18, 19, 20, 21, 22, 23, 24, 25, 26, 27, 28, 29, 30, 31, 32, 33, 34, 35, 36, 37, 38] (fun mm_ CC_ hh_ => ∃ (i : Nat) (n : Nat) (m1 : Value → Option AV) (m2 : Value → Option AV) (u9 : Unit) (r_ : List Blk), i ≤ f.Eqs.length ∧ mm_ = f.Eqs.length - i ∧ ((EqM m1 (hangsC f) (List.replicate i false) ∧ MapN m2 (fun s => cntL s ((namesC f).take i).flatten))) ∧ CC_ = [(14, .raw (.int .i64 ((i : Nat) : Int)))] ∧ hh_ = b0 :: nodeB2 f :: zeroL :: .mp .int i m1 :: .mp .str n m2 :: leftB :: r_) (f.Eqs.length) _ ⟨0, _, _, _, (), _, by omega, by omega, ⟨EqM.nil, MapN.nil⟩, rfl, (by first | rfl | (simp; done) | (simp; rfl))⟩ (.cons (by first | rfl | (simp; done) | (simp; rfl)) .nil) ?_; rintro mm_ CC_ ji hh_ ⟨i, n, m1, m2, u9, ri, hi, rfl, hpi, rfl, rfl⟩)
    | exact loopFr _ (by omega) ⟨j + 1, _, _, _, by omega, rfl, hpj.upW (by assumption) (Nat.le_trans (cnt_bnd (map_some hq) _ _) (Nat.le_trans hfl (by omega))), rfl, (by first | rfl | (simp; done) | (simp; rfl))⟩ (.next rfl (by omega) .nil) rfl
    | (refine loop_fr [7, 28, 29, 30, 31, 32, 33, 34, 35, 36, 37] (fun mm_ CC_ hh_ => ∃ (j : Nat) (n : Nat) (m : Value → Option AV) (r_ : List Blk), j ≤ q.Names.length ∧ mm_ = q.Names.length - j ∧ (MapN m (fun s => cntL s ((namesC f).take i).flatten + cntL s (q.Names.take j))) ∧ CC_ = [(28, .raw (.int .i64 ((j : Nat) : Int)))] ∧ hh_ = b0 :: nodeB2 f :: zeroL :: .mp .int (i + 1) (mput m1 (.int .i64 (i : Int)) (.lst 1 ((hangsF f q).map AV.s) none)) :: .mp .str n m :: leftB :: r_) (q.Names.length) _ ⟨0, _, _, _, by omega, by omega, hpi.2.cast fun s => by simp [cntL], rfl, (by first | rfl | (simp; done) | (simp; rfl))⟩ (.cons (by first | rfl | (simp; done) | (simp; rfl)) .nil) ?_; rintro mm_ CC_ jj hh_ ⟨j, n, m, rj, hj, rfl, hpj, rfl, rfl⟩)



theorem ready86 (f : DNode) (pl : List Bool) (i : Nat) (q : DEq) (hq : f.Eqs[i]? = some q) (hl : i < pl.length) (b0 b1 b2 : Blk) (n1 n2 : Nat) (m1 m2 : Value → Option AV) (h1 : EqM m1 (hangsC f) pl) (h2 : MapN m2 (fun s => opn s (namesC f) pl)) (r : List Blk) {K : AV → List Blk → Prop}
    (hK : K (.b (readyF (namesC f) (hangsC f) pl i)) (b0 :: b1 :: b2 :: .mp .int n1 m1 :: .mp .str n2 m2 :: r)) : ACall Tryz.prog 123 [.agg [.map 3, .map 4], .i (i : Int)] (b0 :: b1 :: b2 :: .mp .int n1 m1 :: .mp .str n2 m2 :: r) K := by
  have hpx : pl[i]? = some pl[i] := List.getElem?_eq_getElem hl
  have hh : (hangsC f)[i]? = some (hangsF f q) := map_some hq
  generalize pl[i] = b at hpx
  refine acall_of_vc tabOK Tryz.func123 (by kernel_rfl) rfl (n := 21) rfl (rs := [.tmp 4]) rfl ?_
  simp only [go_sem, at_app0]
  cases b
  · simp only [go_sem, h1.at hpx hh, orZ, Option.isSome_some]
    refine contains106 (p := fun s => decide (((opn s (namesC f) pl : Nat) : Int) > 0)) (fun x hx K hK => ?_) ?_
    · refine acall_of_vc tabOK Tryz.func160 (by kernel_rfl) rfl (n := 9) rfl (rs := [.tmp 3]) rfl ?_
      simp only [go_sem, at_app0, at_app, h2.at _]
      exact finH1 rfl (.raw _) hK
    · simp only [any_waits]
      generalize hw : ((hangsF f q).any fun s => waitsF (namesC f) pl s) = w
      rw [ready_any hpx hh hw] at hK
      cases w
      · simp only [go_sem, at_app0, at_app]
        exact finH0 (h := b0 :: b1 :: b2 :: .mp .int n1 m1 :: .mp .str n2 m2 :: r) _ rfl (.raw _) hK
      · simp only [go_sem, at_app0, at_app]
        exact finH0 (h := b0 :: b1 :: b2 :: .mp .int n1 m1 :: .mp .str n2 m2 :: r) _ rfl (.raw _) hK
  · rw [ready_not hpx] at hK
    simp only [go_sem, h1.no hpx, orZ, Option.isSome_none]
    exact finH0 (h := b0 :: b1 :: b2 :: .mp .int n1 m1 :: .mp .str n2 m2 :: r) _ rfl (.raw _) hK

theorem take_endC {g b : ByteArray → Nat} {l : List ByteArray} {i : Nat} (h : ∀ s, g s + cntL s (l.take i) = b s) (hi : ¬ (i : Int) < l.length) : ∀ s, g s + cntL s l = b s := by
  intro s
  have := h s
  rw [List.take_of_length_le (by omega)] at this
  exact this

theorem place87 (q : DEq) (k : Nat) (b0 b1 b2 : Blk) (n1 n2 : Nat) (m1 m2 : Value → Option AV) (g : ByteArray → Nat) (hm : MapN m2 g) (hg : ∀ s, cntL s q.Names ≤ g s) (hn : ∀ s, g s ≤ 1000000) (r : List Blk) {K : AV → List Blk → Prop}
    (hK : ∀ n' m' g' r', MapN m' g' → (∀ s, g' s + cntL s q.Names = g s) → K (.tup []) (b0 :: b1 :: b2 :: .mp .int (less (m1 (.int .i64 (k : Int))) n1) (mcut m1 (.int .i64 (k : Int))) :: .mp .str n' m' :: (r ++ r'))) :
    ACall Tryz.prog 124 [.agg [.map 3, .map 4], .i (k : Int), q.enc] (b0 :: b1 :: b2 :: .mp .int n1 m1 :: .mp .str n2 m2 :: r) K := by
  refine acallK_of_vc tabOK Tryz.func124 (by kernel_rfl) rfl (n := 24) rfl (rs := []) rfl ?_
  repeat' first
    | exact finB rfl
    | exact finI rfl
    | exact finP rfl
    | exact absurd rfl (by assumption)
    | simp only [go_sem]
    | (intro _)
    | refine brK_dec (fun _ => ?_) (fun _ => ?_)
    | refine brK_any ?_ ?_
    | refine gK_dec (fun _ => ?_) (fun _ => ?_)
    | refine gK_any ?_ ?_
    | refine gqK_dec (fun _ => ?_) (fun _ => ?_)
    | refine ⟨by omega, ?_⟩
    | refine elemHave (by omega) (by assumption) ?_
    | refine elemMap (by omega) (by omega) (fun x hx => ?_)
    | refine drawK mo (by kernel_rfl) ?_
    | (simp only [go_sem, at_app0, at_app])
    | ((fail_if_success (clear h9)); obtain ⟨g9, h9, hs9⟩ := hpi)
    | (simp only [go_sem, at_app0, at_app, h9.at _])
    | (exact ⟨[], rfl, .tup [], .refl _, hK _ _ g9 _ h9 (take_endC hs9 (by assumption))⟩)
    | exact loopFr _ (by omega) ⟨i + 1, _, _, _, by omega, rfl, h9.downW hs9 hg (by assumption) (hn _), rfl, (by first | rfl | (simp; done) | (simp; rfl))⟩ (.next rfl (by omega) .nil) rfl
    | (refine loop_fr [7, 14, 15, 16, 17, 18, 19, 20, 21, 22, 23] (fun mm_ CC_ hh_ => ∃ (i : Nat) (n9 : Nat) (m9 : Value → Option AV) (r_ : List Blk), i ≤ q.Names.length ∧ mm_ = q.Names.length - i ∧ ((∃ g9, MapN m9 g9 ∧ ∀ s, g9 s + cntL s (q.Names.take i) = g s)) ∧ CC_ = [(14, .raw (.int .i64 ((i : Nat) : Int)))] ∧ hh_ = b0 :: b1 :: b2 :: .mp .int (less (m1 (.int .i64 (k : Int))) n1) (mcut m1 (.int .i64 (k : Int))) :: .mp .str n9 m9 :: (r ++ leftB :: r_)) (q.Names.length) _ ⟨0, _, _, _, by omega, by omega, ⟨g, hm, fun s => by simp [cntL]⟩, rfl, (by first | rfl | (simp; done) | (simp; rfl))⟩ (.cons (by first | rfl | (simp; done) | (simp; rfl)) .nil) ?_; rintro mm_ CC_ ji hh_ ⟨i, n9, m9, ri, hi, rfl, hpi, rfl, rfl⟩)
theorem eq_at {α : Type} {l : List α} {i : Nat} (h : i < l.length) : ∃ q, l[i]? = some q := ⟨_, List.getElem?_eq_getElem h⟩

theorem order39 (f : DNode) (hf : okC f) : PCall Tryz.prog 85 [f.enc] (orderA (orderF (namesC f) (hangsC f))) := by
  have hn := hf.1
  have hN := len_namesC f
  have hfl := hf.names
  generalize hR : orderF (namesC f) (hangsC f) = R
  refine pcall_of_vc tabOK Tryz.func85 (by kernel_rfl) rfl (by first | exact pureL | exact pureI) (pure_orderA _) (n := 41) rfl (rs := [.tmp 2, .tmp 3]) rfl ?_
  simp only [go_sem]
  refine all85 f hf _ (fun n0 m10 m20 b2 r h10 h20 => ?_)
  simp only [go_sem]
  refine loop_ghost (ghost_tok 4 3 1 rfl) ?_
  simp only [go_sem]
  refine loop_fr [2, 3, 4, 6, 7, 10, 11, 12, 13, 14, 15, 16, 17, 18, 19, 20, 21, 22, 23, 24, 25, 26, 27, 28, 29, 30, 31, 32, 33, 34, 35, 36, 37, 38, 39] (fun mz C hh => ∃ (pl : List Bool) (out : List Nat) (n : Nat) (m1 m2 : Value → Option AV) (r2 : List Blk), pl.length = f.Eqs.length ∧ out.length ≤ f.Eqs.length ∧ mz = f.Eqs.length - out.length ∧ orderG (namesC f) (hangsC f) (f.Eqs.length - out.length) pl out = R ∧
    EqM m1 (hangsC f) pl ∧ MapN m2 (fun s => opn s (namesC f) pl) ∧
    C = [(4, .lst 1 (out.map AV.n) (some (r.length + 1 + 1 + 1 + 1 + 1 + 1)))] ∧ hh = nodeB2 f :: nodeB2 f :: b2 :: .mp .int (f.Eqs.length - out.length) m1 :: .mp .str n m2 :: (r ++ leftB :: .tok 3 1 out.length :: r2)) (f.Eqs.length) _
    ⟨List.replicate f.Eqs.length false, [], n0, m10, m20, [], by simp, by simp, by simp, by rw [← hR, orderF, hN]; rfl, h10, h20, rfl, by simp⟩ (.cons (by simp) .nil) ?_
  rintro mz C jo hh ⟨pl, out, n, m1, m2, r2, hl, hol, rfl, hG, h1, h2, rfl, rfl⟩
  repeat' first
    | exact finB rfl
    | exact finI rfl
    | exact finP rfl
    | exact absurd rfl (by assumption)
    | simp only [go_sem]
    | (intro _)
    | refine brK_dec (fun _ => ?_) (fun _ => ?_)
    | refine brK_any ?_ ?_
    | refine gK_dec (fun _ => ?_) (fun _ => ?_)
    | refine gK_any ?_ ?_
    | refine gqK_dec (fun _ => ?_) (fun _ => ?_)
    | refine ⟨by omega, ?_⟩
    | refine elemHave (by omega) (by assumption) ?_
    | refine elemMap (by omega) (by omega) (fun x hx => ?_)
    | (refine drawZ mo (by kernel_rfl) rfl ?_; simp only [List.dropLast_cons_cons, List.dropLast_singleton, List.getLast_cons_cons, List.getLast_singleton])
    | (simp only [go_sem, at_app0, at_app, set_app0])
    | ((fail_if_success (clear hq)); have hgo := eq_at (l := f.Eqs) (i := i) (by omega); obtain ⟨q, hq⟩ := hgo; have hq2 : f.Eqs[((i : Nat) : Int).toNat]? = some q := hq; have hh : (hangsC f)[i]? = some (hangsF f q) := map_some hq; have hnn : (namesC f)[i]? = some q.Names := map_some hq)
    | (refine ready86 f pl i q hq (by omega) _ _ _ _ _ _ _ h1 h2 _ ?_; generalize hw : readyF (namesC f) (hangsC f) pl i = w; cases w)
    | exact loopFrH _ (by omega) ⟨i + 1, by omega, rfl, not_next hpi hw, rfl⟩ (.next rfl (by omega) (.cons rfl .nil)) rfl
    | (refine loop_frH [6, 7, 17, 18, 19, 20, 21, 22, 23, 24] (fun mm_ CC_ => ∃ (i : Nat), i ≤ f.Eqs.length ∧ mm_ = f.Eqs.length - i ∧ ((∀ j, j < i → readyF (namesC f) (hangsC f) pl j = false)) ∧ CC_ = [(17, .raw (.int .i64 ((i : Nat) : Int))), (6, .i (-1))]) (f.Eqs.length) _ ⟨0, by omega, by omega, fun j hj => absurd hj (by omega), rfl⟩ (.cons rfl (.cons rfl .nil)) ?_; rintro mm_ CC_ ji ⟨i, hi, rfl, hpi, rfl⟩)
    | (have hpx := ready_pl hw; refine place87 q i _ _ _ _ _ _ _ _ h2 (fun s => by have := opn_set (s := s) hnn hpx; omega) (fun s => Nat.le_trans opn_le (by omega)) _ (fun n9 m9 g9 r9 h9 h9s => ?_); simp only [List.append_assoc, List.cons_append, h1.less hpx hh]; have hpk := pick_some (N := namesC f) (H := hangsC f) (pl := pl) (n := (namesC f).length) (i := 0) (k := i) (Nat.zero_le _) (by omega) (fun j _ hj => hpi j hj) hw; have h8 : MapN m9 (fun s => opn s (namesC f) (pl.set i true)) := h9.cast (fun s => by have h7 := opn_set (s := s) hnn hpx; have := h9s s; omega))
    | (refine ⟨by simp; omega, ?_⟩)
    | (rw [order_some hpk (by omega)] at hG; refine loopFr (f.Eqs.length - (out.length + 1)) (by omega) ⟨pl.set i true, out ++ [i], n9, _, m9, _, by simpa using hl, by simp; omega, by simp, by rw [← hG, Nat.sub_sub]; simp, h1.cut, h8, rfl, by simp [Nat.sub_sub]; rfl⟩ (.cons (by simp; done) .nil) rfl)
    | (rw [order_none (pick_none (fun j _ hj => hpi j (by omega))) (by omega)] at hG; rw [← hG]; exact ⟨_, rfl, false, weak_order _ _ _⟩)
    | (rw [show f.Eqs.length - out.length = 0 by omega] at hG; rw [← hG]; exact ⟨_, rfl, false, weak_order _ _ _⟩)
    | (exfalso; omega)
theorem readsL_parts : ∀ l : List Ex, (∀ x ∈ l, (readsF x).length ≤ (parts x).length) → (readsL l).length ≤ (partsL l).length
  | [], _ => by simp [readsL]
  | x :: xs, h => by
    have h1 := h x List.mem_cons_self
    have h2 := readsL_parts xs fun y hy => h y (List.mem_cons_of_mem _ hy)
    simp only [readsL, partsL, List.length_append]
    omega
theorem partsL_keep (k : Int) (s : List Ex) : (partsL (keepK k s)).length ≤ (partsL s).length := by
  unfold keepK
  split
  · simp [partsL]
  · split
    · cases s with
      | nil => simp
      | cons x l => simp [partsL]
    · exact Nat.le_refl _
theorem keep_mem {k : Int} {s : List Ex} {x : Ex} (h : x ∈ keepK k s) : x ∈ s := by
  unfold keepK at h
  split at h
  · simp at h
  · split at h
    · exact List.mem_of_mem_take h
    · exact h
theorem parts_lenC (e : Ex) : (parts e).length = (partsL e.subs).length + 1 := by
  cases e
  simp [parts, Ex.subs]
theorem reads_parts (e : Ex) : (readsF e).length ≤ (parts e).length := by
  induction e using Ex.ind with
  | _ e ih =>
  rw [readsF_eq, List.length_append, parts_lenC]
  have h1 := readsL_parts (keepK e.kind e.subs) fun x hx => ih x (keep_mem hx)
  have h2 := partsL_keep e.kind e.subs
  have h3 : (mineK e.kind e.name).length ≤ 1 := by unfold mineK; split <;> simp
  omega
theorem okE_reads {e : Ex} (h : okE e) : (readsF e).length ≤ 100000 := by
  have := reads_parts e
  have := h.1
  omega
theorem okNode_C {n : DNode} (h : okNode n) : okC n := by
  refine ⟨by have := h.2.2.2.1; omega, fun q hq => ?_⟩
  have hx := h.2.2.2.2.2 q hq
  refine ⟨hx.1, okE_reads hx.2.1, ?_⟩
  have h1 := h.1.1
  have h2 := h.2.1.1
  have h3 := h.2.2.1.1
  simp [allV]
  omega

def nodeCa (a : Nat) (n : DNode) : DFault :=
  if (orderF (namesC n) (hangsC n)).2 = true then ⟨0, 0, 0⟩ else firstE (a : Int) 9 (fun k _ => decide (k ∈ (orderF (namesC n) (hangsC n)).1)) 0 n.Eqs
noncomputable def causeF (p : DProg) : DFault := if (clockF p).Err = 0 then firstF nodeCa 0 p.Nodes else clockF p
theorem cause_zero {p : DProg} (h : (causeF p).Err = 0) : causeF p = ⟨0, 0, 0⟩ ∧ (clockF p).Err = 0 ∧ ∀ (k : Nat) n, p.Nodes[k]? = some n → (nodeCa k n).Err = 0 := by
  unfold causeF at *
  split at h
  · rename_i h0
    rw [if_pos h0]
    obtain ⟨h1, h2⟩ := firstF_zero h
    exact ⟨h1, h0, fun k n hk => by have := h2 k n hk; simpa using this⟩
  · rename_i h0; exact absurd h h0

def ltK (k : Int) (l s f : Bool) : Bool × Bool :=
  if k = 8 ∨ k = 13 then (false, s && !l) else if k = 10 then (s && !l, s && !l) else if k = 9 then (false, s && !f) else (s && l, s)
mutual
def lt : Ex → Bool × Bool
  | .mk k _ _ _ _ s => ltK k (ltL s).1 (ltL s).2 (ltH s)
def ltL : List Ex → Bool × Bool
  | [] => (false, true)
  | x :: xs => ((lt x).1 || (ltL xs).1, (lt x).2 && (ltL xs).2)
def ltH : List Ex → Bool
  | [] => false
  | x :: _ => (lt x).1
end
theorem lt_eq (e : Ex) : lt e = ltK e.kind (ltL e.subs).1 (ltL e.subs).2 (ltH e.subs) := by cases e; simp [lt, Ex.kind, Ex.subs]
theorem ltL_append (l m : List Ex) : ltL (l ++ m) = ((ltL l).1 || (ltL m).1, (ltL l).2 && (ltL m).2) := by
  induction l with
  | nil => simp [ltL]
  | cons x l ih => simp [ltL, ih, Bool.or_assoc, Bool.and_assoc]
theorem ltL_take {l : List Ex} {k : Nat} {x : Ex} (h : l[k]? = some x) : ltL (l.take (k + 1)) = ((ltL (l.take k)).1 || (lt x).1, (ltL (l.take k)).2 && (lt x).2) := by
  rw [List.take_add_one, h, ltL_append]
  simp [ltL]

theorem pure_bb (a b : Bool) : Go.Abs.Pure (.tup [.b a, .b b]) := .tup _ (pure_cons (.raw _) (pure_cons (.raw _) pure_nil))
theorem pure_gb (a b : Bool) : Go.Abs.Pure (.agg [.b a, .b b]) := .agg _ (pure_cons (.raw _) (pure_cons (.raw _) pure_nil))


abbrev keptF (l s w : Bool) : Bool × Bool := if !s || l then (false, false) else (w, true)


theorem kept103 (l s w : Bool) : PCall Tryz.prog 128 [.agg [.b l, .b s], .b w] (gbA (keptF l s w)) := by
  refine pcall_of_vc tabOK Tryz.func128 (by kernel_rfl) rfl (pure_cons (pure_gb _ _) (pure_cons (.raw _) pure_nil)) (pure_gb _ _) (n := 15) rfl (rs := [.cell 4 144]) rfl ?_
  cases l <;> cases s
  all_goals repeat' first
    | exact finB rfl
    | exact finI rfl
    | exact finP rfl
    | exact absurd rfl (by assumption)
    | simp only [go_sem]
    | (intro _)
    | refine brK_dec (fun _ => ?_) (fun _ => ?_)
    | refine brK_any ?_ ?_
    | refine gK_dec (fun _ => ?_) (fun _ => ?_)
    | refine gK_any ?_ ?_
    | refine gqK_dec (fun _ => ?_) (fun _ => ?_)
    | refine ⟨by omega, ?_⟩
    | refine elemHave (by omega) (by assumption) ?_
    | refine elemMap (by omega) (by omega) (fun x hx => ?_)
    | refine drawK mo (by kernel_rfl) ?_


theorem both102 (a b : Bool) (x : Ex) (h : PCall Tryz.prog 87 [x.enc] (gbA (lt x))) : PCall Tryz.prog 127 [.agg [.b a, .b b], x.enc] (gbA (a || (lt x).1, b && (lt x).2)) := by
  refine pcall_of_vc tabOK Tryz.func127 (by kernel_rfl) rfl (pure_cons (pure_gb _ _) (pure_cons (pure_enc x) pure_nil)) (pure_gb _ _) (n := 21) rfl (rs := [.cell 4 144]) rfl ?_
  generalize lt x = p at *
  obtain ⟨c, d⟩ := p
  cases a <;> cases b
  all_goals repeat' first
    | exact finB rfl
    | exact finI rfl
    | exact finP rfl
    | exact absurd rfl (by assumption)
    | simp only [go_sem]
    | (intro _)
    | refine brK_dec (fun _ => ?_) (fun _ => ?_)
    | refine brK_any ?_ ?_
    | refine gK_dec (fun _ => ?_) (fun _ => ?_)
    | refine gK_any ?_ ?_
    | refine gqK_dec (fun _ => ?_) (fun _ => ?_)
    | refine ⟨by omega, ?_⟩
    | refine elemHave (by omega) (by assumption) ?_
    | refine elemMap (by omega) (by omega) (fun x hx => ?_)
    | refine drawK mo (by kernel_rfl) ?_
    | (refine PCall.call h ?_; cases c <;> cases d)


theorem fold101 (l : List Ex) (a b : Bool) (ih : ∀ x ∈ l, PCall Tryz.prog 87 [x.enc] (gbA (lt x))) : PCall Tryz.prog 126 [.lst 6 (l.map Ex.enc) none, .agg [.b a, .b b], .fn (.func 127) [] []] (gbA (a || (ltL l).1, b && (ltL l).2)) := by
  refine pcall_of_vc tabOK Tryz.func126 (by kernel_rfl) rfl (pure_cons (pure_lst l) (pure_cons (pure_gb _ _) (pure_cons (.fn _ _ _ pure_nil pure_nil) pure_nil))) (pure_gb _ _) (n := 21) rfl (rs := [.cell 6 144]) rfl ?_
  simp only [go_sem]
  intro hm
  refine loop_rule (fun n s h => ∃ (i : Nat) (c d : Bool) (rest : List Blk), i ≤ l.length ∧ n = l.length - i ∧ (c = (a || (ltL (l.take i)).1) ∧ d = (b && (ltL (l.take i)).2)) ∧
    Vis 21 [(11, .i i), (4, .ptr 0 0), (6, .ptr 1 0), (2, .fn (.func 127) [] []), (9, .lst 6 (l.map Ex.enc) none), (10, .i l.length)] s ∧ h = .cells 144 [.b c, .b d] :: .cells 144 [.b false, .b false] :: rest) l.length
    ⟨0, a, b, [], by omega, by omega, by simp [ltL], .cons rfl (.cons rfl (.cons rfl (.cons rfl (.cons rfl (.cons rfl (.nil rfl)))))), rfl⟩ ?_
  rintro n s h ⟨i, c, d, rest, hi, rfl, hp, hv, rfl⟩
  obtain ⟨j, rfl⟩ := hv.out
  simp only [go_sem]
  refine brK_dec (fun hlt => ?_) (fun hge => ?_)
  · simp only [go_sem]
    refine elemMap (by omega) (by omega) (fun x hx => ?_)
    simp only [go_sem]
    refine PCall.call (both102 c d x (ih x (List.mem_of_getElem? hx))) ?_
    simp only [go_sem]
    have ht := ltL_take hx
    rw [Int.toNat_natCast] at ht
    refine loopGo _ (by omega) ⟨i + 1, _, _, _, by omega, rfl, ?_, .next rfl (by omega) (.cons rfl (.cons rfl (.cons rfl (.cons rfl (.cons rfl (.nil rfl)))))), rfl⟩
    rw [ht, hp.1, hp.2]
    simp [Bool.or_assoc, Bool.and_assoc]
  · simp only [go_sem]
    rw [List.take_of_length_le (by omega)] at hp
    rw [← hp.1, ← hp.2]
    exact finP rfl
set_option maxHeartbeats 4000000


theorem of56 (e : Ex) : PCall Tryz.prog 87 [e.enc] (gbA (lt e)) := by
  induction e using Ex.ind with
  | _ e ih =>
  refine pcall_of_vc tabOK Tryz.func87 (by kernel_rfl) rfl (pure_cons (pure_enc e) pure_nil) (pure_gb _ _) (n := 42) rfl (rs := [.cell 2 144]) rfl ?_
  rw [lt_eq]
  simp only [go_sem]
  refine PCall.call (fold101 e.subs false true ih) ?_
  have hf : ∀ n : Nat, n = min 1 e.subs.length → (ltL (e.subs.take n)).1 = ltH e.subs := by
    intro n hn
    cases hs : e.subs with
    | nil => simp [ltH, ltL]
    | cons y l => rw [hs] at hn; simp at hn; subst hn; simp [ltH, ltL]
  generalize ltL e.subs = p at *
  obtain ⟨a, b⟩ := p
  simp only [Bool.false_or, Bool.true_and]
  cases a <;> cases b
  all_goals repeat' first
    | exact finB rfl
    | exact finI rfl
    | exact finP rfl
    | exact absurd rfl (by assumption)
    | simp only [go_sem]
    | (intro _)
    | refine brK_dec (fun _ => ?_) (fun _ => ?_)
    | refine brK_any ?_ ?_
    | refine gK_dec (fun _ => ?_) (fun _ => ?_)
    | refine gK_any ?_ ?_
    | refine gqK_dec (fun _ => ?_) (fun _ => ?_)
    | refine ⟨by omega, ?_⟩
    | refine elemHave (by omega) (by assumption) ?_
    | refine elemMap (by omega) (by omega) (fun x hx => ?_)
    | refine drawK mo (by kernel_rfl) ?_
    | (refine finGk rfl ?_; simp [ltK, keptF, *]; done)
    | (refine PCall.call (kept103 _ _ _) ?_)
    | (refine PCall.call (fold101 (e.subs.take _) false true (fun x hx => ih x (List.mem_of_mem_take hx))) ?_; rw [hf]; cases ltH e.subs)
    | (omega)
    | (split <;> omega)


theorem late16 (e : Ex) : PCall Tryz.prog 57 [e.enc] (bbA (lt e)) := by
  refine pcall_of_vc tabOK Tryz.func57 (by kernel_rfl) rfl (pure_cons (pure_enc e) pure_nil) (pure_bb _ _) (n := 11) rfl (rs := [.tmp 2, .tmp 3]) rfl ?_
  repeat' first
    | exact finB rfl
    | exact finI rfl
    | exact finP rfl
    | exact absurd rfl (by assumption)
    | simp only [go_sem]
    | (intro _)
    | refine brK_dec (fun _ => ?_) (fun _ => ?_)
    | refine brK_any ?_ ?_
    | refine gK_dec (fun _ => ?_) (fun _ => ?_)
    | refine gK_any ?_ ?_
    | refine gqK_dec (fun _ => ?_) (fun _ => ?_)
    | refine ⟨by omega, ?_⟩
    | refine elemHave (by omega) (by assumption) ?_
    | refine elemMap (by omega) (by omega) (fun x hx => ?_)
    | refine drawK mo (by kernel_rfl) ?_
    | (refine PCall.call (of56 e) ?_)
    | (exact finBBk rfl rfl rfl)
def eqSt (q : DEq) : Bool := !(lt q.E).1 && (lt q.E).2
def nodeSt (a : Nat) (n : DNode) : DFault := firstE (a : Int) 10 (fun _ q => eqSt q) 0 n.Eqs
noncomputable def startF (p : DProg) : DFault := if (causeF p).Err = 0 then firstF nodeSt 0 p.Nodes else causeF p
theorem start_zero {p : DProg} (h : (startF p).Err = 0) : startF p = ⟨0, 0, 0⟩ ∧ (causeF p).Err = 0 ∧ ∀ (k : Nat) n, p.Nodes[k]? = some n → (nodeSt k n).Err = 0 := by
  unfold startF at *
  split at h
  · rename_i h0
    rw [if_pos h0]
    obtain ⟨h1, h2⟩ := firstF_zero h
    exact ⟨h1, h0, fun k n hk => by have := h2 k n hk; simpa using this⟩
  · rename_i h0; exact absurd h h0
end Go.Proofs.YtpamokpmlplopaaGreatDoor

namespace Go.Proofs.YtpamokpmlplopaaGreatDoor
open Go.Abs
set_option maxRecDepth 20000
set_option linter.unusedSimpArgs false
set_option linter.unusedVariables false
set_option maxHeartbeats 1000000
attribute [local irreducible] vc vcOps vcStep vcGuard prK hrK gK gsK brK callK ElemK SeqK BlockK ScopeK OpsK CallK LoopK LoopGo finPost ACall PCall PCallE BCall vqOps vqStep vqGuard qrK heK pcK gqK gqsK QOpsK qcallK DrawK
/-- What a node that is taken apart has laid: fresh variables, equations, and how many fresh ones this equation has. -/
structure NmSt where
  vars : List DVar
  eqs : List DPlain
  k : Nat
abbrev noAtom : DAtom := ⟨⟨#[]⟩, 0⟩
def plain0 (kind op : Int) (args : List DAtom) : DPlain := ⟨kind, [], op, args, [], 0, false, noAtom, []⟩

def cellsZ (t : DTy) : Nat := if t.Len < 1 then 1 else if t.Len > 8 then 8 else t.Len.toNat
section
variable (nm : Nat → ByteArray) (ty : Ex → DTy) (cn : Ex → List Int) (va : ByteArray → Int) (fi : ByteArray → Int)
/-- A fresh variable's equation. -/
def freshN (q : DPlain) (t : DTy) (on : List DCond) (st : NmSt) : DAtom × NmSt :=
  (⟨nm (st.k + 1), 0⟩, ⟨st.vars ++ [⟨nm (st.k + 1), t, on⟩], st.eqs ++ [{ q with Names := [nm (st.k + 1)], On := on }], st.k + 1⟩)
def leafK (k : Int) : Bool := decide (k = 1 ∨ k = 2 ∨ k = 3 ∨ k = 4)
def leafA (e : Ex) : DAtom := if e.kind = 3 then ⟨e.name, 0⟩ else if e.kind = 4 then ⟨⟨#[]⟩, va e.name⟩ else ⟨⟨#[]⟩, e.n⟩
/-- The equation of an expression out of the atoms of its parts. -/
def headN (e : Ex) (ats : List DAtom) (frst : DAtom) : DPlain :=
  if e.kind = 5 then plain0 2 e.op ats else if e.kind = 6 then plain0 3 e.op ats else if e.kind = 7 then plain0 4 e.op ats
  else if e.kind = 14 then plain0 8 e.op ats else if e.kind = 15 then plain0 9 e.op ats else if e.kind = 16 then plain0 10 e.op ats
  else if e.kind = 8 then { plain0 5 0 ats with Init := cn (e.subs.headD e) }
  else if e.kind = 10 then { plain0 5 0 ats with Init := List.replicate (cellsZ (ty e)) 0 }
  else if e.kind = 9 then plain0 4 0 (frst :: ats)
  else if e.kind = 11 then plain0 1 0 ats
  else if e.kind = 12 then plain0 6 0 (⟨e.name, 0⟩ :: ats)
  else if e.kind = 13 then (if e.n = 1 then { plain0 7 0 (ats.take (ats.length - 1)) with Node := fi e.name, Reset := true, Every := ats.getLastD noAtom } else { plain0 7 0 ats with Node := fi e.name })
  else plain0 1 0 [leafA va e]
/-- The first fresh variable of an arrow. -/
def frstN (e : Ex) (on : List DCond) (st : NmSt) : DAtom × NmSt :=
  if e.kind = 9 then freshN nm { plain0 5 0 [noAtom] with Init := [1] } tyB on st else (noAtom, st)
/-- On which clock a part's parts are. -/
def onN (e : Ex) (on : List DCond) : List DCond := if e.kind = 11 then on.dropLast else on
mutual
def plainN : Ex → List DCond → NmSt → DPlain × NmSt
  | .mk k n m op arms subs, on, st =>
    let f := frstN nm (.mk k n m op arms subs) on st
    let r := if k = 12 then mergeN m arms subs on f.2 else if k = 8 then tailN subs on f.2 else eachN subs (onN (.mk k n m op arms subs) on) f.2
    (headN ty cn va fi (.mk k n m op arms subs) r.1 f.1, r.2)
def eachN : List Ex → List DCond → NmSt → List DAtom × NmSt
  | [], _, st => ([], st)
  | x :: l, on, st =>
    let a := if leafK x.kind = true then (leafA va x, st) else freshN nm (plainN x on st).1 (ty x) on (plainN x on st).2
    ((a.1 :: (eachN l on a.2).1), (eachN l on a.2).2)
def tailN : List Ex → List DCond → NmSt → List DAtom × NmSt
  | [], _, st => ([], st)
  | _ :: l, on, st => eachN l on st
def mergeN (m : ByteArray) : List ByteArray → List Ex → List DCond → NmSt → List DAtom × NmSt
  | _, [], _, st => ([], st)
  | [], _ :: _, _, st => ([], st)
  | c :: cs, x :: l, on, st =>
    let a := if leafK x.kind = true then (leafA va x, st) else freshN nm (plainN x (on ++ [⟨m, va c⟩]) st).1 (ty x) (on ++ [⟨m, va c⟩]) (plainN x (on ++ [⟨m, va c⟩]) st).2
    ((a.1 :: (mergeN m cs l on a.2).1), (mergeN m cs l on a.2).2)
end
def atomN (x : Ex) (on : List DCond) (st : NmSt) : DAtom × NmSt := if leafK x.kind = true then (leafA va x, st) else freshN nm (plainN nm ty cn va fi x on st).1 (ty x) on (plainN nm ty cn va fi x on st).2
/-- The atoms of a part's parts. -/
def argsN (e : Ex) (on : List DCond) (st : NmSt) : List DAtom × NmSt :=
  if e.kind = 12 then mergeN nm ty cn va fi e.name e.arms e.subs on st else if e.kind = 8 then eachN nm ty cn va fi (e.subs.drop 1) on st else eachN nm ty cn va fi e.subs (onN e on) st
theorem plainN_eq (e : Ex) (on : List DCond) (st : NmSt) : plainN nm ty cn va fi e on st = (headN ty cn va fi e (argsN nm ty cn va fi e on (frstN nm e on st).2).1 (frstN nm e on st).1, (argsN nm ty cn va fi e on (frstN nm e on st).2).2) := by
  cases e with
  | mk k n m op arms subs =>
    have ht : ∀ st, tailN nm ty cn va fi subs on st = eachN nm ty cn va fi (subs.drop 1) on st := fun st => by cases subs <;> simp [tailN, eachN]
    rw [plainN]
    unfold argsN
    simp only [Ex.kind, Ex.name, Ex.arms, Ex.subs]
    rw [ht]
    rfl
theorem eachN_nil (on : List DCond) (st : NmSt) : eachN nm ty cn va fi [] on st = ([], st) := by rw [eachN]
theorem eachN_cons (x : Ex) (l : List Ex) (on : List DCond) (st : NmSt) : eachN nm ty cn va fi (x :: l) on st = ((atomN nm ty cn va fi x on st).1 :: (eachN nm ty cn va fi l on (atomN nm ty cn va fi x on st).2).1, (eachN nm ty cn va fi l on (atomN nm ty cn va fi x on st).2).2) := by
  rw [eachN]
  rfl
theorem mergeN_cons (m c : ByteArray) (cs : List ByteArray) (x : Ex) (l : List Ex) (on : List DCond) (st : NmSt) : mergeN nm ty cn va fi m (c :: cs) (x :: l) on st = ((atomN nm ty cn va fi x (on ++ [⟨m, va c⟩]) st).1 :: (mergeN nm ty cn va fi m cs l on (atomN nm ty cn va fi x (on ++ [⟨m, va c⟩]) st).2).1, (mergeN nm ty cn va fi m cs l on (atomN nm ty cn va fi x (on ++ [⟨m, va c⟩]) st).2).2) := by
  rw [mergeN]
  rfl
theorem eachN_append : ∀ (l m : List Ex) (on : List DCond) (st : NmSt), eachN nm ty cn va fi (l ++ m) on st = ((eachN nm ty cn va fi l on st).1 ++ (eachN nm ty cn va fi m on (eachN nm ty cn va fi l on st).2).1, (eachN nm ty cn va fi m on (eachN nm ty cn va fi l on st).2).2)
  | [], m, on, st => by rw [eachN_nil]; simp
  | x :: l, m, on, st => by
    rw [List.cons_append, eachN_cons, eachN_cons, eachN_append l m]
    rfl
theorem eachN_len : ∀ (l : List Ex) (on : List DCond) (st : NmSt), (eachN nm ty cn va fi l on st).1.length = l.length
  | [], on, st => by rw [eachN_nil]; rfl
  | x :: l, on, st => by rw [eachN_cons]; simp [eachN_len l]
end
mutual
/-- How many fresh variables a part's equation lays. -/
def frN : Ex → Nat
  | .mk k _ _ _ _ subs => (if k = 9 then 1 else 0) + (if k = 8 then frT subs else frL subs)
def frL : List Ex → Nat
  | [] => 0
  | x :: l => (if leafK x.kind = true then 0 else frN x + 1) + frL l
def frT : List Ex → Nat
  | [] => 0
  | _ :: l => frL l
end
end Go.Proofs.YtpamokpmlplopaaGreatDoor

namespace Go.Proofs.YtpamokpmlplopaaGreatDoor
open Go.Abs
set_option maxRecDepth 20000
set_option linter.unusedSimpArgs false
set_option linter.unusedVariables false
set_option maxHeartbeats 1000000
attribute [local irreducible] vc vcOps vcStep vcGuard prK hrK gK gsK brK callK ElemK SeqK BlockK ScopeK OpsK CallK LoopK LoopGo finPost ACall PCall PCallE BCall vqOps vqStep vqGuard qrK heK pcK gqK gqsK QOpsK qcallK DrawK
section
variable (nm : Nat → ByteArray) (ty : Ex → DTy) (cn : Ex → List Int) (va : ByteArray → Int) (fi : ByteArray → Int)
/-- That a state has grown by so many fresh variables. -/
def grewN (st st' : NmSt) (n : Nat) : Prop := st'.k = st.k + n ∧ st'.vars.length = st.vars.length + n ∧ st'.eqs.length = st.eqs.length + n
theorem grewN.refl (st : NmSt) : grewN st st 0 := ⟨rfl, rfl, rfl⟩
theorem grewN.trans {a b c : NmSt} {n m : Nat} (h : grewN a b n) (h2 : grewN b c m) : grewN a c (n + m) := ⟨by rw [h2.1, h.1]; omega, by rw [h2.2.1, h.2.1]; omega, by rw [h2.2.2, h.2.2]; omega⟩
theorem grewN.fresh (q : DPlain) (t : DTy) (on : List DCond) (st : NmSt) : grewN st (freshN nm q t on st).2 1 := ⟨rfl, by simp [freshN], by simp [freshN]⟩
def gN (x : Ex) : Nat := if leafK x.kind = true then 0 else frN x + 1
theorem frL_cons (x : Ex) (l : List Ex) : frL (x :: l) = gN x + frL l := by rw [frL]; rfl
theorem frL_append (l m : List Ex) : frL (l ++ m) = frL l + frL m := by
  induction l with
  | nil => simp [frL]
  | cons x l ih => rw [List.cons_append, frL_cons, frL_cons, ih]; omega
theorem frN_eq (e : Ex) : frN e = (if e.kind = 9 then 1 else 0) + (if e.kind = 8 then frL (e.subs.drop 1) else frL e.subs) := by
  cases e with
  | mk k n m op arms subs =>
    have ht : frT subs = frL (subs.drop 1) := by cases subs <;> simp [frT, frL]
    rw [frN, ht]
    rfl
theorem each_grew_of {l : List Ex} (h : ∀ x ∈ l, ∀ on st, grewN st (plainN nm ty cn va fi x on st).2 (frN x)) : ∀ on st, grewN st (eachN nm ty cn va fi l on st).2 (frL l) := by
  induction l with
  | nil => intro on st; rw [eachN_nil]; exact grewN.refl st
  | cons x l ih =>
    intro on st
    rw [eachN_cons, frL_cons]
    refine grewN.trans ?_ (ih (fun y hy => h y (List.mem_cons_of_mem _ hy)) on _)
    unfold atomN gN
    split
    · exact grewN.refl st
    · exact (h x List.mem_cons_self on st).trans (grewN.fresh nm _ _ _ _)
theorem merge_grew_of {l : List Ex} (h : ∀ x ∈ l, ∀ on st, grewN st (plainN nm ty cn va fi x on st).2 (frN x)) (m : ByteArray) : ∀ (arms : List ByteArray), arms.length = l.length → ∀ on st, grewN st (mergeN nm ty cn va fi m arms l on st).2 (frL l) := by
  induction l with
  | nil => intro arms _ on st; rw [mergeN]; exact grewN.refl st
  | cons x l ih =>
    intro arms ha on st
    match arms, ha with
    | c :: cs, ha =>
      rw [mergeN_cons, frL_cons]
      refine grewN.trans ?_ (ih (fun y hy => h y (List.mem_cons_of_mem _ hy)) cs (by simpa using ha) on _)
      unfold atomN gN
      split
      · exact grewN.refl st
      · exact (h x List.mem_cons_self _ st).trans (grewN.fresh nm _ _ _ _)
theorem plain_grew (e : Ex) : (∀ y ∈ parts e, partE y = true) → ∀ on st, grewN st (plainN nm ty cn va fi e on st).2 (frN e) := by
  induction e using Ex.ind with
  | _ e ih =>
  intro hp on st
  have ih' : ∀ x ∈ e.subs, ∀ on st, grewN st (plainN nm ty cn va fi x on st).2 (frN x) := fun x hx => ih x hx (sub_ok hp hx)
  have hf : grewN st (frstN nm e on st).2 (if e.kind = 9 then 1 else 0) := by
    unfold frstN
    split
    · exact grewN.fresh nm _ _ _ _
    · exact grewN.refl st
  rw [plainN_eq, frN_eq]
  refine hf.trans ?_
  unfold argsN
  generalize (frstN nm e on st).2 = st1
  by_cases h12 : e.kind = 12
  · rw [if_pos h12, if_neg (by omega)]
    have h1 : e.arms.length = e.subs.length := by
      obtain ⟨_, hlo, hhi, _⟩ := part_facts (hp e (self_parts e))
      have : (subsE e).1 = e.arms.length ∧ (subsE e).2 = e.arms.length := by simp [subsE, h12]
      omega
    exact merge_grew_of nm ty cn va fi ih' e.name e.arms h1 on st1
  · rw [if_neg h12]
    by_cases h8 : e.kind = 8
    · rw [if_pos h8, if_pos h8]
      exact each_grew_of nm ty cn va fi (fun x hx => ih' x (List.mem_of_mem_drop hx)) on st1
    · rw [if_neg h8, if_neg h8]
      exact each_grew_of nm ty cn va fi ih' _ st1
theorem each_grew {l : List Ex} (hp : ∀ x ∈ l, ∀ y ∈ parts x, partE y = true) (on : List DCond) (st : NmSt) : grewN st (eachN nm ty cn va fi l on st).2 (frL l) := each_grew_of nm ty cn va fi (fun x hx => plain_grew nm ty cn va fi x (hp x hx)) on st
end
theorem frL_le {l : List Ex} (h : ∀ x ∈ l, 2 * gN x + 1 ≤ 3 * (parts x).length) : 2 * frL l + l.length ≤ 3 * (partsL l).length := by
  induction l with
  | nil => simp [frL, partsL]
  | cons x l ih =>
    have h1 := h x List.mem_cons_self
    have h2 := ih fun y hy => h y (List.mem_cons_of_mem _ hy)
    rw [frL_cons, partsL, List.length_append, List.length_cons]
    omega
theorem frL_drop (l : List Ex) : frL (l.drop 1) ≤ frL l := by
  cases l with
  | nil => simp
  | cons x l => rw [frL_cons]; simp
theorem gN_le (e : Ex) : (∀ y ∈ parts e, partE y = true) → 2 * gN e + 1 ≤ 3 * (parts e).length ∧ (leafK e.kind = false → 2 * frN e + 3 ≤ 3 * (parts e).length) := by
  induction e using Ex.ind with
  | _ e ih =>
  intro hp
  have hL := frL_le (l := e.subs) fun x hx => (ih x hx (sub_ok hp hx)).1
  have hpl : (parts e).length = (partsL e.subs).length + 1 := parts_lenC e
  have hd := frL_drop e.subs
  have h9 : e.kind = 9 → e.subs.length = 2 := fun h => by
    obtain ⟨_, hlo, hhi, _⟩ := part_facts (hp e (self_parts e))
    have : (subsE e).1 = 2 ∧ (subsE e).2 = 2 := by simp [subsE, h]
    omega
  have hfr : 2 * frN e + 3 ≤ 3 * (parts e).length := by
    rw [frN_eq]
    by_cases h : e.kind = 9
    · have := h9 h
      rw [if_pos h, if_neg (by omega)]
      omega
    · rw [if_neg h]
      split <;> omega
  refine ⟨?_, fun _ => hfr⟩
  unfold gN
  split <;> omega
end Go.Proofs.YtpamokpmlplopaaGreatDoor

namespace Go.Proofs.YtpamokpmlplopaaGreatDoor
open Go.Abs
set_option maxRecDepth 20000
set_option linter.unusedSimpArgs false
set_option linter.unusedVariables false
set_option maxHeartbeats 1000000
attribute [local irreducible] vc vcOps vcStep vcGuard prK hrK gK gsK brK callK ElemK SeqK BlockK ScopeK OpsK CallK LoopK LoopGo finPost ACall PCall PCallE BCall vqOps vqStep vqGuard qrK heK pcK gqK gqsK QOpsK qcallK DrawK
section
variable {α β : Type} {f : α → β} {l : List α} {m : List β} {i : Nat} {x : α} {y : β}
theorem mt_step (h : (l.take i).map f = m.take i) (hx : l[i]? = some x) (hy : m[i]? = some y) (e : f x = y) : (l.take (i + 1)).map f = m.take (i + 1) := by
  obtain ⟨hi, rfl⟩ := List.getElem?_eq_some_iff.1 hx
  obtain ⟨hj, rfl⟩ := List.getElem?_eq_some_iff.1 hy
  rw [List.take_succ_eq_append_getElem hi, List.take_succ_eq_append_getElem hj, List.map_append, h, ← e]
  rfl
theorem mt_no (hx : l[i]? = some x) (hy : m[i]? = some y) (e : ¬ f x = y) : eqB (l.map f) m = false := by
  refine eqB_ne fun h => e ?_
  rw [← h, List.getElem?_map, hx] at hy
  exact Option.some.inj hy
theorem mt_len (h : ¬ (l.length : Int) = (m.length : Int)) : eqB (l.map f) m = false := eqB_ne fun e => h (by rw [← e, List.length_map])
theorem mt_yes (h : (l.take i).map f = m.take i) (hl : (l.length : Int) = (m.length : Int)) (hi : l.length ≤ i) : eqB (l.map f) m = true := by
  rw [List.take_of_length_le hi, List.take_of_length_le (by omega)] at h
  exact eqB_eq h
end

theorem eqST {l : List ByteArray} {m : List DTy} {f : ByteArray → DTy} {g : Nat} {first capt : List AV} {h : List Blk} {K : AV → List Blk → Prop}
    (hp : ∀ x ∈ l, ∀ y ∈ m, ∀ (r : List Blk) (K : AV → List Blk → Prop), K (.b (decide (f x = y))) (h ++ r) → ACall Tryz.prog g (first ++ AV.s x :: DTy.enc y :: capt) (h ++ r) K)
    (hK : K (.b (eqB (l.map f) m)) h) : ACall Tryz.prog 249 [.lst 1 (l.map AV.s) none, .lst 3 (m.map DTy.enc) none, .fn (.func g) first capt] h K := by
  refine acall_of_vc tabOK Tryz.func249 (by kernel_rfl) rfl (n := 32) rfl (rs := [.tmp 6]) rfl ?_
  simp only [go_sem]
  intro _ _
  refine brK_dec (fun hne => ?_) (fun heq => ?_)
  · rw [mt_len (f := f) (l := l) (m := m) (by omega)] at hK
    simp only [go_sem]
    exact finH1 rfl (.raw _) hK
  have hlm : (l.length : Int) = m.length := by omega
  simp only [go_sem]
  intro _
  refine loop_frX [6, 7, 8, 9, 17, 18, 19, 20, 21, 22, 23, 24, 25, 26, 27, 28, 29, 30, 31] (fun n C => ∃ i : Nat, i ≤ l.length ∧ n = l.length - i ∧ (l.take i).map f = m.take i ∧ C = [(17, .raw (.int .i64 (i : Nat)))]) l.length _ ⟨0, by omega, by omega, rfl, rfl⟩ (.cons rfl .nil) ?_
  rintro n C ja r ⟨i, hi, rfl, hp0, rfl⟩
  simp only [go_sem]
  refine brK_dec (fun hlt => ?_) (fun hge => ?_)
  · obtain ⟨x, hx⟩ : ∃ x, l[i]? = some x := ⟨_, List.getElem?_eq_getElem (by omega)⟩
    obtain ⟨y, hy⟩ : ∃ y, m[i]? = some y := ⟨_, List.getElem?_eq_getElem (by omega)⟩
    simp only [go_sem]
    refine elemHave (x := x) (by omega) (by simpa using hx) ?_
    simp only [go_sem]
    refine elemHave (x := y) (by omega) (by simpa using hy) ?_
    simp only [go_sem]
    refine hp x (List.mem_of_getElem? hx) y (List.mem_of_getElem? hy) _ _ ?_
    simp only [go_sem]
    refine brK_dec (fun he => ?_) (fun he => ?_)
    · rw [mt_no hx hy he] at hK
      simp only [go_sem]
      exact finH0 _ rfl (.raw _) hK
    · simp only [go_sem]
      exact loopFrX _ (by omega) _ ⟨i + 1, by omega, rfl, mt_step hp0 hx hy (Classical.not_not.1 he), rfl⟩ (.next rfl (by omega) .nil) rfl (by first | rfl | (simp only [List.append_assoc, List.cons_append, List.nil_append]; rfl))
  · rw [mt_yes hp0 hlm (by omega)] at hK
    simp only [go_sem]
    exact finH0 _ rfl (.raw _) hK
abbrev plB (p : DProg) (n : DNode) : Blk := .cells 204 [.lst 2 (p.Enums.map DEnum.enc) none, .lst 5 (p.Nodes.map DNode.enc) none, .s n.Name, .lst 6 (n.Ins.map DDecl.enc) none, .lst 6 (n.Outs.map DDecl.enc) none, .lst 6 (n.Vars.map DDecl.enc) none, .lst 7 (n.Eqs.map DEq.enc) none]

theorem eqC (p : DProg) (n : DNode) (hl : (allV n).length ≤ 60) (x : ByteArray) (y : DTy) (r : List Blk) {K : AV → List Blk → Prop} (hK : K (.b (decide ((decl n x).1.Ty = y))) (plB p n :: r)) : ACall Tryz.prog 248 [.s x, y.enc, .ptr 0 0] (plB p n :: r) K := by
  refine acall_of_vc tabOK Tryz.func248 (by kernel_rfl) rfl (n := 19) rfl (rs := [.tmp 5]) rfl ?_
  simp only [go_sem]
  refine PCall.call (decl25 n x (by omega)) ?_
  generalize decl n x = q at hK
  obtain ⟨d, ok⟩ := q
  simp only [go_sem]
  exact finH0 (h := plB p n :: r) _ rfl (.raw _) hK
abbrev toldA (q : List DTy × Bool) : AV := .tup [.lst 3 (q.1.map DTy.enc) none, .b q.2]
theorem pure_toldA (q : List DTy × Bool) : Go.Abs.Pure (toldA q) := .tup _ (pure_cons (DTy.pures _) (pure_cons (.raw _) pure_nil))
theorem finTk2 {T : TypeId → TI} {rs : List ResultVar} {s : List AV} {h : List Blk} {q : List DTy × Bool} {ts : List AV} {k : Option Nat} {ok : Bool} (hr : resAV T s h rs = some [.lst 3 ts k, .b ok]) (h1 : ts = q.1.map DTy.enc) (h2 : ok = q.2) : Go.Abs.Fin T rs (toldA q) s h := by
  subst h1 h2
  refine ⟨_, hr, false, Weak.tups ⟨?_, .refl _, trivial⟩⟩
  cases k
  · exact .refl _
  · exact .tok _ _ _
theorem finT0 {T : TypeId → TI} {rs : List ResultVar} {s : List AV} {h : List Blk} {q : List DTy × Bool} {ok : Bool} (hr : resAV T s h rs = some [.raw (.slice none 0 0), .b ok]) (hq : q = ([], ok)) : Go.Abs.Fin T rs (toldA q) s h := by
  subst hq
  exact ⟨_, hr, false, Weak.tups ⟨.nil _, .refl _, trivial⟩⟩
theorem callT_mem (p : DProg) (e : Ex) (ts : List DTy) : (callT p e ts).1 ∈ p.Nodes ∨ (callT p e ts).1 = nodeD := by
  unfold callT
  split
  · exact .inr rfl
  · rename_i h
    split
    · exact .inr rfl
    · obtain ⟨m, hm⟩ := find_at h
      rw [hm]
      exact .inl (List.mem_of_getElem? hm)

theorem toldC (p : DProg) (hN : ∀ m ∈ p.Nodes, m.Outs.length ≤ 1000) (n : DNode) (ho : tyOK p n) (e : Ex) (hp : ∀ y ∈ parts e, partE y = true) (hok : okE e) : PCall Tryz.prog 247 [plE p n, e.enc] (toldA (toldP p n e)) := by
  have hsl := subs_le hok
  obtain ⟨hk, hlo, hhi, ha11, ha12, hn13⟩ := part_facts (hp e (self_parts e))
  refine pcall_of_vc tabOK Tryz.func247 (by kernel_rfl) rfl (pure_cons (pure_plE p n) (pure_cons (pure_enc e) pure_nil)) (pure_toldA _) (n := 56) rfl (rs := [.tmp 4, .tmp 5]) rfl ?_
  unfold toldP
  by_cases h13 : e.kind = 13
  · rw [if_pos h13]
    have hsub := subsP p n e hsl (fun x hx => ofP p n ho x (sub_ok hp hx) (sub_okE hok hx))
    have hlen : ∀ ts, allS (ofL p n e.subs) = some ts → ts.length = e.subs.length := fun ts h => by rw [allS_len h, ofL_map, List.length_map]
    generalize allS (ofL p n e.subs) = S at hsub hlen
    cases S with
    | none =>
      have hsub : PCall Tryz.prog 221 [plE p n, e.enc] (.tup [.lst 3 [] none, .b false]) := hsub
      simp only [go_sem]
      refine brK_dec (fun hz => absurd h13 hz) (fun _ => ?_)
      simp only [go_sem]
      refine PCall.call hsub ?_
      simp only [go_sem]
      exact finT0 rfl rfl
    | some ts =>
      have hl := hlen ts rfl
      have hsub : PCall Tryz.prog 221 [plE p n, e.enc] (.tup [.lst 3 (ts.map DTy.enc) none, .b true]) := hsub
      have h1 : (subsE e).1 = e.n := by simp [subsE, h13]
      have hc := callP p n e ts (hn13 h13) (by omega)
      have hmo : (callT p e ts).1.Outs.length ≤ 1000 := by
        rcases callT_mem p e ts with h | h
        · exact hN _ h
        · rw [h]; simp [nodeD]
      generalize hc' : callT p e ts = q at hc hmo
      obtain ⟨m, ok⟩ := q
      dsimp only at hmo
      simp only [go_sem]
      refine brK_dec (fun hz => absurd h13 hz) (fun _ => ?_)
      simp only [go_sem]
      refine PCall.call hsub ?_
      simp only [go_sem]
      refine PCall.call hc ?_
      simp only [go_sem]
      intro _
      refine loop_ghost (ghost_tok 11 42 3 rfl) ?_
      refine loop_fr [11, 13, 44, 45, 46, 47, 48, 49, 50, 51, 52, 53] (fun n_ C hh => ∃ (i : Nat) (r : List Blk), i ≤ m.Outs.length ∧ n_ = m.Outs.length - i ∧ C = [(44, .raw (.int .i64 (i : Nat))), (11, .lst 3 (((m.Outs.take i).map DDecl.Ty).map DTy.enc) (some 3))] ∧
        hh = plB p n :: .cells 72 [.i e.kind, .i e.n, .s e.name, .i e.op, .lst 1 (e.arms.map AV.s) none, .lst 6 (e.subs.map Ex.enc) none] :: nodeB m :: .tok 42 3 i :: r) m.Outs.length _ ⟨0, [], by omega, by omega, rfl, rfl⟩ (.cons rfl (.cons rfl .nil)) ?_
      rintro n_ C ja hh ⟨i, r, hi, rfl, rfl, rfl⟩
      simp only [go_sem]
      refine brK_dec (fun hlt => ?_) (fun hge => ?_)
      · obtain ⟨d, hd⟩ : ∃ d, m.Outs[i]? = some d := ⟨_, List.getElem?_eq_getElem (by omega)⟩
        simp only [go_sem]
        refine elemHave (x := d) (by omega) (by simpa using hd) ?_
        simp only [go_sem]
        have hti : (m.Outs.take i).length = i := by rw [List.length_take]; omega
        refine ⟨by omega, ?_⟩
        exact loopFr _ (by omega) ⟨i + 1, _, by omega, rfl, rfl, by rw [hti]⟩ (.next rfl (by omega) (.cons (by rw [take_mapS (f := DDecl.Ty) (by simpa using hd)]; simp [DTy.enc_eq]) .nil)) rfl
      · simp only [go_sem]
        rw [List.take_of_length_le (by omega)]
        exact finTk2 rfl (by rw [hc']) (by rw [hc'])
  · rw [if_neg h13]
    have hc := ofP p n ho e hp hok
    unfold OfC at hc
    generalize headP p n e (ofL p n e.subs) = q at hc
    obtain ⟨t, ok⟩ := q
    simp only [go_sem]
    refine brK_dec (fun _ => ?_) (fun hz => absurd h13 (by omega))
    simp only [go_sem]
    refine PCall.call hc ?_
    simp only [go_sem]
    exact finTk2 rfl (by simp [DTy.enc_eq]) rfl

theorem eqP (p : DProg) (hN : ∀ m ∈ p.Nodes, m.Outs.length ≤ 1000) (n : DNode) (ho : tyOK p n) (q : DEq) (hp : ∀ y ∈ parts q.E, partE y = true) (hok : okE q.E) : PCall Tryz.prog 198 [plE p n, q.enc] (.b (eqTy p n q)) := by
  refine pcall_of_vc tabOK Tryz.func198 (by kernel_rfl) rfl (pure_cons (pure_plE p n) (pure_cons (DEq.pure _) pure_nil)) (.raw _) (n := 24) rfl (rs := [.tmp 4]) rfl ?_
  have ht := toldC p hN n ho q.E hp hok
  unfold eqTy
  generalize toldP p n q.E = t at ht
  obtain ⟨ts, ok⟩ := t
  simp only [go_sem]
  refine PCall.call ht ?_
  simp only [go_sem]
  cases ok
  · simp only [go_sem]
    exact finBq rfl rfl
  · simp only [go_sem]
    refine eqST (f := fun s => (decl n s).1.Ty) (fun x hx y hy r K hK => ?_) ?_
    · exact eqC p n ho.1 x y _ hK
    · simp only [go_sem]
      exact finBq rfl rfl
end Go.Proofs.YtpamokpmlplopaaGreatDoor

namespace Go.Proofs.YtpamokpmlplopaaGreatDoor
open Go.Abs
set_option maxRecDepth 20000
set_option linter.unusedSimpArgs false
set_option linter.unusedVariables false
set_option maxHeartbeats 1000000
attribute [local irreducible] vc vcOps vcStep vcGuard prK hrK gK gsK brK callK ElemK SeqK BlockK ScopeK OpsK CallK LoopK LoopGo finPost ACall PCall PCallE BCall vqOps vqStep vqGuard qrK heK pcK gqK gqsK QOpsK qcallK DrawK
theorem nodeTy_clk {p : DProg} {a : Nat} {n : DNode} {d : DDecl} (h : d ∈ allV n) (hc : clkTy p n d = false) : nodeTy p a n = ⟨(a : Int), -1, 7⟩ := by
  unfold nodeTy
  rw [List.all_eq_false.2 ⟨d, h, by rw [hc]; simp⟩, if_neg (by simp)]
theorem nodeTy_eqs {p : DProg} {a : Nat} {n : DNode} (h : ∀ d ∈ allV n, clkTy p n d = true) : nodeTy p a n = firstE (a : Int) 7 (fun _ q => eqTy p n q) 0 n.Eqs := by
  unfold nodeTy
  rw [if_pos (List.all_eq_true.2 h)]
theorem clkTy_no {p : DProg} {n : DNode} {d : DDecl} (h : d.On = ⟨#[]⟩) : clkTy p n d = true := by unfold clkTy; rw [decide_eq_true h]; rfl
theorem clkTy_w {p : DProg} {n : DNode} {d : DDecl} {b : Bool} (h : ¬ d.On = ⟨#[]⟩) (hw : whenT p n d.On d.Ctor = b) : clkTy p n d = b := by unfold clkTy; rw [decide_eq_false h, hw]; rfl

theorem checkTy (p : DProg) (hN : ∀ m ∈ p.Nodes, m.Outs.length ≤ 1000) (j : Nat) (n : DNode) (hn : okNode n) (ho : tyOK p n) (hr : ∀ q ∈ n.Eqs, rightE q.E = true) : PCall Tryz.prog 156 [plE p n, .i (j : Int)] (nodeTy p j n).enc := by
  refine pcall_of_vc tabOK Tryz.func156 (by kernel_rfl) rfl (pure_cons (pure_plE p n) (pure_cons (.raw _) pure_nil)) (DFault.pure _) (n := 58) rfl (rs := [.cell 4 61]) rfl ?_
  have hl := ho.1
  have hA : [n.Ins, n.Outs, n.Vars].flatten = allV n := by simp [allV]
  have he4 := hn.2.2.2.1
  simp only [go_sem]
  refine PCall.callW (concatD [n.Ins, n.Outs, n.Vars] (by show ([n.Ins, n.Outs, n.Vars].flatten).length ≤ _; rw [hA]; omega)) ⟨.tok _ _ _, trivial⟩ ?_
  rw [hA]
  simp only [go_sem]
  intro _
  refine loop_frX [6, 21, 22, 23, 24, 25, 26, 27, 28, 29, 30, 31, 32, 33, 34, 35, 36, 37, 38, 39] (fun m C => ∃ i : Nat, i ≤ (allV n).length ∧ m = (allV n).length - i ∧ (∀ d ∈ (allV n).take i, clkTy p n d = true) ∧ C = [(21, .raw (.int .i64 (i : Nat)))]) (allV n).length _ ⟨0, by omega, by omega, by simp, rfl⟩ (.cons rfl .nil) ?_
  rintro m C ja r ⟨i, hi, rfl, hp0, rfl⟩
  simp only [go_sem]
  refine brK_dec (fun hlt => ?_) (fun hge => ?_)
  · obtain ⟨d, hd⟩ : ∃ d, (allV n)[i]? = some d := ⟨_, List.getElem?_eq_getElem (by omega)⟩
    simp only [go_sem]
    refine elemHave (x := d) (by omega) (by simpa using hd) ?_
    simp only [go_sem]
    by_cases hO : d.On = ⟨#[]⟩
    · rw [hO]
      repeat' first
        | simp only [go_sem]
        | refine gqK_dec (fun h => absurd rfl h) (fun _ => ?_)
        | refine gK_dec (fun h => absurd rfl h) (fun _ => ?_)
        | refine brK_dec (fun h => absurd rfl h) (fun _ => ?_)
        | exact loopFrX _ (by omega) _ ⟨i + 1, by omega, rfl, take_all hp0 hd (clkTy_no hO), rfl⟩ (.next rfl (by omega) .nil) rfl (by first | rfl | (simp only [List.append_assoc, List.cons_append, List.nil_append]; rfl))
    · have hw := whenP p n hl d.On d.Ctor
      generalize hwb : whenT p n d.On d.Ctor = b at hw
      have hck := clkTy_w hO hwb
      cases b
      all_goals
        repeat' first
          | simp only [go_sem]
          | refine gqK_dec (fun _ => ?_) (fun h => absurd hO h)
          | refine gK_dec (fun _ => ?_) (fun h => absurd hO h)
          | refine gK_dec (fun _ => ?_) (fun h => absurd (Classical.not_not.1 h) hO)
          | (refine PCall.call hw ?_)
          | (rw [nodeTy_clk (List.mem_of_getElem? hd) hck]; exact ⟨_, rfl, false, by rw [DFault.enc_eq]; exact .refl _⟩)
          | exact loopFrX _ (by omega) _ ⟨i + 1, by omega, rfl, take_all hp0 hd hck, rfl⟩ (.next rfl (by omega) .nil) rfl (by first | rfl | (simp only [List.append_assoc, List.cons_append, List.nil_append]; rfl))
  · rw [nodeTy_eqs (take_full hp0 (by omega))]
    generalize hE : firstE (j : Int) 7 (fun _ q => eqTy p n q) 0 n.Eqs = E
    simp only [go_sem]
    intro _
    refine loop_frX [7, 8, 44, 45, 46, 47, 48, 49, 50, 51, 52, 53, 54, 55, 56] (fun m C => ∃ i : Nat, i ≤ n.Eqs.length ∧ m = n.Eqs.length - i ∧ firstE (j : Int) 7 (fun _ q => eqTy p n q) i (n.Eqs.drop i) = E ∧ C = [(44, .raw (.int .i64 (i : Nat)))]) n.Eqs.length _ ⟨0, by omega, by omega, hE, rfl⟩ (.cons rfl .nil) ?_
    rintro m C jb r2 ⟨i2, hi2, rfl, hE', rfl⟩
    simp only [go_sem]
    refine brK_dec (fun hlt => ?_) (fun hge2 => ?_)
    · obtain ⟨q, hq⟩ : ∃ q, n.Eqs[i2]? = some q := ⟨_, List.getElem?_eq_getElem (by omega)⟩
      have hqm := List.mem_of_getElem? hq
      simp only [go_sem]
      refine elemHave (x := q) (by omega) (by simpa using hq) ?_
      simp only [go_sem]
      refine PCall.call (eqP p hN n ho q (right_parts (hr q hqm)) (hn.2.2.2.2.2 q hqm).2.1) ?_
      generalize hb : eqTy p n q = b
      cases b
      · have hE1 := firstE_at hE' hq hb
        rw [hE1]
        simp only [go_sem]
        exact ⟨_, rfl, false, by rw [DFault.enc_eq]; exact .refl _⟩
      · have hE1 := firstE_next hE' hq hb
        simp only [go_sem]
        exact loopFrX _ (by omega) _ ⟨i2 + 1, by omega, rfl, hE1, rfl⟩ (.next rfl (by omega) .nil) rfl (by first | rfl | (simp only [List.append_assoc, List.cons_append, List.nil_append]; rfl))
    · have h0 := firstE_0 hE' (by omega)
      subst h0
      simp only [go_sem]
      exact ⟨_, rfl, false, by rw [DFault.enc_eq]; exact .refl _⟩
theorem outs_le {p : DProg} (hp : okProg p) : ∀ m ∈ p.Nodes, m.Outs.length ≤ 1000 := fun m hm => by
  have := (hp.2.2 m hm).2.1.1
  omega

theorem typesCheck (p : DProg) (hp : okProg p) : PCall Tryz.prog 120 [p.enc] (typesF p).enc := by
  refine pcall_of_vc tabOK Tryz.func120 (by kernel_rfl) rfl (by first | exact pureL | exact pureI) (by first | exact pureL | exact pureI) (n := 32) rfl (rs := [.cell 2 61]) rfl ?_
  have hp6 := hp.2.1
  unfold typesF
  simp only [go_sem]
  refine PCall.call (scopeCheck p hp) ?_
  have hz := scope_zero (p := p)
  generalize scopeF p = F at hz
  rw [show F.enc = .agg [.i F.Node, .i F.Eq, .i F.Err] from DFault.enc_eq _]
  simp only [go_sem]
  refine brK_dec (fun h0 => ?_) (fun h0 => ?_)
  · rw [if_neg h0]
    simp only [go_sem]
    exact ⟨_, rfl, false, by rw [DFault.enc_eq]; exact .refl _⟩
  have h0 : F.Err = 0 := Classical.not_not.1 h0
  rw [if_pos h0]
  obtain ⟨_, hc0, _⟩ := hz h0
  generalize hE : firstF (nodeTy p) 0 p.Nodes = E
  simp only [go_sem]
  intro _
  refine loop_frX [4, 5, 6, 16, 17, 18, 19, 20, 21, 22, 23, 24, 25, 26, 27, 28, 29, 30] (fun m C => ∃ i : Nat, i ≤ p.Nodes.length ∧ m = p.Nodes.length - i ∧ firstF (nodeTy p) i (p.Nodes.drop i) = E ∧ C = [(16, .raw (.int .i64 (i : Nat)))]) p.Nodes.length _ ⟨0, by omega, by omega, hE, rfl⟩ (.cons rfl .nil) ?_
  rintro m C ja r ⟨i, hi, rfl, hE', rfl⟩
  simp only [go_sem]
  refine brK_dec (fun hlt => ?_) (fun hge => ?_)
  · obtain ⟨n, hj⟩ : ∃ n, p.Nodes[i]? = some n := ⟨_, List.getElem?_eq_getElem (by omega)⟩
    have hnm := List.mem_of_getElem? hj
    simp only [go_sem]
    refine elemHave (x := n) (by omega) (by simpa using hj) ?_
    simp only [go_sem]
    refine PCall.call (checkTy p (outs_le hp) i n (hp.2.2 n hnm) (tyOK_of hp hc0 n hnm) (fun q hq => (eqs_right hc0 hnm hq).2)) ?_
    by_cases hF : (nodeTy p i n).Err = 0
    · have hE1 := first_next hE' hj hF
      rw [(nodeTy_zero hF).1, DFault.enc_eq]
      simp only [go_sem]
      exact loopFrX _ (by omega) _ ⟨i + 1, by omega, rfl, hE1, rfl⟩ (.next rfl (by omega) .nil) rfl (by first | rfl | (simp only [List.append_assoc, List.cons_append, List.nil_append]; rfl))
    · have hE1 := first_at hE' hj hF
      rw [hE1]
      generalize nodeTy p i n = G at hF
      rw [DFault.enc_eq]
      simp only [go_sem]
      refine brK_dec (fun _ => ?_) (fun hq => absurd hF hq)
      simp only [go_sem]
      exact ⟨_, rfl, false, by rw [DFault.enc_eq]; exact .refl _⟩
  · have h1 := first_0 hE' (by omega)
    subst h1
    simp only [go_sem]
    exact ⟨_, rfl, false, by rw [DFault.enc_eq]; exact .refl _⟩
theorem names_any {L : List DEnum} {n : DNode} {l : List ByteArray} {row : List DCond} (hr : ∀ s ∈ l, (rowN L n s).2 = true) : (l.any fun x => !((rowN L n x).2 && eqB (rowN L n x).1 row)) = !(l.all fun s => eqB (rowN L n s).1 row) := by
  induction l with
  | nil => rfl
  | cons x l ih =>
    rw [List.any_cons, List.all_cons, ih (fun s hs => hr s (List.mem_cons_of_mem _ hs)), hr x List.mem_cons_self, Bool.true_and, Bool.not_and]
theorem headD_at0 {l : List ByteArray} {s : ByteArray} (h : l[0]? = some s) : l.headD ⟨#[]⟩ = s := by
  match l with
  | y :: l => simp at h; rw [h]; rfl
abbrev placeBk (p : DProg) (k : Nat) : Blk := .cells 169 [.lst 2 (p.Enums.map DEnum.enc) none, .lst 5 (p.Nodes.map DNode.enc) none, .i k]

theorem eqCk1 (p : DProg) (k : Nat) (n : DNode) (hn : p.Nodes[k]? = some n) (hl : (allV n).length ≤ 4294967296) (x : ByteArray) (row : List DCond) (b1 : Blk) (r : List Blk) {K : AV → List Blk → Prop} (hK : K (.b (!((rowN p.Enums n x).2 && eqB (rowN p.Enums n x).1 row))) (placeBk p k :: b1 :: .cells 43 [.lst 2 (row.map DCond.enc) none] :: r)) :
    ACall Tryz.prog 200 [.s x, .ptr 0 0, .ptr 2 0] (placeBk p k :: b1 :: .cells 43 [.lst 2 (row.map DCond.enc) none] :: r) K := by
  refine acall_of_vc tabOK Tryz.func200 (by kernel_rfl) rfl (n := 10) rfl (rs := [.tmp 4]) rfl ?_
  simp only [go_sem]
  refine PCall.call (on129 p k n hn hl x row) ?_
  simp only [go_sem]
  exact finH1 rfl (.raw _) hK

theorem eqCkP (p : DProg) (k : Nat) (n : DNode) (hn : p.Nodes[k]? = some n) (hl : (allV n).length ≤ 4294967296) (q : DEq) (h0 : 0 < q.Names.length) (hr : ∀ s ∈ q.Names, (rowN p.Enums n s).2 = true) (hb : (parts q.E).length ≤ 200) : PCall Tryz.prog 158 [placeE p k, q.enc] (.b (eqCk p.Enums n q)) := by
  refine pcall_of_vc tabOK Tryz.func158 (by kernel_rfl) rfl (pure_cons (pure_place p k) (pure_cons (DEq.pure _) pure_nil)) (.raw _) (n := 28) rfl (rs := [.tmp 4]) rfl ?_
  obtain ⟨s0, hs0⟩ : ∃ s, q.Names[0]? = some s := ⟨_, List.getElem?_eq_getElem (by omega)⟩
  unfold eqCk
  rw [headD_at0 hs0]
  have hR := row90 p k n hn s0 hl
  have hr0 := hr s0 (List.mem_of_getElem? hs0)
  have hlen := rowN_len p.Enums n s0
  generalize rowN p.Enums n s0 = R at hR hr0 hlen
  obtain ⟨row, ok⟩ := R
  dsimp only at hr0 hlen
  subst hr0
  dsimp only
  have hany := names_any (row := row) hr
  simp only [go_sem]
  refine drawK mo (by kernel_rfl) ?_
  simp only [go_sem]
  refine elemHave (x := s0) (by omega) (by simpa using hs0) ?_
  simp only [go_sem]
  refine pcK_of hR ?_
  simp only [go_sem]
  refine contains106 (p := fun x => !((rowN p.Enums n x).2 && eqB (rowN p.Enums n x).1 row)) (fun x hx K hK => eqCk1 p k n hn hl x row _ _ hK) ?_
  rw [hany]
  generalize (q.Names.all fun s => eqB (rowN p.Enums n s).1 row) = b
  cases b
  · simp only [go_sem]
    exact finBq rfl rfl
  · simp only [go_sem]
    refine PCall.call (fits92 p k n hn hl q.E row (by omega)) ?_
    simp only [go_sem]
    exact finBq rfl (by simp)
theorem nodeCk_row {p : DProg} {a : Nat} {n : DNode} {d : DDecl} (h : d ∈ allV n) (hc : (rowN p.Enums n d.Name).2 = false) : nodeCk p a n = ⟨(a : Int), -1, 8⟩ := by
  unfold nodeCk rowsOk
  rw [List.all_eq_false.2 ⟨d, h, by rw [hc]; simp⟩, if_neg (by simp)]
theorem rowsOk_of {L : List DEnum} {n : DNode} (h : ∀ d ∈ allV n, (rowN L n d.Name).2 = true) : rowsOk L n = true := List.all_eq_true.2 h
theorem nodeCk_eqs {p : DProg} {a : Nat} {n : DNode} (h : rowsOk p.Enums n = true) : nodeCk p a n = firstE (a : Int) 8 (fun _ q => eqCk p.Enums n q) 0 n.Eqs := by
  unfold nodeCk
  rw [if_pos h]

theorem checkCk (p : DProg) (k : Nat) (n : DNode) (hk : p.Nodes[k]? = some n) (hn : okNode n) (hl : (allV n).length ≤ 60) (hq1 : ∀ q ∈ n.Eqs, 0 < q.Names.length ∧ ∀ s ∈ q.Names, isF n s = true) : PCall Tryz.prog 121 [placeE p k] (nodeCk p k n).enc := by
  refine pcall_of_vc tabOK Tryz.func121 (by kernel_rfl) rfl (pure_cons (pure_place p k) pure_nil) (DFault.pure _) (n := 62) rfl (rs := [.cell 2 61]) rfl ?_
  have hA : [n.Ins, n.Outs, n.Vars].flatten = allV n := by simp [allV]
  have he4 := hn.2.2.2.1
  simp only [go_sem]
  refine elemHave (x := n) (by omega) (by simpa using hk) ?_
  simp only [go_sem]
  refine PCall.callW (concatD [n.Ins, n.Outs, n.Vars] (by show ([n.Ins, n.Outs, n.Vars].flatten).length ≤ _; rw [hA]; omega)) ⟨.tok _ _ _, trivial⟩ ?_
  rw [hA]
  simp only [go_sem]
  intro _
  refine loop_frX [6, 7, 8, 30, 31, 32, 33, 34, 35, 36, 37, 38, 39, 40, 41, 42, 43, 44] (fun m C => ∃ i : Nat, i ≤ (allV n).length ∧ m = (allV n).length - i ∧ (∀ d ∈ (allV n).take i, (rowN p.Enums n d.Name).2 = true) ∧ C = [(30, .raw (.int .i64 (i : Nat)))]) (allV n).length _ ⟨0, by omega, by omega, by simp, rfl⟩ (.cons rfl .nil) ?_
  rintro m C ja r ⟨i, hi, rfl, hp0, rfl⟩
  simp only [go_sem]
  refine brK_dec (fun hlt => ?_) (fun hge => ?_)
  · obtain ⟨d, hd⟩ : ∃ d, (allV n)[i]? = some d := ⟨_, List.getElem?_eq_getElem (by omega)⟩
    have hR := row90 p k n hk d.Name (by omega)
    have hst := take_all hp0 hd
    have hno := nodeCk_row (p := p) (a := k) (n := n) (List.mem_of_getElem? hd)
    generalize hq : rowN p.Enums n d.Name = R at hR hst hno
    obtain ⟨row, ok⟩ := R
    simp only [go_sem]
    refine elemHave (x := d) (by omega) (by simpa using hd) ?_
    simp only [go_sem]
    refine PCall.call hR ?_
    cases ok
    · rw [hno rfl]
      simp only [go_sem]
      exact ⟨_, rfl, false, by rw [DFault.enc_eq]; exact .refl _⟩
    · simp only [go_sem]
      exact loopFrX _ (by omega) _ ⟨i + 1, by omega, rfl, hst rfl, rfl⟩ (.next rfl (by omega) .nil) rfl (by first | rfl | (simp only [List.append_assoc, List.cons_append, List.nil_append]; rfl))
  · have hrk := rowsOk_of (take_full hp0 (by omega))
    rw [nodeCk_eqs hrk]
    generalize hE : firstE (k : Int) 8 (fun _ q => eqCk p.Enums n q) 0 n.Eqs = E
    simp only [go_sem]
    intro _
    refine loop_frX [9, 10, 48, 49, 50, 51, 52, 53, 54, 55, 56, 57, 58, 59, 60] (fun m C => ∃ i : Nat, i ≤ n.Eqs.length ∧ m = n.Eqs.length - i ∧ firstE (k : Int) 8 (fun _ q => eqCk p.Enums n q) i (n.Eqs.drop i) = E ∧ C = [(48, .raw (.int .i64 (i : Nat)))]) n.Eqs.length _ ⟨0, by omega, by omega, hE, rfl⟩ (.cons rfl .nil) ?_
    rintro m C jb r2 ⟨i2, hi2, rfl, hE', rfl⟩
    simp only [go_sem]
    refine brK_dec (fun hlt => ?_) (fun hge2 => ?_)
    · obtain ⟨q, hq⟩ : ∃ q, n.Eqs[i2]? = some q := ⟨_, List.getElem?_eq_getElem (by omega)⟩
      have hqm := List.mem_of_getElem? hq
      have hqo := hn.2.2.2.2.2 q hqm
      have hx := eqCkP p k n hk (by omega) q (hq1 q hqm).1 (fun s hs => row_is hrk ((hq1 q hqm).2 s hs)) hqo.2.1.1
      generalize hb : eqCk p.Enums n q = b at hx
      simp only [go_sem]
      refine elemHave (x := q) (by omega) (by simpa using hq) ?_
      simp only [go_sem]
      refine PCall.call hx ?_
      cases b
      · have hE1 := firstE_at hE' hq hb
        rw [hE1]
        simp only [go_sem]
        exact ⟨_, rfl, false, by rw [DFault.enc_eq]; exact .refl _⟩
      · have hE1 := firstE_next hE' hq hb
        simp only [go_sem]
        exact loopFrX _ (by omega) _ ⟨i2 + 1, by omega, rfl, hE1, rfl⟩ (.next rfl (by omega) .nil) rfl (by first | rfl | (simp only [List.append_assoc, List.cons_append, List.nil_append]; rfl))
    · have h0 := firstE_0 hE' (by omega)
      subst h0
      simp only [go_sem]
      exact ⟨_, rfl, false, by rw [DFault.enc_eq]; exact .refl _⟩
theorem names_good {p : DProg} (hF : (typesF p).Err = 0) {k : Nat} {n : DNode} (hk : p.Nodes[k]? = some n) : ∀ q ∈ n.Eqs, 0 < q.Names.length ∧ ∀ s ∈ q.Names, isF n s = true := by
  obtain ⟨_, hs, hc, _⟩ := types_zero hF
  have h0 := (scope_zero (p := p) (by rw [hs])).2.2 k n hk
  exact fun q hq => ⟨(eqs_right hc (List.mem_of_getElem? hk) hq).1, (node_is h0 q hq).1⟩

theorem clockCheck (p : DProg) (hp : okProg p) : PCall Tryz.prog 84 [p.enc] (clockF p).enc := by
  refine pcall_of_vc tabOK Tryz.func84 (by kernel_rfl) rfl (by first | exact pureL | exact pureI) (by first | exact pureL | exact pureI) (n := 28) rfl (rs := [.cell 2 61]) rfl ?_
  have hp6 := hp.2.1
  unfold clockF
  simp only [go_sem]
  refine PCall.call (typesCheck p hp) ?_
  have hz := types_zero (p := p)
  have hg := fun h => @names_good p h
  generalize typesF p = F at hz hg
  rw [show F.enc = .agg [.i F.Node, .i F.Eq, .i F.Err] from DFault.enc_eq _]
  simp only [go_sem]
  refine brK_dec (fun h0 => ?_) (fun h0 => ?_)
  · rw [if_neg h0]
    simp only [go_sem]
    exact ⟨_, rfl, false, by rw [DFault.enc_eq]; exact .refl _⟩
  have h0 : F.Err = 0 := Classical.not_not.1 h0
  rw [if_pos h0]
  obtain ⟨_, _, hc0, _⟩ := hz h0
  generalize hE : firstF (nodeCk p) 0 p.Nodes = E
  simp only [go_sem]
  intro _
  refine loop_frX [4, 5, 15, 16, 17, 18, 19, 20, 21, 22, 23, 24, 25, 26] (fun m C => ∃ i : Nat, i ≤ p.Nodes.length ∧ m = p.Nodes.length - i ∧ firstF (nodeCk p) i (p.Nodes.drop i) = E ∧ C = [(15, .raw (.int .i64 (i : Nat)))]) p.Nodes.length _ ⟨0, by omega, by omega, hE, rfl⟩ (.cons rfl .nil) ?_
  rintro m C ja r ⟨i, hi, rfl, hE', rfl⟩
  simp only [go_sem]
  refine brK_dec (fun hlt => ?_) (fun hge => ?_)
  · obtain ⟨n, hj⟩ : ∃ n, p.Nodes[i]? = some n := ⟨_, List.getElem?_eq_getElem (by omega)⟩
    have hnm := List.mem_of_getElem? hj
    simp only [go_sem]
    refine PCall.call (checkCk p i n hj (hp.2.2 n hnm) (tyOK_of hp hc0 n hnm).1 (hg h0 hj)) ?_
    by_cases hF : (nodeCk p i n).Err = 0
    · have hE1 := first_next hE' hj hF
      rw [(nodeCk_zero hF).1, DFault.enc_eq]
      simp only [go_sem]
      exact loopFrX _ (by omega) _ ⟨i + 1, by omega, rfl, hE1, rfl⟩ (.next rfl (by omega) .nil) rfl (by first | rfl | (simp only [List.append_assoc, List.cons_append, List.nil_append]; rfl))
    · have hE1 := first_at hE' hj hF
      rw [hE1]
      generalize nodeCk p i n = G at hF
      rw [DFault.enc_eq]
      simp only [go_sem]
      refine brK_dec (fun _ => ?_) (fun hq => absurd hF hq)
      simp only [go_sem]
      exact ⟨_, rfl, false, by rw [DFault.enc_eq]; exact .refl _⟩
  · have h1 := first_0 hE' (by omega)
    subst h1
    simp only [go_sem]
    exact ⟨_, rfl, false, by rw [DFault.enc_eq]; exact .refl _⟩

theorem pure_ns (l : List Nat) : Go.Abs.Pure (.lst 1 (l.map AV.n) none) := by rw [mapN]; exact pure_ints _

theorem indexN (l : List Nat) (k : Nat) : PCall Tryz.prog 125 [.lst 1 (l.map AV.n) none, .i (k : Int)] (.i (idxOf (fun x => decide (x = k)) l)) := by
  refine pcall_of_vc tabOK Tryz.func125 (by kernel_rfl) rfl (pure_cons (pure_ns l) (pure_cons (.raw _) pure_nil)) (.raw _) (n := 19) rfl (rs := [.tmp 4]) rfl ?_
  simp only [go_sem]
  intro _
  refine loop_frH [4, 5, 8, 9, 10, 11, 12, 13, 14, 15, 16, 17, 18] (fun m C => ∃ i : Nat, i ≤ l.length ∧ m = l.length - i ∧ (∀ x ∈ l.take i, decide (x = k) = false) ∧ C = [(8, .raw (.int .i64 (i : Nat)))]) l.length _ ⟨0, by omega, by omega, by simp, rfl⟩ (.cons rfl .nil) ?_
  rintro m C ja ⟨i, hi, rfl, hp0, rfl⟩
  simp only [go_sem]
  refine brK_dec (fun hlt => ?_) (fun hge => ?_)
  · obtain ⟨x, hx⟩ : ∃ x, l[i]? = some x := ⟨_, List.getElem?_eq_getElem (by omega)⟩
    simp only [go_sem]
    refine elemHave (x := x) (by omega) (by simpa using hx) ?_
    simp only [go_sem]
    refine brK_dec (fun he => ?_) (fun he => ?_)
    · rw [idxOf_at hp0 (by simpa using hx) (decide_eq_true (by omega))]
      simp only [go_sem]
      exact finIq rfl rfl
    · simp only [go_sem]
      exact loopFrH _ (by omega) ⟨i + 1, by omega, rfl, take_all hp0 hx (decide_eq_false (by omega)), rfl⟩ (.next rfl (by omega) .nil) rfl
  · rw [idxOf_none (take_full hp0 (by omega))]
    simp only [go_sem]
    exact finIq rfl rfl
theorem any_mem (l : List Nat) (k : Nat) : (l.any fun x => decide (x = k)) = decide (k ∈ l) := by
  rw [Bool.eq_iff_iff, List.any_eq_true]
  simp

theorem containsN (l : List Nat) (k : Nat) : PCall Tryz.prog 86 [.lst 1 (l.map AV.n) none, .i (k : Int)] (.b (decide (k ∈ l))) := by
  refine pcall_of_vc tabOK Tryz.func86 (by kernel_rfl) rfl (pure_cons (pure_ns l) (pure_cons (.raw _) pure_nil)) (.raw _) (n := 9) rfl (rs := [.tmp 4]) rfl ?_
  rw [← any_mem, ← idx_any]
  simp only [go_sem]
  refine PCall.call (indexN l k) ?_
  simp only [go_sem]
  exact finBq rfl rfl
theorem nodeCa_ok {a : Nat} {n : DNode} {lo : List Nat} (h : orderF (namesC n) (hangsC n) = (lo, true)) : nodeCa a n = ⟨0, 0, 0⟩ := by unfold nodeCa; rw [h, if_pos rfl]
theorem nodeCa_no {a : Nat} {n : DNode} {lo : List Nat} (h : orderF (namesC n) (hangsC n) = (lo, false)) : nodeCa a n = firstE (a : Int) 9 (fun k _ => decide (k ∈ lo)) 0 n.Eqs := by unfold nodeCa; rw [h, if_neg (by simp)]

theorem causeCheck (p : DProg) (hp : okProg p) : PCall Tryz.prog 56 [p.enc] (causeF p).enc := by
  refine pcall_of_vc tabOK Tryz.func56 (by kernel_rfl) rfl (by first | exact pureL | exact pureI) (by first | exact pureL | exact pureI) (n := 48) rfl (rs := [.cell 2 61]) rfl ?_
  have hp6 := hp.2.1
  unfold causeF
  simp only [go_sem]
  refine PCall.call (clockCheck p hp) ?_
  generalize clockF p = F
  rw [show F.enc = .agg [.i F.Node, .i F.Eq, .i F.Err] from DFault.enc_eq _]
  simp only [go_sem]
  refine brK_dec (fun h0 => ?_) (fun h0 => ?_)
  · rw [if_neg h0]
    simp only [go_sem]
    exact ⟨_, rfl, false, by rw [DFault.enc_eq]; exact .refl _⟩
  rw [if_pos (Classical.not_not.1 h0)]
  generalize hE : firstF nodeCa 0 p.Nodes = E
  simp only [go_sem]
  intro _
  refine loop_frX [4, 5, 6, 7, 8, 18, 19, 20, 21, 22, 23, 24, 25, 26, 27, 28, 29, 30, 31, 32, 33, 34, 35, 36, 37, 38, 39, 40, 41, 42, 43, 44, 45, 46] (fun m C => ∃ i : Nat, i ≤ p.Nodes.length ∧ m = p.Nodes.length - i ∧ firstF nodeCa i (p.Nodes.drop i) = E ∧ C = [(18, .raw (.int .i64 (i : Nat)))]) p.Nodes.length _ ⟨0, by omega, by omega, hE, rfl⟩ (.cons rfl .nil) ?_
  rintro m C ja r ⟨j, hi, rfl, hE', rfl⟩
  simp only [go_sem]
  refine brK_dec (fun hlt => ?_) (fun hge => ?_)
  · obtain ⟨n, hj⟩ : ∃ n, p.Nodes[j]? = some n := ⟨_, List.getElem?_eq_getElem (by omega)⟩
    have hnm := List.mem_of_getElem? hj
    have hn := hp.2.2 n hnm
    have he4 := hn.2.2.2.1
    have hO := order39 n (okNode_C hn)
    have hok := fun lo => @nodeCa_ok j n lo
    have hno := fun lo => @nodeCa_no j n lo
    generalize orderF (namesC n) (hangsC n) = R at hO hok hno
    obtain ⟨lo, ok⟩ := R
    simp only [go_sem]
    refine elemHave (x := n) (by omega) (by simpa using hj) ?_
    simp only [go_sem]
    refine PCall.call hO ?_
    simp only [go_sem]
    cases ok
    · replace hno := hno lo rfl
      generalize hG : nodeCa j n = G at hno
      refine loop_frX [8, 28, 29, 30, 31, 32, 33, 34, 35, 36, 37, 38, 39, 40, 41, 42, 43, 44, 45] (fun m C => ∃ i : Nat, i ≤ n.Eqs.length ∧ m = n.Eqs.length - i ∧ firstE (j : Int) 9 (fun k _ => decide (k ∈ lo)) i (n.Eqs.drop i) = G ∧ C = [(8, .raw (.int .i64 (i : Nat)))]) n.Eqs.length _ ⟨0, by omega, by omega, hno.symm, rfl⟩ (.cons rfl .nil) ?_
      rintro m C jb r1 ⟨i, hi1, rfl, hG', rfl⟩
      simp only [go_sem]
      intro _
      have hdone : ¬ (i : Int) < n.Eqs.length → G = ⟨0, 0, 0⟩ := fun h => firstE_0 hG' (by omega)
      have hnext : G = ⟨0, 0, 0⟩ → firstF nodeCa (j + 1) (p.Nodes.drop (j + 1)) = E := fun h => first_next hE' hj (by rw [hG, h])
      repeat' first
        | (exfalso; omega)
        | simp only [go_sem]
        | refine gqK_dec (fun _ => ?_) (fun _ => ?_)
        | refine gK_dec (fun _ => ?_) (fun _ => ?_)
        | refine brK_dec (fun _ => ?_) (fun _ => ?_)
        | (have hz : ¬ (i : Int) < n.Eqs.length := (by assumption); exact loopFrX _ (by omega) _ ⟨j + 1, by omega, rfl, hnext (hdone hz), rfl⟩ (.next rfl (by omega) .nil) rfl (by first | rfl | (simp only [List.append_assoc, List.cons_append, List.nil_append]; rfl)))
        | ((fail_if_success (clear hq)); obtain ⟨q, hq⟩ : ∃ q, n.Eqs[i]? = some q := ⟨_, List.getElem?_eq_getElem (by omega)⟩; refine PCall.call (containsN lo i) ?_; generalize hb : decide (i ∈ lo) = b; cases b)
        | (have hE1 := firstE_next hG' hq hb; exact loopFrX _ (by omega) _ ⟨i + 1, by omega, rfl, hE1, rfl⟩ (.next rfl (by omega) .nil) rfl (by first | rfl | (simp only [List.append_assoc, List.cons_append, List.nil_append]; rfl)))
        | (have hE1 := firstE_at hG' hq hb; have hE2 := first_at hE' hj (by rw [hG, hE1]; simp); rw [hE2, hG, hE1]; exact ⟨_, rfl, false, by rw [DFault.enc_eq]; exact .refl _⟩)
    · have hz := hok lo rfl
      refine loop_frX [8, 28, 29, 30, 31, 32, 33, 34, 35, 36, 37, 38, 39, 40, 41, 42, 43, 44, 45] (fun m C => m = 0 ∧ C = [(8, .raw (.int .i64 (0 : Int)))]) 0 _ ⟨rfl, rfl⟩ (.cons rfl .nil) ?_
      rintro m C jb r1 ⟨rfl, rfl⟩
      simp only [go_sem]
      intro _
      have hE1 := first_next hE' hj (by rw [hz])
      repeat' first
        | simp only [go_sem]
        | refine gqK_dec (fun _ => ?_) (fun _ => ?_)
        | refine gK_dec (fun _ => ?_) (fun _ => ?_)
        | refine brK_dec (fun _ => ?_) (fun _ => ?_)
        | exact loopFrX _ (by omega) _ ⟨j + 1, by omega, rfl, hE1, rfl⟩ (.next rfl (by omega) .nil) rfl (by first | rfl | (simp only [List.append_assoc, List.cons_append, List.nil_append]; rfl))
  · have h1 := first_0 hE' (by omega)
    subst h1
    simp only [go_sem]
    exact ⟨_, rfl, false, by rw [DFault.enc_eq]; exact .refl _⟩
end Go.Proofs.YtpamokpmlplopaaGreatDoor

namespace Go.Proofs.YtpamokpmlplopaaGreatDoor
open Go.Abs
set_option maxRecDepth 20000
set_option linter.unusedSimpArgs false
set_option linter.unusedVariables false
set_option maxHeartbeats 1000000
attribute [local irreducible] vc vcOps vcStep vcGuard prK hrK gK gsK brK callK ElemK SeqK BlockK ScopeK OpsK CallK LoopK LoopGo finPost ACall PCall PCallE BCall vqOps vqStep vqGuard qrK heK pcK gqK gqsK QOpsK qcallK DrawK

theorem startCheck (p : DProg) (hp : okProg p) : PCall Tryz.prog 31 [p.enc] (startF p).enc := by
  refine pcall_of_vc tabOK Tryz.func31 (by kernel_rfl) rfl (by first | exact pureL | exact pureI) (by first | exact pureL | exact pureI) (n := 49) rfl (rs := [.cell 2 61]) rfl ?_
  have hp6 := hp.2.1
  unfold startF
  simp only [go_sem]
  refine PCall.call (causeCheck p hp) ?_
  generalize causeF p = F
  rw [show F.enc = .agg [.i F.Node, .i F.Eq, .i F.Err] from DFault.enc_eq _]
  simp only [go_sem]
  refine brK_dec (fun h0 => ?_) (fun h0 => ?_)
  · rw [if_neg h0]
    simp only [go_sem]
    exact ⟨_, rfl, false, by rw [DFault.enc_eq]; exact .refl _⟩
  rw [if_pos (Classical.not_not.1 h0)]
  generalize hE : firstF nodeSt 0 p.Nodes = E
  simp only [go_sem]
  intro _
  refine loop_frX [4, 5, 6, 7, 8, 9, 19, 20, 21, 22, 23, 24, 25, 26, 27, 28, 29, 30, 31, 32, 33, 34, 35, 36, 37, 38, 39, 40, 41, 42, 43, 44, 45, 46, 47] (fun m C => ∃ i : Nat, i ≤ p.Nodes.length ∧ m = p.Nodes.length - i ∧ firstF nodeSt i (p.Nodes.drop i) = E ∧ C = [(19, .raw (.int .i64 (i : Nat)))]) p.Nodes.length _ ⟨0, by omega, by omega, hE, rfl⟩ (.cons rfl .nil) ?_
  rintro m C ja r ⟨j, hi, rfl, hE', rfl⟩
  simp only [go_sem]
  refine brK_dec (fun hlt => ?_) (fun hge => ?_)
  · obtain ⟨n, hj⟩ : ∃ n, p.Nodes[j]? = some n := ⟨_, List.getElem?_eq_getElem (by omega)⟩
    have hn := hp.2.2 n (List.mem_of_getElem? hj)
    have he4 := hn.2.2.2.1
    have hNE : nodeSt j n = firstE (j : Int) 10 (fun _ q => eqSt q) 0 n.Eqs := rfl
    generalize hG : nodeSt j n = G at hNE
    simp only [go_sem]
    refine elemHave (x := n) (by omega) (by simpa using hj) ?_
    simp only [go_sem]
    intro _
    refine loop_frX [6, 7, 8, 9, 27, 28, 29, 30, 31, 32, 33, 34, 35, 36, 37, 38, 39, 40, 41, 42, 43, 44, 45, 46] (fun m C => ∃ i : Nat, i ≤ n.Eqs.length ∧ m = n.Eqs.length - i ∧ firstE (j : Int) 10 (fun _ q => eqSt q) i (n.Eqs.drop i) = G ∧ C = [(27, .raw (.int .i64 (i : Nat)))]) n.Eqs.length _ ⟨0, by omega, by omega, hNE.symm, rfl⟩ (.cons rfl .nil) ?_
    rintro m C jb r1 ⟨i, hi1, rfl, hG', rfl⟩
    simp only [go_sem]
    refine brK_dec (fun hlt1 => ?_) (fun hge1 => ?_)
    · obtain ⟨q, hq⟩ : ∃ q, n.Eqs[i]? = some q := ⟨_, List.getElem?_eq_getElem (by omega)⟩
      have hx := late16 q.E
      have hb : eqSt q = (!(lt q.E).1 && (lt q.E).2) := rfl
      generalize lt q.E = u at hx hb
      obtain ⟨a, b⟩ := u
      simp only [go_sem]
      refine elemHave (x := q) (by omega) (by simpa using hq) ?_
      simp only [go_sem]
      refine PCall.call hx ?_
      cases a <;> cases b <;>
        first
          | (have hE1 := firstE_next hG' hq hb
             simp only [go_sem]
             exact loopFrX _ (by omega) _ ⟨i + 1, by omega, rfl, hE1, rfl⟩ (.next rfl (by omega) .nil) rfl (by first | rfl | (simp only [List.append_assoc, List.cons_append, List.nil_append]; rfl)))
          | (have hE1 := firstE_at hG' hq hb
             have hE2 := first_at hE' hj (by rw [hG, hE1]; simp)
             rw [hE2, hG, hE1]
             simp only [go_sem]
             exact ⟨_, rfl, false, by rw [DFault.enc_eq]; exact .refl _⟩)
    · have h1 := firstE_0 hG' (by omega)
      have hE1 := first_next hE' hj (by rw [hG, h1])
      simp only [go_sem]
      exact loopFrX _ (by omega) _ ⟨j + 1, by omega, rfl, hE1, rfl⟩ (.next rfl (by omega) .nil) rfl (by first | rfl | (simp only [List.append_assoc, List.cons_append, List.nil_append]; rfl))
  · have h1 := first_0 hE' (by omega)
    subst h1
    simp only [go_sem]
    exact ⟨_, rfl, false, by rw [DFault.enc_eq]; exact .refl _⟩

end Go.Proofs.YtpamokpmlplopaaGreatDoor

/-
  The abstract layer, part K: the shelf's contracts whose world grows, as pure calls.
-/
namespace Go.Abs
open Go.RowKit
end Go.Abs

namespace Go.Proofs.YtpamokpmlplopaaGreatDoor
open Go.Abs
set_option maxRecDepth 20000
set_option linter.unusedSimpArgs false
set_option linter.unusedVariables false
set_option maxHeartbeats 1000000
attribute [local irreducible] vc vcOps vcStep vcGuard prK hrK gK gsK brK callK ElemK SeqK BlockK ScopeK OpsK CallK LoopK LoopGo finPost ACall PCall PCallE BCall vqOps vqStep vqGuard qrK heK pcK gqK gqsK QOpsK qcallK DrawK
def digB (n : Int) : ByteArray := ⟨(Lib.itoa n).toArray⟩
end Go.Proofs.YtpamokpmlplopaaGreatDoor

namespace Go.Proofs.YtpamokpmlplopaaGreatDoor
open Go.Abs
set_option maxRecDepth 20000
set_option linter.unusedSimpArgs false
set_option linter.unusedVariables false
set_option maxHeartbeats 1000000
attribute [local irreducible] vc vcOps vcStep vcGuard prK hrK gK gsK brK callK ElemK SeqK BlockK ScopeK OpsK CallK LoopK LoopGo finPost ACall PCall PCallE BCall vqOps vqStep vqGuard qrK heK pcK gqK gqsK QOpsK qcallK DrawK
/-! ### The plain equations of a program -/
section
variable (p : DProg) (k : Int)
noncomputable def tyN (e : Ex) : DTy := (ofN p k e).1
noncomputable def cnN (e : Ex) : List Int := (constT p.Enums e).1
def vaN (s : ByteArray) : Int := (armF p.Enums s).2.1
def fiN (s : ByteArray) : Int := findF p s
def nmN (first : ByteArray) (j : Nat) : ByteArray := (first ++ ⟨#[46]⟩) ++ digB (j : Int)
def rowOn (s : ByteArray) : List DCond := (rowF p k s).1
noncomputable def eqPl (st : List DVar × List DPlain) (q : DEq) : DPlain × NmSt := plainN (nmN (q.Names.headD ⟨#[]⟩)) (tyN p k) (cnN p) (vaN p) (fiN p) q.E (rowOn p k (q.Names.headD ⟨#[]⟩)) ⟨st.1, st.2, 0⟩
noncomputable def eqNm (st : List DVar × List DPlain) (q : DEq) : List DVar × List DPlain :=
  ((eqPl p k st q).2.vars, (eqPl p k st q).2.eqs ++ [{ (eqPl p k st q).1 with Names := q.Names, On := rowOn p k (q.Names.headD ⟨#[]⟩) }])
noncomputable def eqsNm (st : List DVar × List DPlain) (l : List DEq) : List DVar × List DPlain := l.foldl (eqNm p k) st
def varNm (d : DDecl) : DVar := ⟨d.Name, d.Ty, rowOn p k d.Name⟩
noncomputable def flowNm (n : DNode) : DFlow := ⟨n.Name, n.Ins.map (varNm p k), n.Outs.map (varNm p k), (eqsNm p k (n.Vars.map (varNm p k), []) n.Eqs).1, (eqsNm p k (n.Vars.map (varNm p k), []) n.Eqs).2⟩
end
noncomputable def nodesNm (p : DProg) : Nat → List DNode → List DFlow
  | _, [] => []
  | i, n :: l => flowNm p (i : Int) n :: nodesNm p (i + 1) l
noncomputable def normF (p : DProg) : DFlows × Bool := if (startF p).Err = 0 then (⟨p.Enums, nodesNm p 0 p.Nodes⟩, true) else (⟨[], []⟩, false)
theorem eqsNm_next (p : DProg) (k : Int) {st : List DVar × List DPlain} {l : List DEq} {i : Nat} {x : DEq} (h : l[i]? = some x) : eqsNm p k st (l.take (i + 1)) = eqNm p k (eqsNm p k st (l.take i)) x := by
  unfold eqsNm
  rw [List.take_add_one, h, List.foldl_append]
  rfl
theorem nodesNm_len (p : DProg) : ∀ (l : List DNode) (i : Nat), (nodesNm p i l).length = l.length
  | [], _ => rfl
  | n :: l, i => by rw [nodesNm, List.length_cons, List.length_cons, nodesNm_len p l]
theorem nodesNm_at (p : DProg) : ∀ {l : List DNode} {i j : Nat}, (nodesNm p i l)[j]? = (l[j]?).map (flowNm p ((i + j : Nat) : Int))
  | [], _, _ => rfl
  | n :: l, i, 0 => rfl
  | n :: l, i, j + 1 => by
    rw [nodesNm, List.getElem?_cons_succ, List.getElem?_cons_succ, nodesNm_at p (l := l)]
    rw [show i + 1 + j = i + (j + 1) by omega]
theorem nodesNm_next (p : DProg) {l : List DNode} {i : Nat} {n : DNode} (h : l[i]? = some n) : (nodesNm p 0 l).take (i + 1) = (nodesNm p 0 l).take i ++ [flowNm p (i : Int) n] := by
  have h2 : (nodesNm p 0 l)[i]? = some (flowNm p (i : Int) n) := by rw [nodesNm_at, h, Nat.zero_add]; rfl
  rw [List.take_add_one, h2]
  rfl
theorem norm_ok {p : DProg} (h : (startF p).Err = 0) : normF p = (⟨p.Enums, nodesNm p 0 p.Nodes⟩, true) := by unfold normF; rw [if_pos h]
theorem norm_no {p : DProg} (h : ¬ (startF p).Err = 0) : normF p = (⟨[], []⟩, false) := by unfold normF; rw [if_neg h]
/-- What a checked node's equations are. -/
structure EqFit (p : DProg) (k : Nat) (n : DNode) (q : DEq) : Prop where
  names : ∃ s r, q.Names = s :: r
  right : ∀ y ∈ parts q.E, partE y = true
  fits : fitsF (rowN p.Enums n) p.Enums q.E (rowN p.Enums n (q.Names.headD ⟨#[]⟩)).1 = true
  same : ∀ s ∈ q.Names, (rowN p.Enums n s).1 = (rowN p.Enums n (q.Names.headD ⟨#[]⟩)).1
theorem start_eqs {p : DProg} (h : (startF p).Err = 0) : checkF p = 0 ∧ ∀ (k : Nat) n, p.Nodes[k]? = some n → rowsOk p.Enums n = true ∧ (nodeFault p (k : Int) n).Err = 0 ∧ ∀ q ∈ n.Eqs, EqFit p k n q := by
  obtain ⟨_, h1, _⟩ := start_zero h
  obtain ⟨_, h2, _⟩ := cause_zero h1
  obtain ⟨_, h3, hc⟩ := clock_zero h2
  obtain ⟨_, hs, hk, _⟩ := types_zero h3
  obtain ⟨_, _, hnf⟩ := scope_zero (p := p) (by rw [hs])
  refine ⟨hk, fun k n hn => ?_⟩
  obtain ⟨_, hr, hq⟩ := nodeCk_zero (hc k n hn)
  refine ⟨hr, hnf k n hn, fun q hm => ?_⟩
  obtain ⟨e1, e2⟩ := eqs_right hk (List.mem_of_getElem? hn) hm
  have hck := hq q hm
  unfold eqCk at hck
  simp only [Bool.and_eq_true, List.all_eq_true] at hck
  refine ⟨?_, right_parts e2, hck.2, fun s hs => eqB_t (hck.1 s hs)⟩
  match q.Names, e1 with
  | s :: r, _ => exact ⟨s, r, rfl⟩
end Go.Proofs.YtpamokpmlplopaaGreatDoor

namespace Go.Proofs.YtpamokpmlplopaaGreatDoor
open Go.Abs
set_option maxRecDepth 20000
set_option linter.unusedSimpArgs false
set_option linter.unusedVariables false
set_option maxHeartbeats 1000000
attribute [local irreducible] vc vcOps vcStep vcGuard prK hrK gK gsK brK callK ElemK SeqK BlockK ScopeK OpsK CallK LoopK LoopGo finPost ACall PCall PCallE BCall vqOps vqStep vqGuard qrK heK pcK gqK gqsK QOpsK qcallK DrawK
theorem finSqN {T : TypeId → TI} {rs : List ResultVar} {s : List AV} {h : List Blk} {a b : ByteArray} (hr : resAV T s h rs = some [.s a]) (he : a = b) : Go.Abs.Fin T rs (.s b) s h := he ▸ ⟨_, hr, false, .refl _⟩
theorem digN_size (j : Nat) (h : j < 100) : (digB (j : Int)).size ≤ 21 := by
  have key : ∀ k : Fin 100, (digB (k.val : Int)).size ≤ 21 := by decide +kernel
  exact key ⟨j, h⟩

theorem small204 (n : Nat) (h : n < 100) : PCall Tryz.prog 204 [.i (n : Int)] (.s (digB (n : Int))) := by
  refine pcall_of_vc tabOK Tryz.func204 (by kernel_rfl) rfl pureL pureI (n := 15) rfl (rs := [.tmp 2]) rfl ?_
  by_cases hn : n < 10
  · have hw : IntKind.i64.wrap ((n : Int) + 1) = ((n + 1 : Nat) : Int) := by rw [wrap_in _ (by omega) (by omega)]; omega
    repeat' first
      | simp only [go_sem, hw]
      | refine brK_dec (fun _ => ?_) (fun _ => ?_)
      | (exfalso; omega)
      | refine And.intro (by first | omega | (simp <;> omega)) ?_
    refine finSqN rfl ?_
    rw [Int.toNat_natCast, Int.toNat_natCast]
    exact (fun (key : ∀ k : _root_.Fin 10, ByteArray.extract _ k.val (k.val + 1) = digB (k.val : Int)) => key ⟨n, hn⟩) (by decide +kernel)
  · have hw : IntKind.i64.wrap ((n : Int) * 2) = ((n * 2 : Nat) : Int) := by rw [wrap_in _ (by omega) (by omega)]; omega
    have hw2 : IntKind.i64.wrap (((n * 2 : Nat) : Int) + 2) = ((n * 2 + 2 : Nat) : Int) := by rw [wrap_in _ (by omega) (by omega)]; omega
    repeat' first
      | simp only [go_sem, hw, hw2]
      | refine brK_dec (fun _ => ?_) (fun _ => ?_)
      | (exfalso; omega)
      | refine And.intro (by first | omega | (simp <;> omega)) ?_
    refine finSqN rfl ?_
    rw [Int.toNat_natCast, Int.toNat_natCast]
    exact (fun (key : ∀ k : _root_.Fin 100, 10 ≤ k.val → ByteArray.extract _ (k.val * 2) (k.val * 2 + 2) = digB (k.val : Int)) => key ⟨n, h⟩ (by show 10 ≤ n; omega)) (by decide +kernel)

theorem fmtN (n : Nat) (h : n < 100) : PCall Tryz.prog 161 [.i (n : Int), .i 10] (.s (digB (n : Int))) := by
  refine pcall_of_vc tabOK Tryz.func161 (by kernel_rfl) rfl pureL pureI (n := 54) rfl (rs := [.tmp 4]) rfl ?_
  repeat' first
    | simp only [go_sem]
    | refine brK_dec (fun _ => ?_) (fun _ => ?_)
    | refine gK_dec (fun _ => ?_) (fun _ => ?_)
    | (exfalso; omega)
    | refine PCall.call (small204 n h) ?_
    | exact ⟨_, rfl, false, .refl _⟩

theorem itoaN28 (n : Nat) (h : n < 100) : PCall Tryz.prog 129 [.i (n : Int)] (.s (digB (n : Int))) := by
  refine pcall_of_vc tabOK Tryz.func129 (by kernel_rfl) rfl pureL pureI (n := 5) rfl (rs := [.tmp 2]) rfl ?_
  simp only [go_sem]
  refine PCall.call (fmtN n h) ?_
  simp only [go_sem]
  exact ⟨_, rfl, false, .refl _⟩

theorem itoaN (n : Nat) (h : n < 100) : PCall Tryz.prog 89 [.i (n : Int)] (.s (digB (n : Int))) := by
  refine pcall_of_vc tabOK Tryz.func89 (by kernel_rfl) rfl pureL pureI (n := 5) rfl (rs := [.tmp 2]) rfl ?_
  simp only [go_sem]
  refine PCall.call (itoaN28 n h) ?_
  simp only [go_sem]
  exact ⟨_, rfl, false, .refl _⟩
end Go.Proofs.YtpamokpmlplopaaGreatDoor

namespace Go.Proofs.YtpamokpmlplopaaGreatDoor
open Go.Abs
set_option maxRecDepth 20000
set_option linter.unusedSimpArgs false
set_option linter.unusedVariables false
set_option maxHeartbeats 1000000
attribute [local irreducible] vc vcOps vcStep vcGuard prK hrK gK gsK brK callK ElemK SeqK BlockK ScopeK OpsK CallK LoopK LoopGo finPost ACall PCall PCallE BCall vqOps vqStep vqGuard qrK heK pcK gqK gqsK QOpsK qcallK DrawK
theorem vsOne {vs : Array Value} (h : vs.size = 1) : ∃ v, vs = #[v] := by
  obtain ⟨l⟩ := vs
  match l, h with
  | [v], _ => exact ⟨v, rfl⟩
section
variable {P : Program} {f : FuncId} {sz : Nat} {es : List AV} {r : AV}
/-- A contract at a slice, by what the slice may be: nil, or of no element, or of some. -/
theorem pcall_sl (pe : ∀ c ∈ flat es, Go.Abs.Pure c) (h1 : es = [] → PCall P f [.raw (.slice none 0 0)] r) (h2 : es = [] → ∀ a c, c ≤ maxLen → PCall P f [.raw (.slice (some a) 0 c)] r) (h3 : es ≠ [] → PCall P f [.lst sz es none] r) : PCall P f [.lst sz es none] r := by
  by_cases he : es = []
  · subst he
    unfold PCall at h1 h2 ⊢
    refine ⟨fun x hx => by rw [List.mem_singleton.1 hx]; exact .lst _ _ pe, (h1 rfl).2.1, fun S w vs hb ht ha => ?_⟩
    obtain ⟨v, rfl⟩ := vsOne ha.1
    have hv := ha.2 0 _ _ rfl rfl
    cases hv with
    | lst _ _ _ a len cap u hlen hcap hmax hsz hm hc h1' ht' =>
      have hl : len = 0 := hlen.symm
      subst hl
      exact (h2 rfl a cap hmax).2.2 S w _ hb ht (CAll.one (.raw _))
    | lstnil _ _ ht' => exact (h1 rfl).2.2 S w _ hb ht (CAll.one (.raw _))
  · exact h3 he
theorem acall_sl {h : List Blk} {K : AV → List Blk → Prop} (h1 : es = [] → ACall P f [.raw (.slice none 0 0)] h K) (h2 : es = [] → ∀ a c, c ≤ maxLen → ACall P f [.raw (.slice (some a) 0 c)] h K) (h3 : es ≠ [] → ACall P f [.lst sz es none] h K) : ACall P f [.lst sz es none] h K := by
  by_cases he : es = []
  · subst he
    unfold ACall at h1 h2 ⊢
    intro S φ w vs hr ha
    obtain ⟨v, rfl⟩ := vsOne ha.1
    have hv := ha.2 0 _ _ rfl rfl
    cases hv with
    | lst _ _ _ a len cap u hlen hcap hmax hsz hm hc h1' ht' =>
      have hl : len = 0 := hlen.symm
      subst hl
      exact h2 rfl a cap hmax S φ w _ hr (CAll.one (.raw _))
    | lstnil _ _ ht' => exact h1 rfl S φ w _ hr (CAll.one (.raw _))
  · exact h3 he
/-- A call that gives nil back, as an empty slice with a token. -/
theorem acall_nil {args : List AV} {h : List Blk} {e : TypeId} {K : AV → List Blk → Prop} (hp : PCall P f args (.raw (.slice none 0 0))) (hK : K (.lst sz [] (some h.length)) (h ++ [.tok e sz 0])) : ACall P f args h K := by
  unfold PCall at hp
  obtain ⟨h1, h2, h3⟩ := hp
  unfold ACall
  intro S φ w vs hr ha
  obtain ⟨ent, calls⟩ := h3 S w vs hr.bnd hr.tab.bare (ha.pure _ h1)
  refine ⟨ent, Calls.mono calls ?_⟩
  rintro e' w' ⟨v, S', rfl, hc, hr', he⟩
  obtain ⟨k1, k2⟩ := hr.over he hr'.bnd
  cases hc
  obtain ⟨q1, q2⟩ := k1.push (l := .tok 0 (.slice none 0 0)) (x := .tok e sz 0) (S' := S') (w' := w') rfl rfl rfl (Nat.le_refl _) (fun _ _ => rfl) (fun _ h => h) (fun _ h => .inl h) k1.bnd
    ⟨_, upd_same _ _ _, .inl ⟨rfl, rfl⟩⟩ (fun b hb => by simp [blockOf] at hb)
  exact ⟨_, _, _, S', _, rfl, hK, .lstnil sz (some h.length) ⟨_, _, upd_same _ _ _, Nat.le_refl _, fun _ => rfl⟩, q1, k2.trans q2⟩
end
theorem nilW (sz : Nat) : Weak (.raw (.slice none 0 0)) (.lst sz [] none) := .nil _

theorem cloneS (l : List ByteArray) (hl : l.length ≤ 4294967296) : PCall Tryz.prog 32 [.lst 1 (l.map AV.s) none] (.lst 1 (l.map AV.s) none) := by
  refine pcall_sl (by intro c hc; rw [flat_strs] at hc; obtain ⟨x, _, rfl⟩ := List.mem_map.1 hc; exact .raw _) (fun he => ?_) (fun he a c hc => ?_) (fun he => ?_)
  · obtain rfl := List.map_eq_nil_iff.1 he
    refine pcall_of_vc tabOK Tryz.func32 (by kernel_rfl) rfl (pure_cons (.raw _) pure_nil) (pure_strs []) (n := 8) rfl (rs := [.tmp 2]) rfl ?_
    simp only [go_sem]
    exact ⟨_, rfl, false, nilW 1⟩
  · obtain rfl := List.map_eq_nil_iff.1 he
    refine pcall_of_vc tabOK Tryz.func32 (by kernel_rfl) rfl (pure_cons (.raw _) pure_nil) (pure_strs []) (n := 8) rfl (rs := [.tmp 2]) rfl ?_
    simp only [go_sem]
    refine ⟨by simpa [maxLen] using hc, ?_⟩
    exact ⟨_, rfl, false, .tok _ _ _⟩
  · match l, he with
    | x :: r, _ =>
      have hp : Go.Abs.Pure (.lst 1 ((x :: r).map AV.s) none) := pure_strs _
      rw [List.map_cons] at hp ⊢
      refine pcall_of_vc tabOK Tryz.func32 (by kernel_rfl) rfl (pure_cons hp pure_nil) hp (n := 8) rfl (rs := [.tmp 2]) rfl ?_
      simp only [go_sem]
      refine ⟨by simpa using hl, ?_⟩
      exact ⟨_, rfl, false, .tok _ _ _⟩

theorem cloneC (l : List DCond) (hl : l.length ≤ 1000000) {h : List Blk} {K : AV → List Blk → Prop} (hK : K (.lst 2 (l.map DCond.enc) (some h.length)) (h ++ [.tok 97 2 l.length])) : ACall Tryz.prog 139 [.lst 2 (l.map DCond.enc) none] h K := by
  have hpp : Go.Abs.Pure (.lst 2 (l.map DCond.enc) none) := DCond.pures l
  have hpf : ∀ c ∈ flat (l.map DCond.enc), Go.Abs.Pure c := by cases hpp with | lst _ _ h => exact h
  refine tcall (e := 97) (sz := 2) (l := l.map DCond.enc) (fun KK hk0 => ?_) (pure_cons hpp pure_nil) hpf (by simpa using hK)
  refine acall_sl (fun he => ?_) (fun he a c hc => ?_) (fun he => ?_)
  · obtain rfl := List.map_eq_nil_iff.1 he
    refine acall_nil (e := 97) (sz := 2) ?_ hk0
    refine pcall_of_vc tabOK Tryz.func139 (by kernel_rfl) rfl (pure_cons (.raw _) pure_nil) (.raw _) (n := 8) rfl (rs := [.tmp 2]) rfl ?_
    simp only [go_sem]
    exact ⟨_, rfl, false, .refl _⟩
  · obtain rfl := List.map_eq_nil_iff.1 he
    refine acallT_of_vc tabOK Tryz.func139 (by kernel_rfl) rfl (n := 8) rfl (rs := [.tmp 2]) rfl (e := 97) (sz := 2) (l := []) ?_
    simp only [go_sem]
    refine ⟨by simpa [maxLen] using hc, ?_⟩
    exact finTk (k := 0) hk0 rfl rfl rfl rfl (by simp [flat])
  · match l, he with
    | x :: r, _ =>
      rw [List.map_cons] at hk0 hpf ⊢
      refine acallT_of_vc tabOK Tryz.func139 (by kernel_rfl) rfl (n := 8) rfl (rs := [.tmp 2]) rfl (e := 97) (sz := 2) (l := x.enc :: r.map DCond.enc) ?_
      simp only [go_sem]
      refine ⟨by simp at hl ⊢; omega, ?_⟩
      exact finTk (k := 0) hk0 rfl rfl rfl (by simp) hpf
end Go.Proofs.YtpamokpmlplopaaGreatDoor
