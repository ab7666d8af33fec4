/-
  Fits1, Fits2, Fits3, Fits4, Fits5, Fits6, Fits7, Fits8, Fits9, Law17, CkK, Ints, OrdKit, CkP, CkC, CkX: put together.
-/
import Derived.Test.YtidjmcmfgimbfaaGreatDoorUniA
import Derived.Test.YtidjmcmfgimbfaaGreatDoorUniB
import Derived.Test.YtidjmcmfgimbfaaGreatDoorUniC
import Derived.Test.YtidjmcmfgimbfaaGreatDoorUniD
import Derived.Test.YtidjmcmfgimbfaaGreatDoorUniE
namespace Go.Proofs.YtidjmcmfgimbfaaGreatDoor
open Go.Abs
set_option maxRecDepth 20000
set_option linter.unusedSimpArgs false
set_option linter.unusedVariables false
set_option maxHeartbeats 1000000
attribute [local irreducible] vc vcOps vcStep vcGuard prK hrK gK gsK brK callK ElemK SeqK BlockK ScopeK OpsK CallK LoopK LoopGo finPost ACall PCall PCallE BCall vqOps vqStep vqGuard qrK heK pcK gqK gqsK QOpsK qcallK DrawK
abbrev placeE (p : DProg) (k : Int) : AV := .agg [.lst 2 (p.Enums.map DEnum.enc) none, .lst 5 (p.Nodes.map DNode.enc) none, .i k]
theorem pure_place (p : DProg) (k : Int) : Go.Abs.Pure (placeE p k) := .agg _ (pure_cons (DEnum.pures _) (pure_cons (DNode.pures _) (pure_cons (.raw _) pure_nil)))
def condOf (L : List DEnum) (nm arm : ByteArray) : DCond := ⟨nm, (armF L arm).2.1⟩
def rowL (L : List DEnum) (l : List DDecl) : List DCond × Bool := if l.all (fun d => armOk L d.Ctor) = true then (l.map (fun d => condOf L d.On d.Ctor), true) else ([], false)
def rowN (L : List DEnum) (n : DNode) (name : ByteArray) : List DCond × Bool := if (clock n name).2 = true then rowL L (clock n name).1 else ([], false)
def nodeAt (p : DProg) (k : Int) : Option DNode := if 0 ≤ k then p.Nodes[k.toNat]? else none
def rowF (p : DProg) (k : Int) (name : ByteArray) : List DCond × Bool := match nodeAt p k with | some n => rowN p.Enums n name | none => ([], false)
abbrev rowA (r : List DCond × Bool) : AV := .tup [.lst 2 (r.1.map DCond.enc) none, .b r.2]
theorem pure_rowA (r : List DCond × Bool) : Go.Abs.Pure (rowA r) := .tup _ (pure_cons (DCond.pures _) (pure_cons (.raw _) pure_nil))
abbrev condA (c : DCond) (ok : Bool) : AV := .tup [c.enc, .b ok]
theorem condA_mk (nm : ByteArray) (v : Int) (ok : Bool) : condA ⟨nm, v⟩ ok = .tup [.agg [.s nm, .i v], .b ok] := by
  show AV.tup [DCond.enc _, _] = _
  rw [DCond.enc_eq]
theorem pure_condA (c : DCond) (ok : Bool) : Go.Abs.Pure (condA c ok) := .tup _ (pure_cons (DCond.pure _) (pure_cons (.raw _) pure_nil))
theorem weak_norow : Weak (.tup [.raw (.slice none 0 0), .b false]) (rowA ([], false)) := Weak.tups ⟨.nil _, .refl _, trivial⟩

theorem isSome_getElem?_dec {α : Type} (l : List α) (i : Nat) : (l[i]?).isSome = decide (i < l.length) := by
  by_cases h : i < l.length
  · simp [h]
  · simp [h]
    try omega
theorem rowL_no {L : List DEnum} {l : List DDecl} {d : DDecl} (hd : d ∈ l) (h : armOk L d.Ctor = false) : rowL L l = ([], false) := by
  unfold rowL
  rw [if_neg]
  intro q
  have := List.all_eq_true.1 q d hd
  simp [h] at this
theorem rowL_yes {L : List DEnum} {l : List DDecl} (h : ∀ d ∈ l, armOk L d.Ctor = true) : rowL L l = (l.map (fun d => condOf L d.On d.Ctor), true) := by
  unfold rowL
  rw [if_pos (List.all_eq_true.2 fun d hd => by simpa using h d hd)]


theorem cond127 (p : DProg) (k : Int) (nm arm : ByteArray) : PCall Tryz.prog 126 [placeE p k, .s nm, .s arm] (condA (condOf p.Enums nm arm) (armOk p.Enums arm)) := by
  refine pcall_of_vc tabOK Tryz.func126 (by kernel_rfl) rfl (pure_cons (pure_place p k) (pure_cons (.raw _) (pure_cons (.raw _) pure_nil))) (pure_condA _ _) (n := 24) rfl (rs := [.cell 6 61, .tmp 7]) rfl ?_
  simp only [go_sem]
  refine PCall.call (arm146 _ _) ?_
  rw [show armF p.Enums arm = ((armF p.Enums arm).1, (armF p.Enums arm).2.1, armOk p.Enums arm) from rfl]
  unfold condOf
  generalize armF p.Enums arm = d
  generalize armOk p.Enums arm = ok
  obtain ⟨t, v, ok'⟩ := d
  rw [show armA (t, v, ok) = .tup [.agg [.i t.Kind, .i t.Enum, .i t.Len], .i v, .b ok] by rw [← DTy.enc_eq], condA_mk]
  simp only [go_sem]
  exact ⟨_, rfl, false, .refl _⟩


theorem row90 (p : DProg) (k : Nat) (n : DNode) (hn : p.Nodes[k]? = some n) (name : ByteArray) (hl : (allV n).length ≤ 4294967296) : PCall Tryz.prog 74 [placeE p k, .s name] (rowA (rowN p.Enums n name)) := by
  refine pcall_of_vc tabOK Tryz.func74 (by kernel_rfl) rfl (pure_cons (pure_place p k) (pure_cons (.raw _) pure_nil)) (pure_rowA _) (n := 50) rfl (rs := [.tmp 4, .tmp 5]) rfl ?_
  simp only [go_sem]
  refine elemHave (by omega) (by simpa using hn) ?_
  simp only [go_sem]
  refine PCall.call (clock21 n name hl) ?_
  unfold rowN
  have hlen := clock_len n name
  generalize clock n name = d at hlen ⊢
  obtain ⟨l, ok⟩ := d
  dsimp only at hlen
  simp only [go_sem]
  cases ok with
  | false =>
    simp only [go_sem]
    exact ⟨_, rfl, false, weak_norow⟩
  | true =>
    simp only [go_sem]
    intro _
    refine loop_ghost (ghost_own 8 61 2 rfl) ?_
    simp only [go_sem]
    refine loop_fr [4, 5, 8, 10, 11, 12, 29, 30, 31, 32, 33, 34, 35, 36, 37, 38, 39, 40, 41, 42, 43, 44, 45, 46, 47, 48] (fun m C h => ∃ (i : Nat) (r : List Blk), i ≤ l.length ∧ m = l.length - i ∧ (∀ d ∈ l.take i, armOk p.Enums d.Ctor = true) ∧ C = [(29, .raw (.int .i64 (i : Nat))), (8, .own 2 1 (((l.take i).map (fun d => condOf p.Enums d.On d.Ctor)).map DCond.enc).length)] ∧
      h = .cells 98 [.lst 2 (p.Enums.map DEnum.enc) none, .lst 5 (p.Nodes.map DNode.enc) none, .i k] :: .own 61 2 (((l.take i).map (fun d => condOf p.Enums d.On d.Ctor)).map DCond.enc) :: r) l.length _ ⟨0, [], by omega, by omega, by simp, rfl, rfl⟩ (.cons rfl (.cons rfl .nil)) ?_
    rintro m C j h ⟨i, r, hi, rfl, ha, rfl, rfl⟩
    simp only [go_sem]
    refine brK_dec (fun hlt => ?_) (fun hge => ?_)
    · simp only [go_sem]
      refine elemMap (by omega) (by omega) (fun x hx => ?_)
      have hx' : l[i]? = some x := by simpa using hx
      simp only [go_sem]
      refine PCall.call (cond127 p k x.On x.Ctor) ?_
      simp only [go_sem]
      cases hb : armOk p.Enums x.Ctor with
      | false =>
        simp only [go_sem]
        rw [rowL_no (List.mem_of_getElem? hx') hb]
        exact ⟨_, rfl, false, weak_norow⟩
      | true =>
        simp only [go_sem]
        refine ⟨by simp; omega, ?_⟩
        have h3 : ((l.take (i + 1)).map (fun d => condOf p.Enums d.On d.Ctor)).map DCond.enc = ((l.take i).map (fun d => condOf p.Enums d.On d.Ctor)).map DCond.enc ++ [(condOf p.Enums x.On x.Ctor).enc] := by
          obtain ⟨hlt', rfl⟩ := List.getElem?_eq_some_iff.1 hx'
          rw [List.take_succ_eq_append_getElem hlt', List.map_append, List.map_append]
          rfl
        exact loopFr _ (by omega) ⟨i + 1, _, by omega, rfl, take_all ha hx' hb, rfl, by rw [h3]⟩
          (.next rfl (by omega) (.cons (by simp; try omega) .nil)) rfl
    · have : i = l.length := by omega
      subst this
      simp only [go_sem]
      rw [List.take_length] at ha ⊢
      rw [rowL_yes ha]
      refine ⟨_, rfl, true, ?_⟩
      show Weak (.tup [frz _ (.own 2 1 _), .b true]) _
      refine Weak.tups ⟨?_, .refl _, trivial⟩
      simp [frz]
      exact .refl _


theorem at89 (p : DProg) (k : Int) : PCall Tryz.prog 73 [p.enc, .i k] (.tup [placeE p k, .b (nodeAt p k).isSome]) := by
  refine pcall_of_vc tabOK Tryz.func73 (by kernel_rfl) rfl (by first | exact pureL | exact pureI) (.tup _ (pure_cons (pure_place p k) (pure_cons (.raw _) pure_nil))) (n := 18) rfl (rs := [.cell 4 98, .tmp 5]) rfl ?_
  unfold nodeAt
  simp only [go_sem]
  refine drawC [1] mo (by kernel_rfl) ?_
  repeat' first
    | exact finB rfl
    | exact finI rfl
    | exact finP rfl
    | exact absurd rfl (by assumption)
    | simp only [go_sem]
    | (intro _)
    | refine brK_dec (fun _ => ?_) (fun _ => ?_)
    | refine brK_any ?_ ?_
    | refine gK_dec (fun _ => ?_) (fun _ => ?_)
    | refine gK_any ?_ ?_
    | refine gqK_dec (fun _ => ?_) (fun _ => ?_)
    | refine ⟨by omega, ?_⟩
    | refine elemHave (by omega) (by assumption) ?_
    | refine elemMap (by omega) (by omega) (fun x hx => ?_)
    | refine drawK mo (by kernel_rfl) ?_
  · rw [if_pos (by assumption), show (p.Nodes[k.toNat]?).isSome = decide (k < p.Nodes.length) by rw [isSome_getElem?_dec]; congr 1; apply propext; omega]
    exact ⟨_, rfl, false, .refl _⟩
  · rw [if_neg (by assumption)]
    exact ⟨_, rfl, false, .refl _⟩

theorem row45 (p : DProg) (k : Int) (name : ByteArray) (hl : ∀ n ∈ p.Nodes, (allV n).length ≤ 4294967296) : PCall Tryz.prog 30 [p.enc, .i k, .s name] (rowA (rowF p k name)) := by
  refine pcall_of_vc tabOK Tryz.func30 (by kernel_rfl) rfl pureL pureI (n := 23) rfl (rs := [.tmp 6, .tmp 7]) rfl ?_
  simp only [go_sem]
  refine PCall.call (at89 p k) ?_
  simp only [go_sem]
  unfold rowF
  cases hn : nodeAt p k with
  | none =>
    simp only [go_sem, Option.isSome_none]
    exact ⟨_, rfl, false, weak_norow⟩
  | some n =>
    unfold nodeAt at hn
    have hk : 0 ≤ k := by
      rcases Int.lt_or_le k 0 with h | h
      · rw [if_neg (by omega)] at hn; cases hn
      · exact h
    rw [if_pos hk] at hn
    obtain ⟨m, rfl⟩ := Int.eq_ofNat_of_zero_le hk
    have hn' : p.Nodes[m]? = some n := by simpa using hn
    simp only [go_sem, Option.isSome_some]
    refine PCall.call (row90 p m n hn' name (hl n (List.mem_of_getElem? hn'))) ?_
    simp only [go_sem]
    exact ⟨_, rfl, false, .refl _⟩
end Go.Proofs.YtidjmcmfgimbfaaGreatDoor

namespace Go.Proofs.YtidjmcmfgimbfaaGreatDoor
open Go.Abs
set_option maxRecDepth 20000
set_option linter.unusedSimpArgs false
set_option linter.unusedVariables false
set_option maxHeartbeats 1000000
attribute [local irreducible] vc vcOps vcStep vcGuard prK hrK gK gsK brK callK ElemK SeqK BlockK ScopeK OpsK CallK LoopK LoopGo finPost ACall PCall PCallE BCall vqOps vqStep vqGuard qrK heK pcK gqK gqsK QOpsK qcallK DrawK
theorem sameCs (l m : List DCond) : PCall Tryz.prog 31 [.lst 2 (l.map (DCond.enc)) none, .lst 2 (m.map (DCond.enc)) none] (.b (eqB l m)) := by
  refine pcall_of_vc tabOK Tryz.func31 (by kernel_rfl) rfl pureL pureI (n := 26) rfl (rs := [.tmp 4]) rfl ?_
  repeat' first
    | exact finB rfl
    | exact finI rfl
    | exact finP rfl
    | exact absurd rfl (by assumption)
    | simp only [go_sem]
    | (intro _)
    | refine brK_dec (fun _ => ?_) (fun _ => ?_)
    | refine brK_any ?_ ?_
    | refine gK_dec (fun _ => ?_) (fun _ => ?_)
    | refine gK_any ?_ ?_
    | refine gqK_dec (fun _ => ?_) (fun _ => ?_)
    | refine ⟨by omega, ?_⟩
    | refine elemHave (by omega) (by assumption) ?_
    | refine elemMap (by omega) (by omega) (fun x hx => ?_)
    | refine drawK mo (by kernel_rfl) ?_
    | (rw [eqB_ne (len_ne (l := l) (m := m) (by omega))]; exact ⟨_, rfl, false, .refl _⟩)
    | (rw [eqB_ne (at_ne (l := l) (m := m) (i := i) (by assumption) (by assumption) (by assumption))]; exact ⟨_, rfl, false, .refl _⟩)
    | (rw [eqB_eq (take_eq_full (l := l) (m := m) (i := i) (by omega) hpi (by omega))]; exact ⟨_, rfl, false, .refl _⟩)
    | exact loopFrH _ (by omega) ⟨i + 1, by omega, rfl, take_eq_step hpi (by assumption) (by assumption) (by assumption), rfl⟩ (.next rfl (by omega) .nil) rfl
    | (refine loop_frH [4, 5, 11, 12, 13, 14, 15, 16, 17, 18, 19, 20, 21, 22, 23, 24, 25] (fun mm_ CC_ => ∃ (i : Nat), i ≤ l.length ∧ mm_ = l.length - i ∧ (l.take i = m.take i) ∧ CC_ = [(5, .raw (.int .i64 ((i : Nat) : Int)))]) (l.length) _ ⟨0, by omega, by omega, rfl, rfl⟩ (.cons rfl .nil) ?_; rintro mm_ CC_ ji ⟨i, hi, rfl, hpi, rfl⟩)

theorem equalCs (l m : List DCond) : PCall Tryz.prog 222 [.lst 2 (l.map (DCond.enc)) none, .lst 2 (m.map (DCond.enc)) none] (.b (eqB l m)) := by
  refine pcall_of_vc tabOK Tryz.func222 (by kernel_rfl) rfl pureL pureI (n := 26) rfl (rs := [.tmp 4]) rfl ?_
  repeat' first
    | exact finB rfl
    | exact finI rfl
    | exact finP rfl
    | exact absurd rfl (by assumption)
    | simp only [go_sem]
    | (intro _)
    | refine brK_dec (fun _ => ?_) (fun _ => ?_)
    | refine brK_any ?_ ?_
    | refine gK_dec (fun _ => ?_) (fun _ => ?_)
    | refine gK_any ?_ ?_
    | refine gqK_dec (fun _ => ?_) (fun _ => ?_)
    | refine ⟨by omega, ?_⟩
    | refine elemHave (by omega) (by assumption) ?_
    | refine elemMap (by omega) (by omega) (fun x hx => ?_)
    | refine drawK mo (by kernel_rfl) ?_
    | (rw [eqB_ne (len_ne (l := l) (m := m) (by omega))]; exact ⟨_, rfl, false, .refl _⟩)
    | (rw [eqB_ne (at_ne (l := l) (m := m) (i := i) (by assumption) (by assumption) (by assumption))]; exact ⟨_, rfl, false, .refl _⟩)
    | (rw [eqB_eq (take_eq_full (l := l) (m := m) (i := i) (by omega) hpi (by omega))]; exact ⟨_, rfl, false, .refl _⟩)
    | exact loopFrH _ (by omega) ⟨i + 1, by omega, rfl, take_eq_step hpi (by assumption) (by assumption) (by assumption), rfl⟩ (.next rfl (by omega) .nil) rfl
    | (refine loop_frH [4, 5, 13, 14, 15, 16, 17, 18, 19, 20, 21, 22, 23, 24, 25] (fun mm_ CC_ => ∃ (i : Nat), i ≤ l.length ∧ mm_ = l.length - i ∧ (l.take i = m.take i) ∧ CC_ = [(13, .raw (.int .i64 ((i : Nat) : Int)))]) (l.length) _ ⟨0, by omega, by omega, rfl, rfl⟩ (.cons rfl .nil) ?_; rintro mm_ CC_ ji ⟨i, hi, rfl, hpi, rfl⟩)

mutual
noncomputable def fitsF (R : ByteArray → List DCond × Bool) (L : List DEnum) : Ex → List DCond → Bool
  | .mk k _ m _ a s, on =>
    if k = 1 ∨ k = 2 ∨ k = 4 then true
    else if k = 3 then (R m).2 && eqB (R m).1 on
    else if k = 8 then decide (s.length = 2) && fitsT R L s on
    else if k = 11 then decide (a.length = 1) && decide (s.length = 1) && (R m).2 && armOk L (a.headD ⟨#[]⟩) && eqB on ((R m).1 ++ [condOf L m (a.headD ⟨#[]⟩)]) && fitsL R L s (R m).1
    else if k = 12 then (R m).2 && eqB (R m).1 on && decide (a.length = s.length) && fitsM R L m a s on
    else if k = 17 then false
    else fitsL R L s on
noncomputable def fitsL (R : ByteArray → List DCond × Bool) (L : List DEnum) : List Ex → List DCond → Bool
  | [], _ => true
  | x :: xs, on => fitsF R L x on && fitsL R L xs on
noncomputable def fitsT (R : ByteArray → List DCond × Bool) (L : List DEnum) : List Ex → List DCond → Bool
  | [], _ => true
  | _ :: xs, on => fitsL R L xs on
noncomputable def fitsM (R : ByteArray → List DCond × Bool) (L : List DEnum) (m : ByteArray) : List ByteArray → List Ex → List DCond → Bool
  | _, [], _ => true
  | [], _ :: _, _ => true
  | c :: cs, x :: xs, on => armOk L c && fitsF R L x (on ++ [condOf L m c]) && fitsM R L m cs xs on
end
theorem fitsF_eq (R : ByteArray → List DCond × Bool) (L : List DEnum) (e : Ex) (on : List DCond) : fitsF R L e on =
    if e.kind = 1 ∨ e.kind = 2 ∨ e.kind = 4 then true
    else if e.kind = 3 then (R e.name).2 && eqB (R e.name).1 on
    else if e.kind = 8 then decide (e.subs.length = 2) && fitsL R L (e.subs.drop 1) on
    else if e.kind = 11 then decide (e.arms.length = 1) && decide (e.subs.length = 1) && (R e.name).2 && armOk L (e.arms.headD ⟨#[]⟩) && eqB on ((R e.name).1 ++ [condOf L e.name (e.arms.headD ⟨#[]⟩)]) && fitsL R L e.subs (R e.name).1
    else if e.kind = 12 then (R e.name).2 && eqB (R e.name).1 on && decide (e.arms.length = e.subs.length) && fitsM R L e.name e.arms e.subs on
    else if e.kind = 17 then false
    else fitsL R L e.subs on := by
  cases e with
  | mk k n m o a s =>
    rw [fitsF]
    have : fitsT R L s on = fitsL R L (s.drop 1) on := by cases s <;> simp [fitsT, fitsL]
    rw [this]
    rfl
section
variable {R : ByteArray → List DCond × Bool} {L : List DEnum}
theorem fitsL_all (s : List Ex) (on : List DCond) : fitsL R L s on = s.all (fun x => fitsF R L x on) := by
  induction s with
  | nil => simp [fitsL]
  | cons x s ih => simp [fitsL, ih]
theorem fitsM_yes {m : ByteArray} {on : List DCond} : ∀ {a : List ByteArray} {s : List Ex}, (∀ (i : Nat) c x, a[i]? = some c → s[i]? = some x → armOk L c = true ∧ fitsF R L x (on ++ [condOf L m c]) = true) → fitsM R L m a s on = true
  | _, [], _ => by simp [fitsM]
  | [], _ :: _, _ => by simp [fitsM]
  | c :: cs, x :: xs, h => by
    have h0 := h 0 c x rfl rfl
    rw [fitsM, h0.1, h0.2]
    simp only [Bool.true_and]
    exact fitsM_yes fun i c x hc hx => h (i + 1) c x (by simpa using hc) (by simpa using hx)
theorem fitsM_at {m : ByteArray} {on : List DCond} : ∀ {a : List ByteArray} {s : List Ex} {i : Nat} {c : ByteArray} {x : Ex}, fitsM R L m a s on = true → a[i]? = some c → s[i]? = some x → armOk L c = true ∧ fitsF R L x (on ++ [condOf L m c]) = true
  | _, [], i, _, _, _, _, hx => by simp at hx
  | [], _ :: _, i, _, _, _, hc, _ => by simp at hc
  | c :: cs, x :: xs, 0, c', x', h, hc, hx => by
    simp at hc hx
    subst hc; subst hx
    rw [fitsM] at h
    simp only [Bool.and_eq_true] at h
    exact h.1
  | c :: cs, x :: xs, i + 1, c', x', h, hc, hx => by
    rw [fitsM] at h
    simp only [Bool.and_eq_true] at h
    exact fitsM_at h.2 (by simpa using hc) (by simpa using hx)
theorem fitsM_no {m : ByteArray} {on : List DCond} {a : List ByteArray} {s : List Ex} {i : Nat} {c : ByteArray} {x : Ex} (hc : a[i]? = some c) (hx : s[i]? = some x) (h : armOk L c = false ∨ fitsF R L x (on ++ [condOf L m c]) = false) : fitsM R L m a s on = false := by
  cases hb : fitsM R L m a s on with
  | false => rfl
  | true =>
    have := fitsM_at hb hc hx
    simp_all
end
theorem monoAppI : ∀ (r x : List Blk), MonoH r (r ++ x)
  | [], _ => trivial
  | b :: r, x => ⟨by cases b <;> trivial, monoAppI r x⟩
theorem monoApp (r x : List Blk) : MonoH r (r ++ x) = True := eq_true (monoAppI r x)
theorem monoApp2 : ∀ (r x y : List Blk), MonoH (r ++ x) (r ++ y) = MonoH x y
  | [], _, _ => rfl
  | b :: r, x, y => by
    show ((match b with | .cells _ cs => (match b with | .cells _ cs' => cs = cs' | _ => False) | _ => True) ∧ MonoH (r ++ x) (r ++ y)) = _
    rw [monoApp2 r x y]
    cases b <;> simp
theorem on_split {on : List DCond} {k : Nat} {c : DCond} (hk : on.length = k + 1) (hc : on[k]? = some c) : on = on.take k ++ [c] := by
  obtain ⟨hlt, rfl⟩ := List.getElem?_eq_some_iff.1 hc
  rw [← List.take_succ_eq_append_getElem hlt, List.take_of_length_le (by omega)]
theorem eqB_split {on r : List DCond} {j : Nat} {c d : DCond} (hon : on = on.take j ++ [c]) : eqB on (r ++ [d]) = (eqB r (on.take j) && decide (c = d)) := by
  by_cases h1 : r = on.take j
  · by_cases h2 : c = d
    · rw [eqB_eq (by rw [h1, ← h2]; exact hon), eqB_eq h1]; simp [h2]
    · rw [eqB_ne (fun e => h2 (by rw [hon] at e; exact (List.append_inj' e rfl).2 |> fun q => by simpa using q))]; simp [h2]
  · rw [eqB_ne (fun e => h1 (by rw [hon] at e; exact (List.append_inj' e rfl).1.symm)), eqB_ne h1]; simp
theorem eq_one {α : Type} {l : List α} {x : α} (hl : l.length = 1) (hx : l[0]? = some x) : l = [x] := by
  match l, hl with
  | [y], _ => simp at hx; rw [hx]
theorem size_lt {e x : Ex} (h : x ∈ e.subs) : (parts x).length < (parts e).length := by
  obtain ⟨i, hi, rfl⟩ := List.getElem_of_mem h
  have := parts_le hi
  rw [parts_eq e]
  simp
  omega


theorem on129 (p : DProg) (k : Nat) (n : DNode) (hn : p.Nodes[k]? = some n) (hl : (allV n).length ≤ 4294967296) (name : ByteArray) (on : List DCond) :
    PCall Tryz.prog 185 [placeE p k, .s name, .lst 2 (on.map DCond.enc) none] (.b ((rowN p.Enums n name).2 && eqB (rowN p.Enums n name).1 on)) := by
  refine pcall_of_vc tabOK Tryz.func185 (by kernel_rfl) rfl (pure_cons (pure_place p k) (pure_cons (.raw _) (pure_cons (DCond.pures _) pure_nil))) (.raw _) (n := 21) rfl (rs := [.tmp 6]) rfl ?_
  simp only [go_sem]
  refine PCall.call (row90 p k n hn name hl) ?_
  generalize rowN p.Enums n name = r
  obtain ⟨r, ok⟩ := r
  cases ok with
  | false =>
    simp only [go_sem]
    first | exact ⟨_, rfl, false, .refl _⟩ | (refine drawK mo (by kernel_rfl) ?_; simp only [go_sem]; exact ⟨_, rfl, false, .refl _⟩)
  | true =>
    simp only [go_sem]
    first | refine PCall.call (equalCs r on) ?_ | (refine drawK mo (by kernel_rfl) ?_; simp only [go_sem]; refine pcK_of (equalCs r on) ?_)
    simp only [go_sem]
    exact ⟨_, rfl, false, .refl _⟩

theorem when134 (on : List DCond) (name : ByteArray) (v : Int) (hl : on.length ≤ 1000000) : PCall Tryz.prog 226 [.lst 2 (on.map DCond.enc) none, .s name, .i v] (.lst 2 ((on ++ [(⟨name, v⟩ : DCond)]).map DCond.enc) none) := by
  refine pcall_of_vc tabOK Tryz.func226 (by kernel_rfl) rfl pureL pureI (n := 15) rfl (rs := [.tmp 6]) rfl ?_
  repeat' first
    | exact finB rfl
    | exact finI rfl
    | exact finP rfl
    | exact absurd rfl (by assumption)
    | simp only [go_sem]
    | (intro _)
    | refine brK_dec (fun _ => ?_) (fun _ => ?_)
    | refine brK_any ?_ ?_
    | refine gK_dec (fun _ => ?_) (fun _ => ?_)
    | refine gK_any ?_ ?_
    | refine gqK_dec (fun _ => ?_) (fun _ => ?_)
    | refine ⟨by omega, ?_⟩
    | refine elemHave (by omega) (by assumption) ?_
    | refine elemMap (by omega) (by omega) (fun x hx => ?_)
    | refine drawK mo (by kernel_rfl) ?_
    | (refine ⟨⟨by simp, by simp; omega⟩, ?_⟩)
    | (refine ⟨⟨by omega, by omega⟩, ?_⟩)
    | (rw [List.map_append, show List.map DCond.enc [(⟨name, v⟩ : DCond)] = [.agg [.s name, .i v]] by simp [DCond.enc_eq]]; exact ⟨_, rfl, false, .tok _ _ _⟩)
end Go.Proofs.YtidjmcmfgimbfaaGreatDoor

namespace Go.Proofs.YtidjmcmfgimbfaaGreatDoor
open Go.Abs
set_option maxRecDepth 20000
set_option linter.unusedSimpArgs false
set_option linter.unusedVariables false
set_option maxHeartbeats 1000000
attribute [local irreducible] vc vcOps vcStep vcGuard prK hrK gK gsK brK callK ElemK SeqK BlockK ScopeK OpsK CallK LoopK LoopGo finPost ACall PCall PCallE BCall vqOps vqStep vqGuard qrK heK pcK gqK gqsK QOpsK qcallK DrawK

theorem when130 (p : DProg) (k : Nat) (n : DNode) (hn : p.Nodes[k]? = some n) (hl : (allV n).length ≤ 4294967296) (e : Ex) (on : List DCond) (h11 : e.kind = 11)
    (ih : ∀ x ∈ e.subs, ∀ on' : List DCond, on'.length ≤ on.length + 14 → PCall Tryz.prog 186 [placeE p k, x.enc, .lst 2 (on'.map DCond.enc) none] (.b (fitsF (rowN p.Enums n) p.Enums x on'))) :
    PCall Tryz.prog 223 [placeE p k, e.enc, .lst 2 (on.map DCond.enc) none] (.b (fitsF (rowN p.Enums n) p.Enums e on)) := by
  refine pcall_of_vc tabOK Tryz.func223 (by kernel_rfl) rfl (pure_cons (pure_place p k) (pure_cons (pure_enc e) (pure_cons (DCond.pures _) pure_nil))) (.raw _) (n := 67) rfl (rs := [.tmp 6]) rfl ?_
  have hB : fitsF (rowN p.Enums n) p.Enums e on = (decide (e.arms.length = 1) && decide (e.subs.length = 1) && (rowN p.Enums n e.name).2 && armOk p.Enums (e.arms.headD ⟨#[]⟩) && eqB on ((rowN p.Enums n e.name).1 ++ [condOf p.Enums e.name (e.arms.headD ⟨#[]⟩)]) && fitsL (rowN p.Enums n) p.Enums e.subs (rowN p.Enums n e.name).1) := by
    rw [fitsF_eq]; simp [h11]
  rw [hB]
  clear hB
  by_cases hst : ¬ (on.length = 0) ∧ e.arms.length = 1 ∧ e.subs.length = 1
  · obtain ⟨hon, ha1, hs1⟩ := hst
    obtain ⟨j, hj⟩ : ∃ j, on.length = j + 1 := ⟨on.length - 1, by omega⟩
    obtain ⟨c, hc⟩ : ∃ c, on[j]? = some c := ⟨_, List.getElem?_eq_getElem (by omega)⟩
    obtain ⟨a, ha⟩ : ∃ a, e.arms[0]? = some a := ⟨_, List.getElem?_eq_getElem (by omega)⟩
    obtain ⟨x, hx⟩ : ∃ x, e.subs[0]? = some x := ⟨_, List.getElem?_eq_getElem (by omega)⟩
    have hxm := List.mem_of_getElem? hx
    have hon' := on_split hj hc
    rw [eq_one ha1 ha]
    rw [show fitsL (rowN p.Enums n) p.Enums e.subs (rowN p.Enums n e.name).1 = fitsF (rowN p.Enums n) p.Enums x (rowN p.Enums n e.name).1 by rw [eq_one hs1 hx]; simp [fitsL]]
    simp only [hs1, List.headD_cons, List.length_singleton, decide_true, Bool.true_and]
    simp only [go_sem]
    intro hmax
    have hw : IntKind.i64.wrap ((on.length : Int) - 1) = (j : Int) := by rw [hj, wrap_in _ (by omega) (by omega)]; omega
    simp only [hw]
    repeat' first
      | (exfalso; omega)
      | simp only [go_sem]
      | refine brK_dec (fun _ => ?_) (fun _ => ?_)
      | refine gK_dec (fun _ => ?_) (fun _ => ?_)
      | refine gqK_dec (fun _ => ?_) (fun _ => ?_)
      | (intro _)
      | refine drawK mo (by kernel_rfl) ?_
      | refine elemHave (by omega) ha ?_
      | refine elemHave (by omega) hx ?_
      | refine elemHave (by omega) (by simpa using hc) ?_
      | (refine pcK_of (cond127 p k e.name a) ?_; generalize hok : armOk p.Enums a = ok; cases ok)
      | (refine pcK_of (on129 p k n hn hl e.name (on.take j)) ?_; rw [Int.toNat_natCast]; generalize hr : rowN p.Enums n e.name = r; obtain ⟨r, okr⟩ := r; cases okr <;> (try generalize hq : eqB r (on.take j) = q) <;> (try cases q) <;> (try (replace hq := eqB_t hq; subst hq)))
      | refine pcK_of (ih x hxm (on.take j) (by simp; omega)) ?_
      | refine ⟨by omega, ?_⟩
      | (refine finBq rfl ?_; first | (simp; done) | (rw [eqB_split hon']; clear hon'; simp [*]; done) | (rw [eqB_split hon', eqB_eq rfl]; clear hon'; simp [*]; done))
  · have hB : (decide (e.arms.length = 1) && decide (e.subs.length = 1) && (rowN p.Enums n e.name).2 && armOk p.Enums (e.arms.headD ⟨#[]⟩) && eqB on ((rowN p.Enums n e.name).1 ++ [condOf p.Enums e.name (e.arms.headD ⟨#[]⟩)]) && fitsL (rowN p.Enums n) p.Enums e.subs (rowN p.Enums n e.name).1) = false := by
      by_cases h0 : on.length = 0
      · have : eqB on ((rowN p.Enums n e.name).1 ++ [condOf p.Enums e.name (e.arms.headD ⟨#[]⟩)]) = false := eqB_ne (len_ne (by simp; omega))
        rw [this]; simp
      · have : ¬ (e.arms.length = 1) ∨ ¬ (e.subs.length = 1) := by
          rcases Classical.em (e.arms.length = 1) with q | q
          · exact .inr fun q' => hst ⟨h0, q, q'⟩
          · exact .inl q
        rcases this with q | q <;> simp [q]
    rw [hB]
    simp only [go_sem]
    intro hmax
    have hw : IntKind.i64.wrap ((on.length : Int) - 1) = (on.length : Int) - 1 := wrap_in _ (by omega) (by omega)
    simp only [hw]
    repeat' first
      | (exfalso; omega)
      | exact finP rfl
      | simp only [go_sem]
      | refine brK_dec (fun _ => ?_) (fun _ => ?_)
      | refine gK_dec (fun _ => ?_) (fun _ => ?_)
      | refine gqK_dec (fun _ => ?_) (fun _ => ?_)
      | (intro _)
      | refine drawK mo (by kernel_rfl) ?_
theorem weak_tk {sz : Nat} {es ds : List AV} {k : Nat} (h : es = ds) : Weak (.lst sz es (some k)) (.lst sz ds none) := h ▸ .tok _ _ _

theorem merge131 (p : DProg) (k : Nat) (n : DNode) (hn : p.Nodes[k]? = some n) (hl : (allV n).length ≤ 4294967296) (e : Ex) (on : List DCond) (h12 : e.kind = 12) (hlen : on.length ≤ 1000000)
    (ih : ∀ x ∈ e.subs, ∀ on' : List DCond, on'.length ≤ on.length + 14 → PCall Tryz.prog 186 [placeE p k, x.enc, .lst 2 (on'.map DCond.enc) none] (.b (fitsF (rowN p.Enums n) p.Enums x on'))) :
    PCall Tryz.prog 224 [placeE p k, e.enc, .lst 2 (on.map DCond.enc) none] (.b (fitsF (rowN p.Enums n) p.Enums e on)) := by
  refine pcall_of_vc tabOK Tryz.func224 (by kernel_rfl) rfl (pure_cons (pure_place p k) (pure_cons (pure_enc e) (pure_cons (DCond.pures _) pure_nil))) (.raw _) (n := 66) rfl (rs := [.tmp 6]) rfl ?_
  have hB : fitsF (rowN p.Enums n) p.Enums e on = ((rowN p.Enums n e.name).2 && eqB (rowN p.Enums n e.name).1 on && decide (e.arms.length = e.subs.length) && fitsM (rowN p.Enums n) p.Enums e.name e.arms e.subs on) := by
    rw [fitsF_eq]; simp [h12]
  rw [hB]
  clear hB
  have hon := on129 p k n hn hl e.name on
  simp only [go_sem]
  refine PCall.call hon ?_
  generalize ((rowN p.Enums n e.name).2 && eqB (rowN p.Enums n e.name).1 on) = b0
  cases b0 with
  | false =>
    rw [Bool.false_and, Bool.false_and]
    simp only [go_sem]
    exact finP rfl
  | true =>
    rw [Bool.true_and]
    simp only [go_sem]
    intro _ _
    refine brK_dec (fun hne => ?_) (fun heq => ?_)
    · simp only [go_sem]
      exact finBq rfl (by have : ¬ (e.arms.length = e.subs.length) := by omega
                          simp [this])
    · have heq' : e.arms.length = e.subs.length := by omega
      rw [decide_eq_true heq', Bool.true_and]
      simp only [go_sem, List.take_length]
      intro _ _
      refine ⟨by omega, ?_⟩
      intro _
      refine loop_frX [6, 8, 9, 10, 11, 36, 37, 38, 39, 40, 41, 42, 43, 44, 45, 46, 47, 48, 49, 50, 51, 52, 53, 54, 55, 56, 57, 58, 59, 60, 61, 62, 63, 64, 65] (fun m C => ∃ i : Nat, i ≤ e.arms.length ∧ m = e.arms.length - i ∧ (∀ (j : Nat) c x, j < i → e.arms[j]? = some c → e.subs[j]? = some x → armOk p.Enums c = true ∧ fitsF (rowN p.Enums n) p.Enums x (on ++ [condOf p.Enums e.name c]) = true) ∧ C = [(36, .raw (.int .i64 (i : Nat)))]) e.arms.length _ ⟨0, by omega, by omega, fun j c x hj => by omega, rfl⟩ (.cons rfl .nil) ?_
      rintro m C jj r ⟨i, hi, rfl, hp, rfl⟩
      simp only [go_sem]
      refine brK_dec (fun hlt => ?_) (fun hge => ?_)
      · have hlt' : i < e.arms.length := by omega
        obtain ⟨c, hc⟩ : ∃ c, e.arms[i]? = some c := ⟨_, List.getElem?_eq_getElem hlt'⟩
        obtain ⟨x, hx⟩ : ∃ x, e.subs[i]? = some x := ⟨_, List.getElem?_eq_getElem (by omega)⟩
        simp only [go_sem]
        refine elemHave (by omega) (by simpa using hc) ?_
        simp only [go_sem]
        refine PCall.call (cond127 p k e.name c) ?_
        generalize hok : armOk p.Enums c = ok
        cases ok with
        | false =>
          simp only [go_sem]
          refine drawK mo (by kernel_rfl) ?_
          simp only [go_sem, monoApp, monoApp2]
          exact finBq rfl (fitsM_no hc hx (.inl hok)).symm
        | true =>
          simp only [go_sem]
          refine drawK mo (by kernel_rfl) ?_
          simp only [go_sem, monoApp, monoApp2]
          refine elemHave (by omega) (by simpa using hx) ?_
          simp only [go_sem, monoApp, monoApp2]
          simp only [Int.toNat_natCast, List.take_length]
          refine ⟨⟨by first | rfl | trivial | omega, by omega⟩, ?_⟩
          refine pcK_ofW (ih x (List.mem_of_getElem? hx) (on ++ [condOf p.Enums e.name c]) (by simp)) ⟨.refl _, .refl _, weak_tk (by simp), trivial⟩ ?_
          generalize hf : fitsF (rowN p.Enums n) p.Enums x (on ++ [condOf p.Enums e.name c]) = f
          cases f with
          | false =>
            simp only [go_sem]
            exact finBq rfl (fitsM_no hc hx (.inr hf)).symm
          | true =>
            simp only [go_sem]
            exact loopFrX _ (by omega) _ ⟨i + 1, by omega, rfl, fun j c' x' hj hc' hx' => by
              rcases Nat.lt_or_ge j i with h | h
              · exact hp j c' x' h hc' hx'
              · have : j = i := by omega
                subst this
                rw [hc] at hc'; rw [hx] at hx'
                cases hc'; cases hx'
                exact ⟨hok, hf⟩, rfl⟩ (.next rfl (by omega) .nil) rfl (by first | rfl | (simp only [List.append_assoc, List.cons_append, List.nil_append]; rfl))
      · have : i = e.arms.length := by omega
        subst this
        simp only [go_sem]
        refine finBq rfl (fitsM_yes fun j c x hc hx => hp j c x (List.getElem?_eq_some_iff.1 hc).1 hc hx).symm

theorem containsEx {l : List Ex} {p : Ex → Bool} {g : Nat} {first capt : List AV} {h : List Blk} {K : AV → List Blk → Prop} (hp : ∀ x ∈ l, ∀ K : AV → List Blk → Prop, K (.b (p x)) h → ACall Tryz.prog g (first ++ Ex.enc x :: capt) h K)
    (hK : K (.b (l.any p)) h) : ACall Tryz.prog 109 [.lst 6 (l.map Ex.enc) none, .fn (.func g) first capt] h K := by
  refine acall_of_vc tabOK Tryz.func109 (by kernel_rfl) rfl (n := 9) rfl (rs := [.tmp 4]) rfl ?_
  simp only [go_sem]
  refine indexEx hp ?_
  simp only [go_sem]
  rw [idx_any]
  exact finH1 rfl (.raw _) hK



theorem fits92 (p : DProg) (k : Nat) (n : DNode) (hn : p.Nodes[k]? = some n) (hl : (allV n).length ≤ 4294967296) : ∀ (e : Ex) (on : List DCond), on.length + 14 * (parts e).length ≤ 100000 →
    PCall Tryz.prog 186 [placeE p k, e.enc, .lst 2 (on.map DCond.enc) none] (.b (fitsF (rowN p.Enums n) p.Enums e on)) := by
  intro e
  induction e using Ex.ind with
  | _ e ih =>
  intro on hb
  have ih' : ∀ x ∈ e.subs, ∀ on' : List DCond, on'.length ≤ on.length + 14 → PCall Tryz.prog 186 [placeE p k, x.enc, .lst 2 (on'.map DCond.enc) none] (.b (fitsF (rowN p.Enums n) p.Enums x on')) :=
    fun x hx on' h => ih x hx on' (by have := size_lt hx; omega)
  refine pcall_of_vc tabOK Tryz.func186 (by kernel_rfl) rfl (pure_cons (pure_place p k) (pure_cons (pure_enc e) (pure_cons (DCond.pures _) pure_nil))) (.raw _) (n := 48) rfl (rs := [.tmp 6]) rfl ?_
  simp only [go_sem]
  repeat' first
    | (exfalso; omega)
    | simp only [go_sem]
    | refine brK_dec (fun _ => ?_) (fun _ => ?_)
    | (intro _)
    | refine ⟨by omega, ?_⟩
    | refine PCall.call (on129 p k n hn hl e.name on) ?_
    | refine PCall.call (when130 p k n hn hl e on (by assumption) ih') ?_
    | refine PCall.call (merge131 p k n hn hl e on (by assumption) (by omega) ih') ?_
    | (refine finBq rfl ?_; rw [fitsF_eq]; first | (simp [*]; done) | (have h2 : ¬ e.subs.length = 2 := (by omega); simp [*]; done))
    | (refine finBq rfl rfl)
    | (refine containsEx (p := fun x => !fitsF (rowN p.Enums n) p.Enums x on) (fun x hx K hK => ?_) ?_
       · refine acall_of_vc tabOK Tryz.func225 (by kernel_rfl) rfl (n := 10) rfl (rs := [.tmp 4]) rfl ?_
         simp only [go_sem]
         refine PCall.call (ih' x (by first | exact hx | exact List.mem_of_mem_drop hx) on (by omega)) ?_
         simp only [go_sem]
         exact finH0 _ rfl (.raw _) hK
       simp only [go_sem]
       refine finBq rfl ?_
       rw [fitsF_eq]
       first | (simp [*, fitsL_all, List.all_eq_not_any_not]; done) | (have h2 : e.subs.length = 2 := (by omega); simp [*, fitsL_all, List.all_eq_not_any_not]; done))

theorem nodeAt_nat {p : DProg} {k : Nat} : nodeAt p k = p.Nodes[k]? := by simp [nodeAt]
abbrev progB (p : DProg) : Blk := .cells 25 [.lst 2 (p.Enums.map DEnum.enc) none, .lst 5 (p.Nodes.map DNode.enc) none]
theorem armA_fst (L : List DEnum) (c : ByteArray) : armA (armF L c) = armA ((armF L c).1, (armF L c).2.1, armOk L c) := rfl
theorem row46v (p : DProg) (k : Nat) (n : DNode) (hn : p.Nodes[k]? = some n) (name : ByteArray) (hl : (allV n).length ≤ 4294967296) : PCall Tryz.prog 71 [p.enc, .i k, .s name] (rowA (rowN p.Enums n name)) := by
  refine pcall_of_vc tabOK Tryz.func71 (by kernel_rfl) rfl pureL pureI (n := 68) rfl (rs := [.tmp 6, .tmp 7]) rfl ?_
  have hk : k < p.Nodes.length := (List.getElem?_eq_some_iff.1 hn).1
  repeat' first | (exfalso; omega) | simp only [go_sem] | (intro _) | refine gK_dec (fun _ => ?_) (fun _ => ?_) | refine brK_dec (fun _ => ?_) (fun _ => ?_)
  refine elemHave (by omega) (by simpa using hn) ?_
  simp only [go_sem]
  refine PCall.call (clock22 n name hl) ?_
  unfold rowN
  have hlen := clock_len n name
  generalize clock n name = d at hlen ⊢
  obtain ⟨l, ok⟩ := d
  dsimp only at hlen
  cases ok with
  | false =>
    simp only [go_sem]
    exact ⟨_, rfl, false, weak_norow⟩
  | true =>
    simp only [go_sem]
    refine loop_fr [6, 7, 10, 11, 12, 13, 14, 37, 38, 39, 40, 41, 42, 43, 44, 45, 46, 47, 48, 49, 50, 51, 52, 53, 54, 55, 56, 57, 58, 59, 60, 61, 62, 63, 64, 65, 66] (fun m C h => ∃ (i : Nat) (r : List Blk), i ≤ l.length ∧ m = l.length - i ∧ (∀ d ∈ l.take i, armOk p.Enums d.Ctor = true) ∧ C = [(11, .raw (.int .i64 (i : Nat))), (10, .lst 2 (((l.take i).map (fun d => condOf p.Enums d.On d.Ctor)).map DCond.enc) (some 1))] ∧
      h = progB p :: .tok 61 2 (((l.take i).map (fun d => condOf p.Enums d.On d.Ctor)).map DCond.enc).length :: r) l.length _ ⟨0, [], by omega, by omega, by simp, rfl, rfl⟩ (.cons rfl (.cons rfl .nil)) ?_
    rintro m C j h ⟨i, r, hi, rfl, ha, rfl, rfl⟩
    simp only [go_sem]
    intro _
    refine brK_dec (fun hlt => ?_) (fun hge => ?_)
    · simp only [go_sem]
      refine drawK mo (by kernel_rfl) ?_
      simp only [go_sem]
      refine elemMap (by omega) (by omega) (fun x hx => ?_)
      have hx' : l[i]? = some x := by simpa using hx
      simp only [go_sem]
      refine pcK_of (arm91 p.Enums x.Ctor) ?_
      rw [armA_fst]
      generalize hb : armOk p.Enums x.Ctor = ok
      cases ok with
      | false =>
        simp only [go_sem, monoApp, monoApp2]
        rw [rowL_no (List.mem_of_getElem? hx') hb]
        exact ⟨_, rfl, false, weak_norow⟩
      | true =>
        simp only [go_sem, monoApp, monoApp2]
        refine elemMap (by omega) (by omega) (fun y hy => ?_)
        rw [hx] at hy; cases hy
        simp only [go_sem]
        refine ⟨by simp; omega, ?_⟩
        have h3 : ((l.take (i + 1)).map (fun d => condOf p.Enums d.On d.Ctor)).map DCond.enc = ((l.take i).map (fun d => condOf p.Enums d.On d.Ctor)).map DCond.enc ++ [.agg [.s x.On, .i (armF p.Enums x.Ctor).2.1]] := by
          obtain ⟨hlt', rfl⟩ := List.getElem?_eq_some_iff.1 hx'
          rw [List.take_succ_eq_append_getElem hlt', List.map_append, List.map_append]
          simp only [List.map_cons, List.map_nil, DCond.enc_eq, condOf]
        have h4 : (l.take (i + 1)).length = (l.take i).length + 1 := by simp; omega
        exact loopFr _ (by omega) ⟨i + 1, _, by omega, rfl, take_all ha hx' hb, rfl, by rw [h4]⟩
          (.next rfl (by omega) (.cons (by rw [h3]; rfl) .nil)) rfl
    · have : i = l.length := by omega
      subst this
      simp only [go_sem]
      rw [List.take_length] at ha ⊢
      rw [rowL_yes ha]
      exact ⟨_, rfl, false, Weak.tups ⟨.tok _ _ _, .refl _, trivial⟩⟩
theorem when93 (p : DProg) (k : Nat) (n : DNode) (hn : p.Nodes[k]? = some n) (hl : (allV n).length ≤ 4294967296) (e : Ex) (on : List DCond) (h11 : e.kind = 11)
    (ih : ∀ x ∈ e.subs, ∀ on' : List DCond, on'.length ≤ on.length + 14 → PCall Tryz.prog 124 [p.enc, .i k, x.enc, .lst 2 (on'.map DCond.enc) none] (.b (fitsF (rowN p.Enums n) p.Enums x on'))) (hrow : (rowN p.Enums n e.name).1.length ≤ 13) :
    PCall Tryz.prog 187 [p.enc, .i k, e.enc, .lst 2 (on.map DCond.enc) none] (.b (fitsF (rowN p.Enums n) p.Enums e on)) := by
  refine pcall_of_vc tabOK Tryz.func187 (by kernel_rfl) rfl pureL pureI (n := 67) rfl (rs := [.tmp 8]) rfl ?_
  have hB : fitsF (rowN p.Enums n) p.Enums e on = (decide (e.arms.length = 1) && decide (e.subs.length = 1) && (rowN p.Enums n e.name).2 && armOk p.Enums (e.arms.headD ⟨#[]⟩) && eqB on ((rowN p.Enums n e.name).1 ++ [condOf p.Enums e.name (e.arms.headD ⟨#[]⟩)]) && fitsL (rowN p.Enums n) p.Enums e.subs (rowN p.Enums n e.name).1) := by
    rw [fitsF_eq]; simp [h11]
  rw [hB]
  clear hB
  simp only [go_sem]
  refine PCall.call (row46v p k n hn e.name hl) ?_
  generalize hR : rowN p.Enums n e.name = r at hrow ⊢
  obtain ⟨r, okr⟩ := r
  dsimp only at hrow
  by_cases hst : e.arms.length = 1 ∧ e.subs.length = 1
  · obtain ⟨ha1, hs1⟩ := hst
    obtain ⟨a, ha⟩ : ∃ a, e.arms[0]? = some a := ⟨_, List.getElem?_eq_getElem (by omega)⟩
    obtain ⟨x, hx⟩ : ∃ x, e.subs[0]? = some x := ⟨_, List.getElem?_eq_getElem (by omega)⟩
    have hxm := List.mem_of_getElem? hx
    rw [show e.arms.headD ⟨#[]⟩ = a by rw [eq_one ha1 ha]; rfl]
    rw [show fitsL (rowN p.Enums n) p.Enums e.subs r = fitsF (rowN p.Enums n) p.Enums x r by rw [eq_one hs1 hx]; simp [fitsL]]
    rw [decide_eq_true ha1, decide_eq_true hs1, Bool.true_and, Bool.true_and]
    cases okr with
    | false =>
      repeat' first
        | (exfalso; omega)
        | exact finBq rfl (by simp)
        | simp only [go_sem]
        | (intro _)
        | refine brK_dec (fun _ => ?_) (fun _ => ?_)
        | refine gK_dec (fun _ => ?_) (fun _ => ?_)
    | true =>
      repeat' first
        | (exfalso; omega)
        | simp only [go_sem, monoApp, monoApp2]
        | (intro _)
        | refine brK_dec (fun _ => ?_) (fun _ => ?_)
        | refine gK_dec (fun _ => ?_) (fun _ => ?_)
        | refine gqK_dec (fun _ => ?_) (fun _ => ?_)
        | refine drawK mo (by kernel_rfl) ?_
        | refine elemHave (by omega) ha ?_
        | refine elemHave (by omega) hx ?_
        | (refine pcK_of (arm91 p.Enums a) ?_; rw [armA_fst]; generalize hok : armOk p.Enums a = ok; cases ok)
        | refine pcK_of (when134 r e.name (armF p.Enums a).2.1 (by omega)) ?_
        | (refine pcK_of (sameCs on (r ++ [(⟨e.name, (armF p.Enums a).2.1⟩ : DCond)])) ?_; rw [show condOf p.Enums e.name a = ⟨e.name, (armF p.Enums a).2.1⟩ from rfl]; generalize eqB on (r ++ [(⟨e.name, (armF p.Enums a).2.1⟩ : DCond)]) = q; cases q)
        | refine pcK_of (ih x hxm r (by omega)) ?_
        | (refine finBq rfl ?_; first | rfl | (simp; done))
  · have hB : ∀ z, (decide (e.arms.length = 1) && decide (e.subs.length = 1) && okr && armOk p.Enums (e.arms.headD ⟨#[]⟩) && eqB on (r ++ [condOf p.Enums e.name (e.arms.headD ⟨#[]⟩)]) && z) = false := by
      intro z
      have : ¬ (e.arms.length = 1) ∨ ¬ (e.subs.length = 1) := by
        rcases Classical.em (e.arms.length = 1) with q | q
        · exact .inr fun q' => hst ⟨q, q'⟩
        · exact .inl q
      rcases this with q | q <;> simp [q]
    rw [hB]
    cases okr <;>
    repeat' first
      | (exfalso; omega)
      | exact finP rfl
      | simp only [go_sem]
      | (intro _)
      | refine brK_dec (fun _ => ?_) (fun _ => ?_)
      | refine gK_dec (fun _ => ?_) (fun _ => ?_)
      | refine drawK mo (by kernel_rfl) ?_

theorem merge94 (p : DProg) (k : Nat) (n : DNode) (hn : p.Nodes[k]? = some n) (hl : (allV n).length ≤ 4294967296) (e : Ex) (on : List DCond) (h12 : e.kind = 12) (hlen : on.length ≤ 1000000)
    (ih : ∀ x ∈ e.subs, ∀ on' : List DCond, on'.length ≤ on.length + 14 → PCall Tryz.prog 124 [p.enc, .i k, x.enc, .lst 2 (on'.map DCond.enc) none] (.b (fitsF (rowN p.Enums n) p.Enums x on'))) :
    PCall Tryz.prog 188 [p.enc, .i k, e.enc, .lst 2 (on.map DCond.enc) none] (.b (fitsF (rowN p.Enums n) p.Enums e on)) := by
  refine pcall_of_vc tabOK Tryz.func188 (by kernel_rfl) rfl pureL pureI (n := 77) rfl (rs := [.tmp 8]) rfl ?_
  have hB : fitsF (rowN p.Enums n) p.Enums e on = ((rowN p.Enums n e.name).2 && eqB (rowN p.Enums n e.name).1 on && decide (e.arms.length = e.subs.length) && fitsM (rowN p.Enums n) p.Enums e.name e.arms e.subs on) := by
    rw [fitsF_eq]; simp [h12]
  rw [hB]
  clear hB
  simp only [go_sem]
  refine PCall.call (row46v p k n hn e.name hl) ?_
  generalize hR : rowN p.Enums n e.name = r
  obtain ⟨r, okr⟩ := r
  by_cases hst : okr = true ∧ r = on ∧ e.arms.length = e.subs.length
  · obtain ⟨rfl, rfl, heq'⟩ := hst
    rw [decide_eq_true heq', eqB_eq rfl]
    simp only [Bool.true_and]
    repeat' first
      | (exfalso; omega)
      | simp only [go_sem, eqB_eq, Bool.not_true]
      | (intro _)
      | (refine PCall.call (sameCs r r) ?_; rw [eqB_eq rfl])
      | (refine pcK_of (sameCs r r) ?_; rw [eqB_eq rfl])
      | refine drawK mo (by kernel_rfl) ?_
      | refine gK_dec (fun _ => ?_) (fun _ => ?_)
      | refine brK_dec (fun _ => ?_) (fun _ => ?_)
    refine loop_frX [8, 11, 12, 13, 14, 40, 41, 42, 43, 44, 45, 46, 47, 48, 49, 50, 51, 52, 53, 54, 55, 56, 57, 58, 59, 60, 61, 62, 63, 64, 65, 66, 67, 68, 69, 70, 71, 72, 73, 74, 75, 76] (fun m C => ∃ i : Nat, i ≤ e.arms.length ∧ m = e.arms.length - i ∧ (∀ (j : Nat) c x, j < i → e.arms[j]? = some c → e.subs[j]? = some x → armOk p.Enums c = true ∧ fitsF (rowN p.Enums n) p.Enums x (r ++ [condOf p.Enums e.name c]) = true) ∧ C = [(11, .raw (.int .i64 (i : Nat)))]) e.arms.length _ ⟨0, by omega, by omega, fun j c x hj => by omega, rfl⟩ (.cons rfl .nil) ?_
    rintro m C jj R ⟨i, hi, rfl, hp, rfl⟩
    simp only [go_sem]
    intro _
    refine brK_dec (fun hlt => ?_) (fun hge => ?_)
    · have hlt' : i < e.arms.length := by omega
      obtain ⟨c, hc⟩ : ∃ c, e.arms[i]? = some c := ⟨_, List.getElem?_eq_getElem hlt'⟩
      obtain ⟨x, hx⟩ : ∃ x, e.subs[i]? = some x := ⟨_, List.getElem?_eq_getElem (by omega)⟩
      simp only [go_sem]
      refine drawK mo (by kernel_rfl) ?_
      simp only [go_sem]
      refine elemHave (by omega) (by simpa using hc) ?_
      simp only [go_sem]
      refine pcK_of (arm91 p.Enums c) ?_
      rw [armA_fst]
      generalize hok : armOk p.Enums c = ok
      cases ok with
      | false =>
        simp only [go_sem, monoApp, monoApp2]
        refine drawK mo (by kernel_rfl) ?_
        simp only [go_sem]
        exact finBq rfl (fitsM_no hc hx (.inl hok)).symm
      | true =>
        simp only [go_sem, monoApp, monoApp2]
        refine drawK mo (by kernel_rfl) ?_
        simp only [go_sem]
        refine elemHave (by omega) (by simpa using hx) ?_
        simp only [go_sem]
        refine pcK_of (when134 r e.name (armF p.Enums c).2.1 (by omega)) ?_
        simp only [go_sem]
        refine pcK_of (ih x (List.mem_of_getElem? hx) (r ++ [condOf p.Enums e.name c]) (by simp)) ?_
        generalize hf : fitsF (rowN p.Enums n) p.Enums x (r ++ [condOf p.Enums e.name c]) = f
        cases f with
        | false =>
          simp only [go_sem]
          exact finBq rfl (fitsM_no hc hx (.inr hf)).symm
        | true =>
          simp only [go_sem]
          exact loopFrX _ (by omega) _ ⟨i + 1, by omega, rfl, fun j c' x' hj hc' hx' => by
            rcases Nat.lt_or_ge j i with h | h
            · exact hp j c' x' h hc' hx'
            · have : j = i := by omega
              subst this
              rw [hc] at hc'; rw [hx] at hx'
              cases hc'; cases hx'
              exact ⟨hok, hf⟩, rfl⟩ (.next rfl (by omega) .nil) rfl (by first | rfl | (simp only [List.append_assoc, List.cons_append, List.nil_append]; rfl))
    · have : i = e.arms.length := by omega
      subst this
      simp only [go_sem]
      refine finBq rfl (fitsM_yes fun j c x hc hx => hp j c x (List.getElem?_eq_some_iff.1 hc).1 hc hx).symm
  · have hB : ∀ z, (okr && eqB r on && decide (e.arms.length = e.subs.length) && z) = false := by
      intro z
      cases okr with
      | false => simp
      | true =>
        by_cases h1 : r = on
        · have : ¬ e.arms.length = e.subs.length := fun q => hst ⟨rfl, h1, q⟩
          simp [this]
        · rw [eqB_ne h1]; simp
    rw [hB]
    generalize hq : eqB r on = q
    cases okr <;> cases q <;>
    repeat' first
      | (exfalso; omega)
      | (exfalso; exact hst ⟨rfl, eqB_t hq, by omega⟩)
      | exact finP rfl
      | simp only [go_sem]
      | (intro _)
      | (refine PCall.call (sameCs r on) ?_; rw [hq])
      | (refine pcK_of (sameCs r on) ?_; rw [hq])
      | refine drawK mo (by kernel_rfl) ?_
      | refine brK_dec (fun _ => ?_) (fun _ => ?_)
      | refine gK_dec (fun _ => ?_) (fun _ => ?_)
      | refine gqK_dec (fun _ => ?_) (fun _ => ?_)
theorem rowN_len (L : List DEnum) (n : DNode) (nm : ByteArray) : (rowN L n nm).1.length ≤ 13 := by
  unfold rowN rowL
  have := clock_len n nm
  split
  · split
    · simpa using this
    · simp
  · simp
theorem drop_two {l : List Ex} {x : Ex} (h : l.length = 2) (hx : l[((1 : Int)).toNat]? = some x) : l.drop 1 = [x] := by
  match l, h with
  | [a, b], _ => simp at hx; simp [hx]
theorem fitsL_no {R : ByteArray → List DCond × Bool} {L : List DEnum} {l : List Ex} {x : Ex} {on : List DCond} (hx : x ∈ l) (h : fitsF R L x on = false) : fitsL R L l on = false := by
  rw [fitsL_all, List.all_eq_false]
  exact ⟨x, hx, by simp [h]⟩

theorem fits49 (p : DProg) (k : Nat) (n : DNode) (hn : p.Nodes[k]? = some n) (hl : (allV n).length ≤ 4294967296) : ∀ (e : Ex) (on : List DCond), on.length + 14 * (parts e).length ≤ 100000 →
    PCall Tryz.prog 124 [p.enc, .i k, e.enc, .lst 2 (on.map DCond.enc) none] (.b (fitsF (rowN p.Enums n) p.Enums e on)) := by
  intro e
  induction e using Ex.ind with
  | _ e ih =>
  intro on hb
  have hk : k < p.Nodes.length := (List.getElem?_eq_some_iff.1 hn).1
  have ih' : ∀ x ∈ e.subs, ∀ on' : List DCond, on'.length ≤ on.length + 14 → PCall Tryz.prog 124 [p.enc, .i k, x.enc, .lst 2 (on'.map DCond.enc) none] (.b (fitsF (rowN p.Enums n) p.Enums x on')) :=
    fun x hx on' h => ih x hx on' (by have := size_lt hx; omega)
  refine pcall_of_vc tabOK Tryz.func124 (by kernel_rfl) rfl pureL pureI (n := 92) rfl (rs := [.tmp 8]) rfl ?_
  repeat' first
    | exact finB rfl
    | exact finI rfl
    | exact finP rfl
    | exact absurd rfl (by assumption)
    | simp only [go_sem]
    | (intro _)
    | refine brK_dec (fun _ => ?_) (fun _ => ?_)
    | refine brK_any ?_ ?_
    | refine gK_dec (fun _ => ?_) (fun _ => ?_)
    | refine gK_any ?_ ?_
    | refine gqK_dec (fun _ => ?_) (fun _ => ?_)
    | refine ⟨by omega, ?_⟩
    | refine elemHave (by omega) (by assumption) ?_
    | refine elemMap (by omega) (by omega) (fun x hx => ?_)
    | refine drawK mo (by kernel_rfl) ?_
    | (exfalso; omega)
    | (refine PCall.call (row46v p k n hn e.name hl) ?_; generalize hR : rowN p.Enums n e.name = r; obtain ⟨r, okr⟩ := r; cases okr)
    | (refine pcK_of (sameCs _ on) ?_)
    | (refine PCall.call (sameCs _ on) ?_)
    | (refine PCall.call (when93 p k n hn hl e on (by assumption) ih' (rowN_len _ _ _)) ?_)
    | (refine PCall.call (merge94 p k n hn hl e on (by assumption) (by omega) ih') ?_)
    | (have hxm := List.mem_of_getElem? hx; refine pcK_of (ih' x hxm on (by omega)) ?_; generalize hfx : fitsF (rowN p.Enums n) p.Enums x on = fx; cases fx)
    | (refine finBq rfl ?_; rw [fitsF_eq]; first
        | (simp [*]; done)
        | (have h2 : ¬ e.subs.length = 2 := (by omega); simp [*]; done)
        | (have h2 : e.subs.length = 2 := (by omega); rw [drop_two h2 hx]; simp [fitsL, *]; done)
        | (have hLL := fitsL_no hxm hfx; simp [*]; done)
        | (have hLL : fitsL (rowN p.Enums n) p.Enums e.subs on = true := (by rw [fitsL_all]; exact List.all_eq_true.2 (take_full hpi (by omega))); simp [*]; done))
    | exact loopFrH _ (by omega) ⟨i + 1, by omega, rfl, take_all hpi (by simpa using hx) hfx, rfl⟩ (.next rfl (by omega) .nil) rfl
    | (refine loop_frH [8, 11, 75, 76, 77, 78, 79, 80, 81, 82, 83, 84, 85, 86, 87, 88, 89, 90, 91] (fun mm_ CC_ => ∃ (i : Nat), i ≤ e.subs.length ∧ mm_ = e.subs.length - i ∧ (∀ x ∈ e.subs.take i, fitsF (rowN p.Enums n) p.Enums x on = true) ∧ CC_ = [(11, .raw (.int .i64 ((i : Nat) : Int)))]) (e.subs.length) _ ⟨0, by omega, by omega, by simp, rfl⟩ (.cons rfl .nil) ?_; rintro mm_ CC_ ji ⟨i, hi, rfl, hpi, rfl⟩)
abbrev live7C : DDecl := ⟨⟨#[99]⟩, ⟨2, 0, 0⟩, ⟨#[]⟩, ⟨#[]⟩⟩
abbrev live7H : DDecl := ⟨⟨#[104]⟩, ⟨1, 0, 0⟩, ⟨#[99]⟩, ⟨#[116, 114, 117, 101]⟩⟩
abbrev live7N : DNode := ⟨⟨#[102]⟩, [live7C], [], [live7H], []⟩
abbrev live7P : DProg := ⟨[], [live7N]⟩
theorem live7_row : rowF live7P 0 ⟨#[104]⟩ = ([⟨⟨#[99]⟩, 1⟩], true) := by
  have h : clock live7N ⟨#[104]⟩ = ([live7H], true) := by decide +kernel
  show rowN [] live7N ⟨#[104]⟩ = _
  unfold rowN
  rw [h, if_pos rfl, rowL_yes (by intro d hd; rw [List.mem_singleton.1 hd]; rfl)]
  rfl
theorem weak7 (a b c : Nat) : Weak (.agg [.raw (.slice none 0 0), .lst 5 [.agg [.s ⟨#[102]⟩, .lst 6 [.agg [.s ⟨#[99]⟩, .i 2, .i 0, .i 0, .s ⟨#[]⟩, .s ⟨#[]⟩]] (some a), .raw (.slice none 0 0), .lst 6 [.agg [.s ⟨#[104]⟩, .i 1, .i 0, .i 0, .s ⟨#[99]⟩, .s ⟨#[116, 114, 117, 101]⟩]] (some b), .raw (.slice none 0 0)]] (some c)]) live7P.enc := by
  rw [DProg.enc_eq]
  refine Weak.aggs ⟨.nil _, ?_, trivial⟩
  refine Weak.lsts (by simp) (by intro e he; obtain ⟨x, _, rfl⟩ := List.mem_map.1 he; rw [DNode.enc_cells]; rfl) ?_
  show WeakL _ (flat [live7N.enc])
  rw [DNode.enc_eq]
  exact ⟨.refl _, weak_tk (by simp [DDecl.enc_eq]), .nil _, weak_tk (by simp [DDecl.enc_eq]), .nil _, trivial⟩
theorem live7_ok : ∀ n ∈ live7P.Nodes, (allV n).length ≤ 4294967296 := by
  intro n hn
  rw [List.mem_singleton.1 hn]
  simp [allV]
theorem eql7 : structAV ti 61 .eql (.agg [.s ⟨#[99]⟩, .i 1]) (.agg [.raw (.string ⟨#[99]⟩), .raw (.int .i64 1)]) = .ok (.raw (.bool true)) := by
  have := eql_DCond ⟨⟨#[99]⟩, 1⟩ ⟨⟨#[99]⟩, 1⟩
  rw [DCond.enc_eq] at this
  simpa using this

theorem live44  : PCall Tryz.prog 26 [] (.b true) := by
  refine pcall_of_vc tabOK Tryz.func26 (by kernel_rfl) rfl pureL pureI (n := 31) rfl (rs := [.tmp 0]) rfl ?_
  simp only [go_sem]
  refine PCall.callW (row45 live7P 0 ⟨#[104]⟩ live7_ok) ⟨weak7 _ _ _, .refl _, .refl _, trivial⟩ ?_
  rw [live7_row]
  repeat' first
    | exact finB rfl
    | exact finI rfl
    | exact finP rfl
    | exact absurd rfl (by assumption)
    | simp only [go_sem]
    | (intro _)
    | refine brK_dec (fun _ => ?_) (fun _ => ?_)
    | refine brK_any ?_ ?_
    | refine gK_dec (fun _ => ?_) (fun _ => ?_)
    | refine gK_any ?_ ?_
    | refine gqK_dec (fun _ => ?_) (fun _ => ?_)
    | refine ⟨by omega, ?_⟩
    | refine elemHave (by omega) (by assumption) ?_
    | refine elemMap (by omega) (by omega) (fun x hx => ?_)
    | refine drawK mo (by kernel_rfl) ?_
    | (refine elemK _ (by omega) rfl ?_)
    | (rw [eql7])
    | (exact absurd rfl (by assumption))
    | (exact finBq rfl (by simp))
theorem allV_le7 {p : DProg} (h : okProg p) : ∀ n ∈ p.Nodes, (allV n).length ≤ 4294967296 := by
  intro n hn
  have h := h.2.2 n hn
  have h1 := h.1.1
  have h2 := h.2.1.1
  have h3 := h.2.2.1.1
  simp [allV]
  omega
def rowsOk (L : List DEnum) (n : DNode) : Bool := (allV n).all fun d => (rowN L n d.Name).2
noncomputable def eqCk (L : List DEnum) (n : DNode) (q : DEq) : Bool := q.Names.all (fun s => eqB (rowN L n s).1 (rowN L n (q.Names.headD ⟨#[]⟩)).1) && fitsF (rowN L n) L q.E (rowN L n (q.Names.headD ⟨#[]⟩)).1
noncomputable def nodeCk (p : DProg) (a : Nat) (n : DNode) : DFault :=
  if rowsOk p.Enums n = true then firstE (a : Int) 8 (fun _ q => eqCk p.Enums n q) 0 n.Eqs else ⟨(a : Int), -1, 8⟩
noncomputable def clockF (p : DProg) : DFault := if (typesF p).Err = 0 then firstF (nodeCk p) 0 p.Nodes else typesF p
theorem nodeCk_zero {p : DProg} {a : Nat} {n : DNode} (h : (nodeCk p a n).Err = 0) : nodeCk p a n = ⟨0, 0, 0⟩ ∧ rowsOk p.Enums n = true ∧ ∀ q ∈ n.Eqs, eqCk p.Enums n q = true := by
  unfold nodeCk at *
  split at h
  · rename_i h0
    rw [if_pos h0]
    obtain ⟨h1, h2⟩ := firstE_zero (by decide) h
    refine ⟨h1, h0, fun q hq => ?_⟩
    obtain ⟨i, hi, rfl⟩ := List.getElem_of_mem hq
    exact h2 i _ (List.getElem?_eq_getElem hi)
  · cases h
theorem clock_zero {p : DProg} (h : (clockF p).Err = 0) : clockF p = ⟨0, 0, 0⟩ ∧ (typesF p).Err = 0 ∧ ∀ (k : Nat) n, p.Nodes[k]? = some n → (nodeCk p k n).Err = 0 := by
  unfold clockF at *
  split at h
  · rename_i h0
    rw [if_pos h0]
    obtain ⟨h1, h2⟩ := firstF_zero h
    exact ⟨h1, h0, fun k n hk => by have := h2 k n hk; simpa using this⟩
  · rename_i h0; exact absurd h h0
theorem names_is {n : DNode} : ∀ {l D : List ByteArray}, namesErr n D l = 0 → ∀ s ∈ l, isF n s = true
  | [], _, _ => by simp
  | x :: r, D, h => by
    rw [namesErr] at h
    split at h
    · omega
    · rename_i h0
      split at h
      · omega
      · intro s hs
        rcases List.mem_cons.1 hs with rfl | hs
        · simpa using h0
        · exact names_is h s hs
theorem eqs_is {p : DProg} {a : Int} {n : DNode} : ∀ {l : List DEq} {i : Nat} {D : List ByteArray}, (eqsErr p a n i D l).2 = 0 → ∀ q ∈ l, (∀ s ∈ q.Names, isF n s = true) ∧ (parts q.E).all (leadsF p a n) = true
  | [], _, _, _ => by simp
  | q :: r, i, D, h => by
    rw [eqsErr] at h
    split at h
    · rename_i h0
      intro x hx
      rcases List.mem_cons.1 hx with rfl | hx
      · unfold eqErr at h0
        split at h0
        · rename_i h1
          refine ⟨names_is h1, ?_⟩
          split at h0
          · assumption
          · omega
        · rename_i h1; exact absurd h0 h1
      · exact eqs_is h x hx
    · rename_i h0; exact absurd h h0
theorem node_is {p : DProg} {a : Int} {n : DNode} (h : (nodeFault p a n).Err = 0) : ∀ q ∈ n.Eqs, (∀ s ∈ q.Names, isF n s = true) ∧ (parts q.E).all (leadsF p a n) = true := by
  unfold nodeFault at h
  split at h
  · split at h
    · rename_i h2; exact eqs_is h2
    · rename_i h2; exact absurd h h2
  · cases h
theorem is_mem {n : DNode} {s : ByteArray} (h : isF n s = true) : ∃ d ∈ allV n, d.Name = s := by
  unfold isF decl at h
  rw [declF_any, List.any_eq_true] at h
  obtain ⟨d, hd, he⟩ := h
  exact ⟨d, hd, of_decide_eq_true he⟩
theorem row_is {L : List DEnum} {n : DNode} (hr : rowsOk L n = true) {s : ByteArray} (h : isF n s = true) : (rowN L n s).2 = true := by
  obtain ⟨d, hd, rfl⟩ := is_mem h
  exact List.all_eq_true.1 hr d hd
theorem ints33 (l m : List Int) : PCall Tryz.prog 76 [.lst 1 (l.map (AV.i)) none, .lst 1 (m.map (AV.i)) none] (.b (eqB l m)) := by
  refine pcall_of_vc tabOK Tryz.func76 (by kernel_rfl) rfl pureL pureI (n := 26) rfl (rs := [.tmp 4]) rfl ?_
  repeat' first
    | exact finB rfl
    | exact finI rfl
    | exact finP rfl
    | exact absurd rfl (by assumption)
    | simp only [go_sem]
    | (intro _)
    | refine brK_dec (fun _ => ?_) (fun _ => ?_)
    | refine brK_any ?_ ?_
    | refine gK_dec (fun _ => ?_) (fun _ => ?_)
    | refine gK_any ?_ ?_
    | refine gqK_dec (fun _ => ?_) (fun _ => ?_)
    | refine ⟨by omega, ?_⟩
    | refine elemHave (by omega) (by assumption) ?_
    | refine elemMap (by omega) (by omega) (fun x hx => ?_)
    | refine drawK mo (by kernel_rfl) ?_
    | (rw [eqB_ne (len_ne (l := l) (m := m) (by omega))]; exact ⟨_, rfl, false, .refl _⟩)
    | (rw [eqB_ne (at_ne (l := l) (m := m) (i := i) (by assumption) (by assumption) (by assumption))]; exact ⟨_, rfl, false, .refl _⟩)
    | (rw [eqB_eq (take_eq_full (l := l) (m := m) (i := i) (by omega) hpi (by omega))]; exact ⟨_, rfl, false, .refl _⟩)
    | exact loopFrH _ (by omega) ⟨i + 1, by omega, rfl, take_eq_step hpi (by assumption) (by assumption) (by assumption), rfl⟩ (.next rfl (by omega) .nil) rfl
    | (refine loop_frH [4, 5, 11, 12, 13, 14, 15, 16, 17, 18, 19, 20, 21, 22, 23, 24, 25] (fun mm_ CC_ => ∃ (i : Nat), i ≤ l.length ∧ mm_ = l.length - i ∧ (l.take i = m.take i) ∧ CC_ = [(5, .raw (.int .i64 ((i : Nat) : Int)))]) (l.length) _ ⟨0, by omega, by omega, rfl, rfl⟩ (.cons rfl .nil) ?_; rintro mm_ CC_ ji ⟨i, hi, rfl, hpi, rfl⟩)

theorem mapN (l : List Nat) : l.map AV.n = (l.map fun n : Nat => (n : Int)).map AV.i := by simp
theorem mem_eq {l : List ByteArray} {x s : ByteArray} {i : Nat} (h : l[i]? = some x) (e : x = s) : s ∈ l := e ▸ List.mem_of_getElem? h

theorem contains106 {l : List ByteArray} {p : ByteArray → Bool} {g : Nat} {first capt : List AV} {h : List Blk} {K : AV → List Blk → Prop} (hp : ∀ x ∈ l, ∀ K : AV → List Blk → Prop, K (.b (p x)) h → ACall Tryz.prog g (first ++ AV.s x :: capt) h K)
    (hK : K (.b (l.any p)) h) : ACall Tryz.prog 130 [.lst 1 (l.map AV.s) none, .fn (.func g) first capt] h K := by
  refine acall_of_vc tabOK Tryz.func130 (by kernel_rfl) rfl (n := 9) rfl (rs := [.tmp 4]) rfl ?_
  simp only [go_sem]
  refine indexStr hp ?_
  simp only [go_sem]
  rw [idx_any]
  exact finH1 rfl (.raw _) hK

abbrev orderA (p : List Nat × Bool) : AV := .tup [.lst 1 (p.1.map AV.n) none, .b p.2]
theorem pure_orderA (p : List Nat × Bool) : Go.Abs.Pure (orderA p) := by
  refine .tup _ (pure_cons (.lst _ _ fun c hc => ?_) (pure_cons (.raw _) pure_nil))
  have : flat (p.1.map AV.n) = p.1.map AV.n := by
    generalize p.1 = l
    induction l with
    | nil => rfl
    | cons x l ih => simp only [List.map_cons]; rw [show flat (AV.n x :: l.map AV.n) = AV.n x :: flat (l.map AV.n) from rfl, ih]
  rw [this] at hc
  obtain ⟨n, _, rfl⟩ := List.mem_map.1 hc
  exact .raw _
theorem Weak.tups2 {cs ds : List AV} (h : WeakL cs ds) : Weak (.tup cs) (.tup ds) := .tup cs ds h.at.1 h.at.2
theorem weak_order (out : List Nat) (b : Bool) (k : Option Nat) : Weak (.tup [.lst 1 (out.map AV.n) k, .b b]) (orderA (out, b)) := Weak.tups2 ⟨by cases k <;> first | exact .refl _ | exact .tok _ _ _, .refl _, trivial⟩
theorem flat_le {α : Type} {c : Nat} : ∀ {N : List (List α)}, (∀ l ∈ N, l.length ≤ c) → N.flatten.length ≤ N.length * c
  | [], _ => by simp
  | n :: N, h => by
    have h1 := flat_le (N := N) fun l hl => h l (List.mem_cons_of_mem _ hl)
    have h2 := h n List.mem_cons_self
    rw [List.flatten_cons, List.length_append, List.length_cons, Nat.succ_mul]
    omega
theorem names_any {L : List DEnum} {n : DNode} {l : List ByteArray} {row : List DCond} (hr : ∀ s ∈ l, (rowN L n s).2 = true) : (l.any fun x => !((rowN L n x).2 && eqB (rowN L n x).1 row)) = !(l.all fun s => eqB (rowN L n s).1 row) := by
  induction l with
  | nil => rfl
  | cons x l ih =>
    rw [List.any_cons, List.all_cons, ih (fun s hs => hr s (List.mem_cons_of_mem _ hs)), hr x List.mem_cons_self, Bool.true_and, Bool.not_and]
theorem headD_at0 {l : List ByteArray} {s : ByteArray} (h : l[0]? = some s) : l.headD ⟨#[]⟩ = s := by
  match l with
  | y :: l => simp at h; rw [h]; rfl
abbrev placeBk (p : DProg) (k : Nat) : Blk := .cells 98 [.lst 2 (p.Enums.map DEnum.enc) none, .lst 5 (p.Nodes.map DNode.enc) none, .i k]

theorem eqCk1 (p : DProg) (k : Nat) (n : DNode) (hn : p.Nodes[k]? = some n) (hl : (allV n).length ≤ 4294967296) (x : ByteArray) (row : List DCond) (b1 : Blk) (r : List Blk) {K : AV → List Blk → Prop} (hK : K (.b (!((rowN p.Enums n x).2 && eqB (rowN p.Enums n x).1 row))) (placeBk p k :: b1 :: .cells 55 [.lst 2 (row.map DCond.enc) none] :: r)) :
    ACall Tryz.prog 184 [.s x, .ptr 0 0, .ptr 2 0] (placeBk p k :: b1 :: .cells 55 [.lst 2 (row.map DCond.enc) none] :: r) K := by
  refine acall_of_vc tabOK Tryz.func184 (by kernel_rfl) rfl (n := 10) rfl (rs := [.tmp 4]) rfl ?_
  simp only [go_sem]
  refine PCall.call (on129 p k n hn hl x row) ?_
  simp only [go_sem]
  exact finH1 rfl (.raw _) hK

theorem eqCkP (p : DProg) (k : Nat) (n : DNode) (hn : p.Nodes[k]? = some n) (hl : (allV n).length ≤ 4294967296) (q : DEq) (h0 : 0 < q.Names.length) (hr : ∀ s ∈ q.Names, (rowN p.Enums n s).2 = true) (hb : (parts q.E).length ≤ 200) : PCall Tryz.prog 122 [placeE p k, q.enc] (.b (eqCk p.Enums n q)) := by
  refine pcall_of_vc tabOK Tryz.func122 (by kernel_rfl) rfl (pure_cons (pure_place p k) (pure_cons (DEq.pure _) pure_nil)) (.raw _) (n := 28) rfl (rs := [.tmp 4]) rfl ?_
  obtain ⟨s0, hs0⟩ : ∃ s, q.Names[0]? = some s := ⟨_, List.getElem?_eq_getElem (by omega)⟩
  unfold eqCk
  rw [headD_at0 hs0]
  have hR := row90 p k n hn s0 hl
  have hr0 := hr s0 (List.mem_of_getElem? hs0)
  have hlen := rowN_len p.Enums n s0
  generalize rowN p.Enums n s0 = R at hR hr0 hlen
  obtain ⟨row, ok⟩ := R
  dsimp only at hr0 hlen
  subst hr0
  dsimp only
  have hany := names_any (row := row) hr
  simp only [go_sem]
  refine drawK mo (by kernel_rfl) ?_
  simp only [go_sem]
  refine elemHave (x := s0) (by omega) (by simpa using hs0) ?_
  simp only [go_sem]
  refine pcK_of hR ?_
  simp only [go_sem]
  refine contains106 (p := fun x => !((rowN p.Enums n x).2 && eqB (rowN p.Enums n x).1 row)) (fun x hx K hK => eqCk1 p k n hn hl x row _ _ hK) ?_
  rw [hany]
  generalize (q.Names.all fun s => eqB (rowN p.Enums n s).1 row) = b
  cases b
  · simp only [go_sem]
    exact finBq rfl rfl
  · simp only [go_sem]
    refine PCall.call (fits92 p k n hn hl q.E row (by omega)) ?_
    simp only [go_sem]
    exact finBq rfl (by simp)
theorem nodeCk_row {p : DProg} {a : Nat} {n : DNode} {d : DDecl} (h : d ∈ allV n) (hc : (rowN p.Enums n d.Name).2 = false) : nodeCk p a n = ⟨(a : Int), -1, 8⟩ := by
  unfold nodeCk rowsOk
  rw [List.all_eq_false.2 ⟨d, h, by rw [hc]; simp⟩, if_neg (by simp)]
theorem rowsOk_of {L : List DEnum} {n : DNode} (h : ∀ d ∈ allV n, (rowN L n d.Name).2 = true) : rowsOk L n = true := List.all_eq_true.2 h
theorem nodeCk_eqs {p : DProg} {a : Nat} {n : DNode} (h : rowsOk p.Enums n = true) : nodeCk p a n = firstE (a : Int) 8 (fun _ q => eqCk p.Enums n q) 0 n.Eqs := by
  unfold nodeCk
  rw [if_pos h]

theorem checkCk (p : DProg) (k : Nat) (n : DNode) (hk : p.Nodes[k]? = some n) (hn : okNode n) (hl : (allV n).length ≤ 60) (hq1 : ∀ q ∈ n.Eqs, 0 < q.Names.length ∧ ∀ s ∈ q.Names, isF n s = true) : PCall Tryz.prog 70 [placeE p k] (nodeCk p k n).enc := by
  refine pcall_of_vc tabOK Tryz.func70 (by kernel_rfl) rfl (pure_cons (pure_place p k) pure_nil) (DFault.pure _) (n := 62) rfl (rs := [.cell 2 34]) rfl ?_
  have hA : [n.Ins, n.Outs, n.Vars].flatten = allV n := by simp [allV]
  have he4 := hn.2.2.2.1
  simp only [go_sem]
  refine elemHave (x := n) (by omega) (by simpa using hk) ?_
  simp only [go_sem]
  refine PCall.callW (concatD [n.Ins, n.Outs, n.Vars] (by show ([n.Ins, n.Outs, n.Vars].flatten).length ≤ _; rw [hA]; omega)) ⟨.tok _ _ _, trivial⟩ ?_
  rw [hA]
  simp only [go_sem]
  intro _
  refine loop_frX [6, 7, 8, 30, 31, 32, 33, 34, 35, 36, 37, 38, 39, 40, 41, 42, 43, 44] (fun m C => ∃ i : Nat, i ≤ (allV n).length ∧ m = (allV n).length - i ∧ (∀ d ∈ (allV n).take i, (rowN p.Enums n d.Name).2 = true) ∧ C = [(30, .raw (.int .i64 (i : Nat)))]) (allV n).length _ ⟨0, by omega, by omega, by simp, rfl⟩ (.cons rfl .nil) ?_
  rintro m C ja r ⟨i, hi, rfl, hp0, rfl⟩
  simp only [go_sem]
  refine brK_dec (fun hlt => ?_) (fun hge => ?_)
  · obtain ⟨d, hd⟩ : ∃ d, (allV n)[i]? = some d := ⟨_, List.getElem?_eq_getElem (by omega)⟩
    have hR := row90 p k n hk d.Name (by omega)
    have hst := take_all hp0 hd
    have hno := nodeCk_row (p := p) (a := k) (n := n) (List.mem_of_getElem? hd)
    generalize hq : rowN p.Enums n d.Name = R at hR hst hno
    obtain ⟨row, ok⟩ := R
    simp only [go_sem]
    refine elemHave (x := d) (by omega) (by simpa using hd) ?_
    simp only [go_sem]
    refine PCall.call hR ?_
    cases ok
    · rw [hno rfl]
      simp only [go_sem]
      exact ⟨_, rfl, false, by rw [DFault.enc_eq]; exact .refl _⟩
    · simp only [go_sem]
      exact loopFrX _ (by omega) _ ⟨i + 1, by omega, rfl, hst rfl, rfl⟩ (.next rfl (by omega) .nil) rfl (by first | rfl | (simp only [List.append_assoc, List.cons_append, List.nil_append]; rfl))
  · have hrk := rowsOk_of (take_full hp0 (by omega))
    rw [nodeCk_eqs hrk]
    generalize hE : firstE (k : Int) 8 (fun _ q => eqCk p.Enums n q) 0 n.Eqs = E
    simp only [go_sem]
    intro _
    refine loop_frX [9, 10, 48, 49, 50, 51, 52, 53, 54, 55, 56, 57, 58, 59, 60] (fun m C => ∃ i : Nat, i ≤ n.Eqs.length ∧ m = n.Eqs.length - i ∧ firstE (k : Int) 8 (fun _ q => eqCk p.Enums n q) i (n.Eqs.drop i) = E ∧ C = [(48, .raw (.int .i64 (i : Nat)))]) n.Eqs.length _ ⟨0, by omega, by omega, hE, rfl⟩ (.cons rfl .nil) ?_
    rintro m C jb r2 ⟨i2, hi2, rfl, hE', rfl⟩
    simp only [go_sem]
    refine brK_dec (fun hlt => ?_) (fun hge2 => ?_)
    · obtain ⟨q, hq⟩ : ∃ q, n.Eqs[i2]? = some q := ⟨_, List.getElem?_eq_getElem (by omega)⟩
      have hqm := List.mem_of_getElem? hq
      have hqo := hn.2.2.2.2.2 q hqm
      have hx := eqCkP p k n hk (by omega) q (hq1 q hqm).1 (fun s hs => row_is hrk ((hq1 q hqm).2 s hs)) hqo.2.1.1
      generalize hb : eqCk p.Enums n q = b at hx
      simp only [go_sem]
      refine elemHave (x := q) (by omega) (by simpa using hq) ?_
      simp only [go_sem]
      refine PCall.call hx ?_
      cases b
      · have hE1 := firstE_at hE' hq hb
        rw [hE1]
        simp only [go_sem]
        exact ⟨_, rfl, false, by rw [DFault.enc_eq]; exact .refl _⟩
      · have hE1 := firstE_next hE' hq hb
        simp only [go_sem]
        exact loopFrX _ (by omega) _ ⟨i2 + 1, by omega, rfl, hE1, rfl⟩ (.next rfl (by omega) .nil) rfl (by first | rfl | (simp only [List.append_assoc, List.cons_append, List.nil_append]; rfl))
    · have h0 := firstE_0 hE' (by omega)
      subst h0
      simp only [go_sem]
      exact ⟨_, rfl, false, by rw [DFault.enc_eq]; exact .refl _⟩
theorem names_good {p : DProg} (hF : (typesF p).Err = 0) {k : Nat} {n : DNode} (hk : p.Nodes[k]? = some n) : ∀ q ∈ n.Eqs, 0 < q.Names.length ∧ ∀ s ∈ q.Names, isF n s = true := by
  obtain ⟨_, hs, hc, _⟩ := types_zero hF
  have h0 := (scope_zero (p := p) (by rw [hs])).2.2 k n hk
  exact fun q hq => ⟨(eqs_right hc (List.mem_of_getElem? hk) hq).1, (node_is h0 q hq).1⟩

theorem clockCheck (p : DProg) (hp : okProg p) : PCall Tryz.prog 27 [p.enc] (clockF p).enc := by
  refine pcall_of_vc tabOK Tryz.func27 (by kernel_rfl) rfl (by first | exact pureL | exact pureI) (by first | exact pureL | exact pureI) (n := 28) rfl (rs := [.cell 2 34]) rfl ?_
  have hp6 := hp.2.1
  unfold clockF
  simp only [go_sem]
  refine PCall.call (typesCheck p hp) ?_
  have hz := types_zero (p := p)
  have hg := fun h => @names_good p h
  generalize typesF p = F at hz hg
  rw [show F.enc = .agg [.i F.Node, .i F.Eq, .i F.Err] from DFault.enc_eq _]
  simp only [go_sem]
  refine brK_dec (fun h0 => ?_) (fun h0 => ?_)
  · rw [if_neg h0]
    simp only [go_sem]
    exact ⟨_, rfl, false, by rw [DFault.enc_eq]; exact .refl _⟩
  have h0 : F.Err = 0 := Classical.not_not.1 h0
  rw [if_pos h0]
  obtain ⟨_, _, hc0, _⟩ := hz h0
  generalize hE : firstF (nodeCk p) 0 p.Nodes = E
  simp only [go_sem]
  intro _
  refine loop_frX [4, 5, 15, 16, 17, 18, 19, 20, 21, 22, 23, 24, 25, 26] (fun m C => ∃ i : Nat, i ≤ p.Nodes.length ∧ m = p.Nodes.length - i ∧ firstF (nodeCk p) i (p.Nodes.drop i) = E ∧ C = [(15, .raw (.int .i64 (i : Nat)))]) p.Nodes.length _ ⟨0, by omega, by omega, hE, rfl⟩ (.cons rfl .nil) ?_
  rintro m C ja r ⟨i, hi, rfl, hE', rfl⟩
  simp only [go_sem]
  refine brK_dec (fun hlt => ?_) (fun hge => ?_)
  · obtain ⟨n, hj⟩ : ∃ n, p.Nodes[i]? = some n := ⟨_, List.getElem?_eq_getElem (by omega)⟩
    have hnm := List.mem_of_getElem? hj
    simp only [go_sem]
    refine PCall.call (checkCk p i n hj (hp.2.2 n hnm) (tyOK_of hp hc0 n hnm).1 (hg h0 hj)) ?_
    by_cases hF : (nodeCk p i n).Err = 0
    · have hE1 := first_next hE' hj hF
      rw [(nodeCk_zero hF).1, DFault.enc_eq]
      simp only [go_sem]
      exact loopFrX _ (by omega) _ ⟨i + 1, by omega, rfl, hE1, rfl⟩ (.next rfl (by omega) .nil) rfl (by first | rfl | (simp only [List.append_assoc, List.cons_append, List.nil_append]; rfl))
    · have hE1 := first_at hE' hj hF
      rw [hE1]
      generalize nodeCk p i n = G at hF
      rw [DFault.enc_eq]
      simp only [go_sem]
      refine brK_dec (fun _ => ?_) (fun hq => absurd hF hq)
      simp only [go_sem]
      exact ⟨_, rfl, false, by rw [DFault.enc_eq]; exact .refl _⟩
  · have h1 := first_0 hE' (by omega)
    subst h1
    simp only [go_sem]
    exact ⟨_, rfl, false, by rw [DFault.enc_eq]; exact .refl _⟩

theorem eqCkX (p : DProg) (k : Nat) (n : DNode) (hn : p.Nodes[k]? = some n) (hl : (allV n).length ≤ 4294967296) (q : DEq) (h0 : 0 < q.Names.length) (hnl : q.Names.length ≤ 1000) (hb : (parts q.E).length ≤ 200) : PCall Tryz.prog 72 [p.enc, .i (k : Int), q.enc] (.b (eqCk p.Enums n q)) := by
  refine pcall_of_vc tabOK Tryz.func72 (by kernel_rfl) rfl (pure_cons (DProg.pure _) (pure_cons (.raw _) (pure_cons (DEq.pure _) pure_nil))) (.raw _) (n := 50) rfl (rs := [.tmp 6]) rfl ?_
  obtain ⟨s0, hs0⟩ : ∃ s, q.Names[0]? = some s := ⟨_, List.getElem?_eq_getElem (by omega)⟩
  unfold eqCk
  rw [headD_at0 hs0]
  have hR := row46v p k n hn s0 hl
  have hlen := rowN_len p.Enums n s0
  generalize rowN p.Enums n s0 = R at hR hlen
  obtain ⟨row, ok⟩ := R
  dsimp only at hlen
  dsimp only
  simp only [go_sem]
  refine drawK mo (by kernel_rfl) ?_
  simp only [go_sem]
  refine elemHave (x := s0) (by omega) (by simpa using hs0) ?_
  simp only [go_sem]
  refine pcK_of hR ?_
  simp only [go_sem]
  refine loop_frX [6, 9, 10, 11, 22, 23, 24, 25, 26, 27, 28, 29, 30, 31, 32, 33, 34, 35, 36, 37, 38, 39, 40, 41, 42, 43] (fun m C => ∃ i : Nat, i ≤ q.Names.length ∧ m = q.Names.length - i ∧ (∀ s ∈ q.Names.take i, eqB (rowN p.Enums n s).1 row = true) ∧ C = [(9, .raw (.int .i64 (i : Nat)))]) q.Names.length _ ⟨0, by omega, by omega, by simp, rfl⟩ (.cons rfl .nil) ?_
  rintro m C ja r ⟨i, hi, rfl, hp0, rfl⟩
  simp only [go_sem]
  intro _
  refine brK_dec (fun hlt => ?_) (fun hge => ?_)
  · obtain ⟨x, hx⟩ : ∃ x, q.Names[i]? = some x := ⟨_, List.getElem?_eq_getElem (by omega)⟩
    have hRx := row46v p k n hn x hl
    have hst := take_all hp0 hx
    have hno : eqB (rowN p.Enums n x).1 row = false → (q.Names.all fun s => eqB (rowN p.Enums n s).1 row) = false := fun h => List.all_eq_false.2 ⟨x, List.mem_of_getElem? hx, by rw [h]; simp⟩
    generalize rowN p.Enums n x = Rx at hRx hst hno
    obtain ⟨rx, okx⟩ := Rx
    dsimp only at hst hno
    simp only [go_sem]
    refine drawK mo (by kernel_rfl) ?_
    simp only [go_sem]
    refine elemHave (x := x) (by omega) (by simpa using hx) ?_
    simp only [go_sem]
    refine pcK_of hRx ?_
    simp only [go_sem]
    refine PCall.call (sameCs rx row) ?_
    generalize eqB rx row = b at hst hno
    cases b
    · rw [hno rfl]
      simp only [go_sem]
      exact finBq rfl rfl
    · simp only [go_sem]
      exact loopFrX _ (by omega) _ ⟨i + 1, by omega, rfl, hst rfl, rfl⟩ (.next rfl (by omega) .nil) rfl (by first | rfl | (simp only [List.append_assoc, List.cons_append, List.nil_append]; rfl))
  · rw [List.all_eq_true.2 (take_full hp0 (by omega))]
    simp only [go_sem]
    refine PCall.call (fits49 p k n hn hl q.E row (by omega)) ?_
    simp only [go_sem]
    exact finBq rfl (by simp)

theorem clockX (p : DProg) (hp : okProg p) : PCall Tryz.prog 28 [p.enc] (clockF p).enc := by
  refine pcall_of_vc tabOK Tryz.func28 (by kernel_rfl) rfl (by first | exact pureL | exact pureI) (by first | exact pureL | exact pureI) (n := 78) rfl (rs := [.cell 2 34]) rfl ?_
  have hp6 := hp.2.1
  unfold clockF
  simp only [go_sem]
  refine PCall.call (typesX p hp) ?_
  have hz := types_zero (p := p)
  have hg := fun h => @names_good p h
  generalize typesF p = F at hz hg
  simp only [go_sem]
  rw [fault_z]
  simp only [go_sem]
  refine brK_dec (fun h0 => ?_) (fun h0 => ?_)
  · have hF : ¬ F.Err = 0 := fun h => h0 (hz h).1
    rw [if_neg hF]
    simp only [go_sem]
    exact ⟨_, rfl, false, by rw [DFault.enc_eq]; exact .refl _⟩
  have h0 : F = ⟨0, 0, 0⟩ := Classical.not_not.1 h0
  have h0' : F.Err = 0 := by rw [h0]
  rw [if_pos h0']
  obtain ⟨_, _, hc0, _⟩ := hz h0'
  generalize hE : firstF (nodeCk p) 0 p.Nodes = E
  simp only [go_sem]
  refine loop_frX [4, 5, 6, 7, 8, 9, 16, 17, 18, 19, 20, 21, 22, 23, 24, 25, 26, 27, 28, 29, 30, 31, 32, 33, 34, 35, 36, 37, 38, 39, 40, 41, 42, 43, 44, 45, 46, 47, 48, 49, 50, 51, 52, 53, 54, 55, 56, 57, 58, 59, 60, 61, 62, 63, 64, 65, 66, 67, 68, 69, 70, 71, 72, 73, 74, 75, 76] (fun m C => ∃ i : Nat, i ≤ p.Nodes.length ∧ m = p.Nodes.length - i ∧ firstF (nodeCk p) i (p.Nodes.drop i) = E ∧ C = [(4, .raw (.int .i64 (i : Nat)))]) p.Nodes.length _ ⟨0, by omega, by omega, hE, rfl⟩ (.cons rfl .nil) ?_
  rintro m C ja r ⟨j, hi, rfl, hE', rfl⟩
  simp only [go_sem]
  intro _
  refine brK_dec (fun hlt => ?_) (fun hge => ?_)
  · obtain ⟨n, hj⟩ : ∃ n, p.Nodes[j]? = some n := ⟨_, List.getElem?_eq_getElem (by omega)⟩
    have hnm := List.mem_of_getElem? hj
    have hn := hp.2.2 n hnm
    have hl := (tyOK_of hp hc0 n hnm).1
    have he4 := hn.2.2.2.1
    simp only [go_sem]
    refine elemHave (x := n) (by omega) (by simpa using hj) ?_
    simp only [go_sem]
    refine PCall.call (all66 n (by omega)) ?_
    simp only [go_sem]
    refine loop_frX [6, 7, 8, 29, 30, 31, 32, 33, 34, 35, 36, 37, 38, 39, 40, 41, 42, 43, 44, 45, 46, 47, 48, 49] (fun m C => ∃ i : Nat, i ≤ (allV n).length ∧ m = (allV n).length - i ∧ (∀ d ∈ (allV n).take i, (rowN p.Enums n d.Name).2 = true) ∧ C = [(6, .raw (.int .i64 (i : Nat)))]) (allV n).length _ ⟨0, by omega, by omega, by simp, rfl⟩ (.cons rfl .nil) ?_
    rintro m C jb r1 ⟨i, hi1, rfl, hp0, rfl⟩
    simp only [go_sem]
    intro _
    refine brK_dec (fun hlt1 => ?_) (fun hge1 => ?_)
    · obtain ⟨d, hd⟩ : ∃ d, (allV n)[i]? = some d := ⟨_, List.getElem?_eq_getElem (by omega)⟩
      have hdm := List.mem_of_getElem? hd
      have hRx := row46v p j n hj d.Name (by omega)
      have hst := take_all hp0 hd
      have hno := nodeCk_row (p := p) (a := j) (n := n) hdm
      generalize hq : rowN p.Enums n d.Name = Rx at hRx hst hno
      obtain ⟨rx, okx⟩ := Rx
      dsimp only at hno
      simp only [go_sem]
      refine drawK mo (by kernel_rfl) ?_
      simp only [go_sem]
      refine elemHave (x := d) (by omega) (by simpa using hd) ?_
      simp only [go_sem]
      refine pcK_of hRx ?_
      cases okx
      · have hE2 := first_at hE' hj (by rw [hno rfl]; simp)
        rw [hE2, hno rfl]
        simp only [go_sem]
        refine PCall.call (fault47 _ _ _) ?_
        simp only [go_sem]
        exact ⟨_, rfl, false, by rw [DFault.enc_eq]; exact .refl _⟩
      · simp only [go_sem]
        exact loopFrX _ (by omega) _ ⟨i + 1, by omega, rfl, hst rfl, rfl⟩ (.next rfl (by omega) .nil) rfl (by first | rfl | (simp only [List.append_assoc, List.cons_append, List.nil_append]; rfl))
    · have hNE := nodeCk_eqs (p := p) (a := j) (n := n) (rowsOk_of (take_full hp0 (by omega)))
      generalize hG : nodeCk p j n = G at hNE
      simp only [go_sem]
      refine loop_frX [9, 50, 51, 52, 53, 54, 55, 56, 57, 58, 59, 60, 61, 62, 63, 64, 65, 66, 67, 68, 69, 70, 71, 72, 73, 74, 75, 76] (fun m C => ∃ i : Nat, i ≤ n.Eqs.length ∧ m = n.Eqs.length - i ∧ firstE (j : Int) 8 (fun _ q => eqCk p.Enums n q) i (n.Eqs.drop i) = G ∧ C = [(9, .raw (.int .i64 (i : Nat)))]) n.Eqs.length _ ⟨0, by omega, by omega, hNE.symm, rfl⟩ (.cons rfl .nil) ?_
      rintro m C jc r2 ⟨i2, hi2, rfl, hG', rfl⟩
      simp only [go_sem]
      refine elemHave (x := n) (by omega) (by simpa using hj) ?_
      simp only [go_sem]
      intro _
      refine brK_dec (fun hlt2 => ?_) (fun hge2 => ?_)
      · obtain ⟨q, hq⟩ : ∃ q, n.Eqs[i2]? = some q := ⟨_, List.getElem?_eq_getElem (by omega)⟩
        have hqm := List.mem_of_getElem? hq
        have hqo := hn.2.2.2.2.2 q hqm
        have hx := eqCkX p j n hj (by omega) q (hg h0' hj q hqm).1 (by have := hqo.1; omega) hqo.2.1.1
        generalize hb : eqCk p.Enums n q = b at hx
        simp only [go_sem]
        refine drawK mo (by kernel_rfl) ?_
        simp only [go_sem]
        refine elemHave (x := n) (by omega) hj ?_
        simp only [go_sem]
        refine elemHave (x := q) (by omega) (by simpa using hq) ?_
        simp only [go_sem]
        refine pcK_of hx ?_
        cases b
        · have hE1 := firstE_at hG' hq hb
          have hE2 := first_at hE' hj (by rw [hG, hE1]; simp)
          rw [hE2, hG, hE1]
          simp only [go_sem]
          refine PCall.call (fault47 _ _ _) ?_
          simp only [go_sem]
          exact ⟨_, rfl, false, by rw [DFault.enc_eq]; exact .refl _⟩
        · have hE1 := firstE_next hG' hq hb
          simp only [go_sem]
          exact loopFrX _ (by omega) _ ⟨i2 + 1, by omega, rfl, hE1, rfl⟩ (.next rfl (by omega) .nil) rfl (by first | rfl | (simp only [List.append_assoc, List.cons_append, List.nil_append]; rfl))
      · have h1 := firstE_0 hG' (by omega)
        have hE1 := first_next hE' hj (by rw [hG, h1])
        simp only [go_sem]
        exact loopFrX _ (by omega) _ ⟨j + 1, by omega, rfl, hE1, rfl⟩ (.next rfl (by omega) .nil) rfl (by first | rfl | (simp only [List.append_assoc, List.cons_append, List.nil_append]; rfl))
  · have h1 := first_0 hE' (by omega)
    subst h1
    simp only [go_sem]
    exact ⟨_, rfl, false, by rw [DFault.enc_eq]; exact .refl _⟩
end Go.Proofs.YtidjmcmfgimbfaaGreatDoor
