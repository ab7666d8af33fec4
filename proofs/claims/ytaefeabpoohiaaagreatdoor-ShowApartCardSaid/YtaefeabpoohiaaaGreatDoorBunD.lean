/-
  Same3, ShowAL, LibT: put together.
-/
import Derived.Test.YtaefeabpoohiaaaGreatDoorBunA
import Derived.Test.YtaefeabpoohiaaaGreatDoorBunB
import Derived.Test.YtaefeabpoohiaaaGreatDoorBunC
import Derived.LaidSub
import Derived.Lib.LaidTab
import Derived.MakeChecks
namespace Go.Proofs.YtaefeabpoohiaaaGreatDoor
open Go.Abs
set_option maxRecDepth 20000
set_option linter.unusedSimpArgs false
set_option linter.unusedVariables false
set_option maxHeartbeats 1000000
attribute [local irreducible] vc vcOps vcStep vcGuard prK hrK gK gsK brK callK ElemK SeqK BlockK ScopeK OpsK CallK LoopK LoopGo finPost ACall PCall PCallE BCall vqOps vqStep vqGuard qrK heK pcK gqK gqsK QOpsK qcallK DrawK
noncomputable def eqB {α : Type} (x y : α) : Bool := @decide (x = y) (Classical.propDecidable _)
theorem eqB_eq {α : Type} {x y : α} (h : x = y) : eqB x y = true := by unfold eqB; simp [h]
theorem eqB_ne {α : Type} {x y : α} (h : ¬ x = y) : eqB x y = false := by unfold eqB; simp [h]
theorem eqB_t {α : Type} {x y : α} (h : eqB x y = true) : x = y := by unfold eqB at h; simpa using h
theorem eqB_f {α : Type} {x y : α} (h : eqB x y = false) : ¬ x = y := by unfold eqB at h; simpa using h
attribute [irreducible] eqB
theorem len_ne {α : Type} {l m : List α} (h : ¬ l.length = m.length) : ¬ l = m := fun e => h (congrArg List.length e)
theorem at_ne' {α : Type} {l m : List α} {i : Nat} {x y : α} (hx : l[((i : Int)).toNat]? = some x) (hy : m[((i : Int)).toNat]? = some y) (h : ¬ x = y) : ¬ l = m := by
  rintro rfl
  rw [hx] at hy
  exact h (Option.some.inj hy)
theorem at_ne {α : Type} {l m : List α} {i : Nat} {x y : α} (hx : l[((i : Int)).toNat]? = some x) (hy : m[((i : Int)).toNat]? = some y) (h : x ≠ y) : ¬ l = m := at_ne' hx hy h
theorem take_eq_step' {α : Type} {l m : List α} {i : Nat} {x y : α} (hp : l.take i = m.take i) (hx : l[((i : Int)).toNat]? = some x) (hy : m[((i : Int)).toNat]? = some y) (h : x = y) : l.take (i + 1) = m.take (i + 1) := by
  subst h
  rw [Int.toNat_natCast] at hx hy
  rw [List.take_add_one, List.take_add_one, hp, hx, hy]
theorem take_eq_step {α : Type} {l m : List α} {i : Nat} {x y : α} (hp : l.take i = m.take i) (hx : l[((i : Int)).toNat]? = some x) (hy : m[((i : Int)).toNat]? = some y) (h : ¬ x ≠ y) : l.take (i + 1) = m.take (i + 1) := take_eq_step' hp hx hy (Classical.not_not.1 h)
theorem take_eq_full {α : Type} {l m : List α} {i : Nat} (h : l.length = m.length) (hp : l.take i = m.take i) (hi : l.length ≤ i) : l = m := by
  rw [List.take_of_length_le hi, List.take_of_length_le (by omega)] at hp
  exact hp

theorem namesStr (l m : List ByteArray) : PCall Tryz.prog 20 [.lst 1 (l.map (AV.s)) none, .lst 1 (m.map (AV.s)) none] (.b (eqB l m)) := by
  refine pcall_of_vc tabOK Tryz.func20 (by kernel_rfl) rfl pureL pureI (n := 26) rfl (rs := [.tmp 4]) rfl ?_
  repeat' first
    | exact finB rfl
    | exact finI rfl
    | exact finP rfl
    | exact absurd rfl (by assumption)
    | simp only [go_sem]
    | (intro _)
    | refine brK_dec (fun _ => ?_) (fun _ => ?_)
    | refine brK_any ?_ ?_
    | refine gK_dec (fun _ => ?_) (fun _ => ?_)
    | refine gK_any ?_ ?_
    | refine gqK_dec (fun _ => ?_) (fun _ => ?_)
    | refine ⟨by omega, ?_⟩
    | refine elemHave (by omega) (by assumption) ?_
    | refine elemMap (by omega) (by omega) (fun x hx => ?_)
    | refine drawK mo (by kernel_rfl) ?_
    | (rw [eqB_ne (len_ne (l := l) (m := m) (by omega))]; exact ⟨_, rfl, false, .refl _⟩)
    | (rw [eqB_ne (at_ne (l := l) (m := m) (i := i) (by assumption) (by assumption) (by assumption))]; exact ⟨_, rfl, false, .refl _⟩)
    | (rw [eqB_eq (take_eq_full (l := l) (m := m) (i := i) (by omega) hpi (by omega))]; exact ⟨_, rfl, false, .refl _⟩)
    | exact loopFrH _ (by omega) ⟨i + 1, by omega, rfl, take_eq_step hpi (by assumption) (by assumption) (by assumption), rfl⟩ (.next rfl (by omega) .nil) rfl
    | (refine loop_frH [4, 5, 11, 12, 13, 14, 15, 16, 17, 18, 19, 20, 21, 22, 23, 24, 25] (fun mm_ CC_ => ∃ (i : Nat), i ≤ l.length ∧ mm_ = l.length - i ∧ (l.take i = m.take i) ∧ CC_ = [(5, .raw (.int .i64 ((i : Nat) : Int)))]) (l.length) _ ⟨0, by omega, by omega, rfl, rfl⟩ (.cons rfl .nil) ?_; rintro mm_ CC_ ji ⟨i, hi, rfl, hpi, rfl⟩)

theorem ext_Ex {x y : Ex} (h0 : x.kind = y.kind) (h1 : x.n = y.n) (h2 : x.name = y.name) (h3 : x.op = y.op) (h4 : x.arms = y.arms) (h5 : x.subs = y.subs) : x = y := by
  cases x; cases y
  simp only [Ex.kind, Ex.n, Ex.name, Ex.op, Ex.arms, Ex.subs] at *
  subst_vars
  rfl

theorem exSame118 : ∀ (e f : Ex), PCall Tryz.prog 10 [e.enc, f.enc] (.b (eqB e f)) := by
  intro e
  induction e using Ex.ind with
  | _ e ih =>
  intro f
  generalize hR : eqB e f = R
  refine pcall_of_vc tabOK Tryz.func10 (by kernel_rfl) rfl pureL pureI (n := 68) rfl (rs := [.tmp 4]) rfl ?_
  repeat' first
    | exact finB rfl
    | exact finI rfl
    | exact finP rfl
    | exact absurd rfl (by assumption)
    | simp only [go_sem]
    | (intro _)
    | refine brK_dec (fun _ => ?_) (fun _ => ?_)
    | refine brK_any ?_ ?_
    | refine gK_dec (fun _ => ?_) (fun _ => ?_)
    | refine gK_any ?_ ?_
    | refine gqK_dec (fun _ => ?_) (fun _ => ?_)
    | refine ⟨by omega, ?_⟩
    | refine elemHave (by omega) (by assumption) ?_
    | refine elemMap (by omega) (by omega) (fun x hx => ?_)
    | refine drawK mo (by kernel_rfl) ?_
    | (rw [← hR, eqB_ne (by rintro rfl; contradiction)]; exact ⟨_, rfl, false, .refl _⟩)
    | (rw [← hR, eqB_ne (fun h => at_ne' (l := e.subs) (m := f.subs) (i := i) (by assumption) (by assumption) (by assumption) (congrArg Ex.subs h))]; exact ⟨_, rfl, false, .refl _⟩)
    | (rw [← hR, eqB_eq (ext_Ex (by first | assumption | exact Classical.not_not.1 (by assumption)) (by first | assumption | exact Classical.not_not.1 (by assumption)) (by first | assumption | exact Classical.not_not.1 (by assumption)) (by first | assumption | exact Classical.not_not.1 (by assumption)) (by first | assumption | exact Classical.not_not.1 (by assumption)) (take_eq_full (i := i) (by omega) hpi (by omega)))]; exact ⟨_, rfl, false, .refl _⟩)
    | (refine PCall.call (namesStr _ _) ?_; generalize he : eqB (α := List ByteArray) _ _ = b; cases b <;> first | replace he := eqB_t he | replace he := eqB_f he)
    | (refine pcK_of (ih _ (List.mem_of_getElem? (by assumption)) _) ?_; generalize he : eqB (α := Ex) _ _ = b; cases b <;> first | replace he := eqB_t he | replace he := eqB_f he)
    | exact loopFrH _ (by omega) ⟨i + 1, by omega, rfl, take_eq_step' hpi (by assumption) (by assumption) (by assumption), rfl⟩ (.next rfl (by omega) .nil) rfl
    | (refine loop_frH [4, 5, 49, 50, 51, 52, 53, 54, 55, 56, 57, 58, 59, 60, 61, 62, 63, 64, 65, 66, 67] (fun mm_ CC_ => ∃ (i : Nat), i ≤ e.subs.length ∧ mm_ = e.subs.length - i ∧ (e.subs.take i = f.subs.take i) ∧ CC_ = [(5, .raw (.int .i64 ((i : Nat) : Int)))]) (e.subs.length) _ ⟨0, by omega, by omega, rfl, rfl⟩ (.cons rfl .nil) ?_; rintro mm_ CC_ ji ⟨i, hi, rfl, hpi, rfl⟩)

theorem exprT_right {e : Ex} (h : rightE e = true) : exprT e = showT e := by unfold exprT; rw [if_pos h]

theorem law_apart (a b : Ex) (hna : ∀ y ∈ parts a, I64 y.n) (hnb : ∀ y ∈ parts b, I64 y.n) : PCall Tryz.prog 4 [a.enc, b.enc] (.b true) := by
  refine pcall_of_vc tabOK Tryz.func4 (by kernel_rfl) rfl pureL pureI (n := 41) rfl (rs := [.tmp 4]) rfl ?_
  simp only [go_sem]
  refine PCallE.call (small_e _) (fun r hr => ?_)
  obtain ⟨q, rfl, he⟩ := hr
  cases q with
  | false =>
    repeat' first
      | simp only [go_sem]
      | (refine PCall.call live10 ?_)
      | exact finBq rfl rfl
  | true =>
    replace he := he rfl
    simp only [go_sem]
    refine PCallE.call (small_e _) (fun r hr => ?_)
    obtain ⟨q, rfl, hf⟩ := hr
    cases q with
    | false =>
      repeat' first
        | simp only [go_sem]
        | (refine PCall.call live10 ?_)
        | exact finBq rfl rfl
    | true =>
      replace hf := hf rfl
      simp only [go_sem]
      refine PCall.call (right17x a he) ?_
      cases hra : rightE a with
      | false =>
        repeat' first
          | simp only [go_sem]
          | (refine PCall.call live10 ?_)
          | exact finBq rfl rfl
      | true =>
        simp only [go_sem]
        refine PCall.call (right17x b hf) ?_
        cases hrb : rightE b with
        | false =>
          repeat' first
            | simp only [go_sem]
            | (refine PCall.call live10 ?_)
            | exact finBq rfl rfl
        | true =>
          have e1 := expr13 a he hna
          have e2 := expr13 b hf hnb
          rw [exprT_right hra] at e1
          rw [exprT_right hrb] at e2
          have hX := show_some (right_PO hra)
          have hi : showT a = showT b → a = b := show_inj (right_PO hra) (right_PO hrb)
          have hsame := exSame118 a b
          by_cases hab : a = b
          · subst hab
            rw [eqB_eq rfl] at hsame
            generalize showT a = X at *
            repeat' first
              | simp only [go_sem]
              | refine drawK mo (by kernel_rfl) ?_
              | (refine pcK_of e1 ?_)
              | (refine pcK_of hsame ?_)
              | (refine pcK_of live10 ?_)
              | refine gK_dec (fun _ => ?_) (fun _ => ?_)
              | refine gqK_dec (fun _ => ?_) (fun _ => ?_)
              | (exfalso; exact hX (by assumption))
              | (exfalso; exact absurd hX (by assumption))
              | (exfalso; exact absurd rfl (by assumption))
              | exact finBq rfl (by simp [hX])
          · rw [eqB_ne hab] at hsame
            have hne : ¬ showT a = showT b := fun q => hab (hi q)
            generalize showT a = X at *
            generalize showT b = Y at *
            repeat' first
              | simp only [go_sem]
              | refine drawK mo (by kernel_rfl) ?_
              | (refine pcK_of e1 ?_)
              | (refine pcK_of e2 ?_)
              | (refine pcK_of hsame ?_)
              | (refine pcK_of live10 ?_)
              | refine gK_dec (fun _ => ?_) (fun _ => ?_)
              | refine gqK_dec (fun _ => ?_) (fun _ => ?_)
              | (exfalso; exact hX (by assumption))
              | (exfalso; exact absurd hX (by assumption))
              | (exfalso; exact hne (by assumption))
              | (exfalso; exact absurd (decide_eq_false hne) (by assumption))
              | exact finBq rfl (by simp [hX, hne])
/-- The table of powers lies as the row's condition says. -/
theorem tab_of {W : World} (laid : List (String × DataW Unit)) (hl : laid.filter (fun x => x.1 == "internal/strconv.uint64pow10") = [("internal/strconv.uint64pow10", Lib.tabData .u64 Lib.pow10Tab)]) (hpl : (laid.all fun x => x.2.handleName?.isNone) = true) (h : laidMetH Tryz.prog laid W) :
    ∀ x ∈ tabL, ∃ t l, W.heap[x.1]? = some (.cells x.2 t l) := by
  rw [MakeChecks.laidMetH_plain _ _ _ hpl] at h
  have h1 := h.filter (fun x => x.1 == "internal/strconv.uint64pow10")
  rw [hl] at h1
  have hg : Tryz.prog.globalNamed "internal/strconv.uint64pow10" = some 1 := by kernel_rfl
  have h2 := Lib.tabIs_of_head (g := 1) (t := 94) (e := 75) (n := 20) hg (by kernel_rfl) Tryz.underlying94 Tryz.underlying75 (by kernel_rfl) (by kernel_rfl) h1
  intro x hx
  obtain rfl := List.mem_singleton.1 hx
  unfold Lib.TabIs World.var? at h2
  rw [hg] at h2
  simp only [Option.bind_some] at h2
  split at h2
  · rename_i cs t l hc
    cases h2
    exact ⟨t, l, hc⟩
  · cases h2
end Go.Proofs.YtaefeabpoohiaaaGreatDoor
