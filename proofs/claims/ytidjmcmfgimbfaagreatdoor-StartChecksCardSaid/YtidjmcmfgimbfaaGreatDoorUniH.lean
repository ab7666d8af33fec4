/-
  Reads, Reads2, Reads3, Cause1, AbsTB, Cause2, Cause3, Cause4, Cause5, CaK, CaP, CaX, CaCL: put together.
-/
import Derived.Test.YtidjmcmfgimbfaaGreatDoorUniA
import Derived.Test.YtidjmcmfgimbfaaGreatDoorUniB
import Derived.Test.YtidjmcmfgimbfaaGreatDoorUniC
import Derived.Test.YtidjmcmfgimbfaaGreatDoorUniD
import Derived.Test.YtidjmcmfgimbfaaGreatDoorUniE
import Derived.Test.YtidjmcmfgimbfaaGreatDoorUniF
import Derived.Test.YtidjmcmfgimbfaaGreatDoorUniG
namespace Go.Proofs.YtidjmcmfgimbfaaGreatDoor
open Go.Abs
set_option maxRecDepth 20000
set_option linter.unusedSimpArgs false
set_option linter.unusedVariables false
set_option maxHeartbeats 1000000
attribute [local irreducible] vc vcOps vcStep vcGuard prK hrK gK gsK brK callK ElemK SeqK BlockK ScopeK OpsK CallK LoopK LoopGo finPost ACall PCall PCallE BCall vqOps vqStep vqGuard qrK heK pcK gqK gqsK QOpsK qcallK DrawK
def mineK (k : Int) (m : ByteArray) : List ByteArray := if k = 3 ∨ k = 11 ∨ k = 12 then [m] else []
def keepK (k : Int) (s : List Ex) : List Ex := if k = 10 then [] else if k = 8 then s.take 1 else s
mutual
def readsF : Ex → List ByteArray
  | .mk k _ m _ _ s => mineK k m ++ (if k = 10 then [] else if k = 8 then readsH s else readsL s)
def readsH : List Ex → List ByteArray
  | [] => []
  | x :: _ => readsF x
def readsL : List Ex → List ByteArray
  | [] => []
  | x :: xs => readsF x ++ readsL xs
end
theorem readsF_eq (e : Ex) : readsF e = mineK e.kind e.name ++ readsL (keepK e.kind e.subs) := by
  cases e with
  | mk k n m o a s =>
    simp only [readsF, Ex.kind, Ex.name, Ex.subs, keepK]
    by_cases h1 : k = 10
    · simp [h1, readsL]
    · by_cases h2 : k = 8
      · cases s <;> simp [h2, readsH, readsL]
      · simp [h1, h2]
theorem readsL_append (l m : List Ex) : readsL (l ++ m) = readsL l ++ readsL m := by
  induction l with
  | nil => simp [readsL]
  | cons x l ih => simp [readsL, ih]
theorem readsL_take {l : List Ex} {k : Nat} (h : k < l.length) : readsL (l.take (k + 1)) = readsL (l.take k) ++ readsF l[k] := by
  rw [List.take_succ_eq_append_getElem h, readsL_append]
  simp [readsL]
theorem readsL_le {l : List Ex} {k : Nat} : (readsL (l.take k)).length ≤ (readsL l).length := by
  have : readsL l = readsL (l.take k) ++ readsL (l.drop k) := by rw [← readsL_append, List.take_append_drop]
  rw [this]; simp
theorem reads_le {l : List Ex} {k : Nat} (h : k < l.length) : (readsF l[k]).length ≤ (readsL l).length := by
  have h1 := readsL_take h
  have h2 := readsL_le (l := l) (k := k + 1)
  rw [h1] at h2
  simp at h2
  omega
theorem keep_le (k : Int) (s : List Ex) : (keepK k s).length ≤ s.length := by
  unfold keepK
  split
  · simp
  · split
    · simp; omega
    · exact Nat.le_refl _
theorem keep_at {k : Int} {s : List Ex} {i : Nat} (h : i < (keepK k s).length) : (keepK k s)[i] = s[i]'(Nat.lt_of_lt_of_le h (keep_le k s)) := by
  unfold keepK at h ⊢
  split
  · simp [*] at h
  · split
    · simp
    · rfl

theorem keep_end {k : Int} {s : List Ex} {i : Nat} (h : k = 10 ∨ (k = 8 ∧ (i : Int) > 0) ∨ ¬ (i : Int) < s.length) : (keepK k s).length ≤ i := by
  unfold keepK
  split
  · simp
  · split
    · simp; omega
    · omega
theorem keep_go {k : Int} {s : List Ex} {i : Nat} (h1 : ¬ k = 10) (h2 : ¬ k = 8 ∨ ¬ (i : Int) > 0) (h3 : (i : Int) < s.length) : i < (keepK k s).length := by
  unfold keepK
  split
  · contradiction
  · split
    · simp; omega
    · omega


theorem reads43 : ∀ (e : Ex), (readsF e).length ≤ 100000 → PCall Tryz.prog 227 [e.enc] (.lst 1 ((readsF e).map AV.s) none) := by
  intro e
  induction e using Ex.ind with
  | _ e ih =>
  intro hl
  refine pcall_of_vc tabOK Tryz.func227 (by kernel_rfl) rfl pureL pureI (n := 52) rfl (rs := [.tmp 2]) rfl ?_
  rw [readsF_eq] at hl ⊢
  repeat' first | simp only [go_sem] | refine ⟨by omega, ?_⟩ | refine brK_dec (fun _ => ?_) (fun _ => ?_) | refine gqK_dec (fun _ => ?_) (fun _ => ?_) | refine gK_dec (fun _ => ?_) (fun _ => ?_)
  all_goals
    refine loop_fr [3, 4, 24, 25, 26, 27, 28, 29, 30, 31, 32, 33, 34, 35, 36, 37, 38, 39, 40, 41, 42, 43, 44, 45, 46, 47, 48, 49, 50] (fun m C h => ∃ (i : Nat) (r : List Blk), i ≤ e.subs.length ∧ m = e.subs.length - i ∧
      C = [(4, .raw (.int .i64 (i : Nat))), (3, .lst 1 ((mineK e.kind e.name ++ readsL ((keepK e.kind e.subs).take i)).map AV.s) (some 1))] ∧
      h = .cells 29 [.i e.kind, .i e.n, .s e.name, .i e.op, .lst 1 (e.arms.map AV.s) none, .lst 6 (e.subs.map Ex.enc) none] :: .tok 9 1 (mineK e.kind e.name ++ readsL ((keepK e.kind e.subs).take i)).length :: r)
      (e.subs.length) _ ⟨0, _, by omega, rfl, rfl, by simp [mineK, readsL, *]; rfl⟩ (.cons rfl (.cons (by simp [mineK, readsL, *]) .nil)) ?_
    rintro m C j h ⟨i, r, hi, rfl, rfl, rfl⟩
    simp only [go_sem]
    have hkl := keep_le e.kind e.subs
    repeat' first | simp only [go_sem] | (intro _) | refine ⟨by omega, ?_⟩ | refine brK_dec (fun _ => ?_) (fun _ => ?_) | refine gqK_dec (fun _ => ?_) (fun _ => ?_) | refine gK_dec (fun _ => ?_) (fun _ => ?_)
    all_goals first
      | (rw [List.take_of_length_le (keep_end (by omega))]; exact ⟨_, rfl, false, .tok _ _ _⟩)
      | (have hend : (keepK e.kind e.subs).length ≤ i := keep_end (by omega)
         exact loopFr (e.subs.length - (i + 1)) (by omega) ⟨i + 1, r, by omega, rfl, rfl, by rw [List.take_of_length_le hend, List.take_of_length_le (by omega)]⟩ (.next rfl (by omega) (.cons (by rw [List.take_of_length_le hend, List.take_of_length_le (by omega)]; rfl) .nil)) rfl)
      | (have hlt : i < (keepK e.kind e.subs).length := keep_go (by assumption) (by first | exact Or.inl (by assumption) | exact Or.inr (by assumption)) (by assumption)
         have hlt' : i < e.subs.length := by omega
         have h1 := reads_le hlt
         have h2 := readsL_le (l := keepK e.kind e.subs) (k := i + 1)
         have h3 := readsL_take hlt
         rw [keep_at hlt] at h1 h3
         have hl' := hl
         rw [h3] at h2
         simp only [List.length_append] at hl' h1 h2
         refine elemK (e.subs[i]).enc (by omega) (map_at _ (List.getElem?_eq_getElem hlt')) ?_
         simp only [go_sem]
         refine PCall.call (ih e.subs[i] (List.getElem_mem _) (by omega)) ?_
         simp only [go_sem]
         refine ⟨by omega, ?_⟩
         refine loopFr (e.subs.length - (i + 1)) (by omega) ⟨i + 1, r, by omega, rfl, rfl, ?_⟩ (.next rfl (by omega) (.cons ?_ .nil)) rfl
         · rw [h3]; simp [slot]; try omega
         · rw [h3]; simp [slot])
abbrev exB (e : Ex) : Blk := .cells 29 [.i e.kind, .i e.n, .s e.name, .i e.op, .lst 1 (e.arms.map AV.s) none, .lst 6 (e.subs.map Ex.enc) none]

theorem reads42 : ∀ (e : Ex), (readsF e).length ≤ 100000 → PCall Tryz.prog 36 [e.enc] (.lst 1 ((readsF e).map AV.s) none) := by
  intro e
  induction e using Ex.ind with
  | _ e ih =>
  intro hl
  refine pcall_of_vc tabOK Tryz.func36 (by kernel_rfl) rfl pureL pureI (n := 41) rfl (rs := [.tmp 2]) rfl ?_
  rw [readsF_eq] at hl ⊢
  repeat' first | simp only [go_sem] | (intro _) | refine ⟨by omega, ?_⟩ | refine brK_dec (fun _ => ?_) (fun _ => ?_) | refine gqK_dec (fun _ => ?_) (fun _ => ?_) | refine gK_dec (fun _ => ?_) (fun _ => ?_)
  iterate 3
    · have hk : keepK e.kind e.subs = e.subs := by simp [keepK, *]
      have hm : mineK e.kind e.name = [e.name] := by simp [mineK, *]
      rw [hk, hm] at hl ⊢
      refine loop_fr [3, 6, 31, 32, 33, 34, 35, 36, 37, 38, 39] (fun m C h => ∃ (i : Nat) (b : Blk) (r : List Blk), i ≤ e.subs.length ∧ m = e.subs.length - i ∧
        C = [(31, .raw (.int .i64 (i : Nat))), (3, .lst 1 (([e.name] ++ readsL (e.subs.take i)).map AV.s) (some 2))] ∧
        h = .cells 29 [.i e.kind, .i e.n, .s e.name, .i e.op, .lst 1 (e.arms.map AV.s) none, .lst 6 (e.subs.map Ex.enc) none] :: b :: .tok 9 1 ([e.name] ++ readsL (e.subs.take i)).length :: r)
        (e.subs.length) _ ⟨0, _, _, by omega, rfl, rfl, by simp [readsL]; exact ⟨rfl, rfl⟩⟩ (.cons rfl (.cons (by simp [readsL]) .nil)) ?_
      rintro m C j h ⟨i, b, r, hi, rfl, rfl, rfl⟩
      simp only [go_sem]
      refine brK_dec (fun hlt => ?_) (fun hge => ?_)
      · have hlt' : i < e.subs.length := by omega
        have h1 := reads_le hlt'
        have h2 := readsL_le (l := e.subs) (k := i + 1)
        have h3 := readsL_take hlt'
        have hl' := hl
        rw [h3] at h2
        simp only [List.length_append, List.length_cons, List.length_nil] at hl' h1 h2
        simp only [go_sem]
        refine elemK (e.subs[i]).enc (by omega) (map_at _ (List.getElem?_eq_getElem hlt')) ?_
        simp only [go_sem]
        refine PCall.call (ih e.subs[i] (List.getElem_mem _) (by omega)) ?_
        simp only [go_sem]
        refine ⟨by omega, ?_⟩
        refine loopFr (e.subs.length - (i + 1)) (by omega) ⟨i + 1, b, r ++ [exB e.subs[i]], by omega, rfl, rfl, ?_⟩ (.next rfl (by omega) (.cons ?_ .nil)) rfl
        · rw [h3]; simp [slot]; try rfl
        · rw [h3]; simp [slot]
      · rw [List.take_of_length_le (by omega)]
        simp only [go_sem]
        exact ⟨_, rfl, false, .tok _ _ _⟩
  · have hk : keepK e.kind e.subs = [] := by simp [keepK, *]
    have hm : mineK e.kind e.name = [] := by simp [mineK, *]
    rw [hk, hm, readsL]
    refine loop_frH [3, 6, 31, 32, 33, 34, 35, 36, 37, 38, 39] (fun m C => C = [(31, .raw (.int .i64 0)), (3, .raw (.slice none 0 0))]) 0 _ rfl (.cons rfl (.cons rfl .nil)) ?_
    rintro m C j rfl
    simp only [go_sem]
    exact ⟨_, rfl, false, .nil _⟩
  · have hmem : ∀ x, x ∈ List.take (if (e.subs.length : Int) < 1 then (e.subs.length : Int) else 1).toNat e.subs → x ∈ e.subs := fun x hx => List.mem_of_mem_take hx
    have hk : keepK e.kind e.subs = List.take (if (e.subs.length : Int) < 1 then (e.subs.length : Int) else 1).toNat e.subs := by
      by_cases h : (e.subs.length : Int) < 1
      · have : e.subs = [] := List.length_eq_zero_iff.1 (by omega)
        simp [keepK, *]
      · simp [keepK, h, *]
    generalize List.take (if (e.subs.length : Int) < 1 then (e.subs.length : Int) else 1).toNat e.subs = S at *
    have hm : mineK e.kind e.name = [] := by simp [mineK, *]
    rw [hk, hm, List.nil_append] at hl ⊢
    refine loop_ghost (ghost_own 3 9 1 rfl) ?_
    simp only [go_sem]
    refine loop_fr [3, 6, 31, 32, 33, 34, 35, 36, 37, 38, 39] (fun m C h => ∃ (i : Nat) (r : List Blk), i ≤ S.length ∧ m = S.length - i ∧
      C = [(31, .raw (.int .i64 (i : Nat))), (3, .own 1 1 ((readsL (S.take i)).map AV.s).length)] ∧ h = exB e :: .own 9 1 ((readsL (S.take i)).map AV.s) :: r)
      S.length _ ⟨0, [], by omega, rfl, rfl, rfl⟩ (.cons rfl (.cons rfl .nil)) ?_
    rintro m C j h ⟨i, r, hi, rfl, rfl, rfl⟩
    simp only [go_sem]
    refine brK_dec (fun hlt => ?_) (fun hge => ?_)
    · have hlt' : i < S.length := by omega
      have h1 := reads_le hlt'
      have h2 := readsL_le (l := S) (k := i + 1)
      have h3 := readsL_take hlt'
      rw [h3] at h2
      simp only [List.length_append] at h1 h2
      simp only [go_sem]
      refine elemK (S[i]).enc (by omega) (map_at _ (List.getElem?_eq_getElem hlt')) ?_
      simp only [go_sem]
      refine PCall.call (ih S[i] (hmem _ (List.getElem_mem _)) (by omega)) ?_
      simp only [go_sem]
      refine ⟨by first | omega | (simp; omega), ?_⟩
      refine loopFr (S.length - (i + 1)) (by omega) ⟨i + 1, r ++ [exB S[i]], by omega, rfl, rfl, ?_⟩ (.next rfl (by omega) (.cons ?_ .nil)) rfl
      · rw [h3]; simp; try rfl
      · rw [h3]; simp [slot]; try omega
    · rw [List.take_of_length_le (by omega)]
      simp only [go_sem]
      refine ⟨_, rfl, true, ?_⟩
      have hz : ∀ R : List Blk, frz (exB e :: .own 9 1 ((readsL S).map AV.s) :: R) (.own 1 1 (readsL S).length) = .lst 1 ((readsL S).map AV.s) none := by
        intro R
        simp [frz]
      show Weak (frz (exB e :: .own 9 1 ((readsL S).map AV.s) :: r) (.own 1 1 (readsL S).length)) _
      rw [hz]
      exact .refl _
  · have hmem : ∀ x, x ∈ e.subs → x ∈ e.subs := fun x hx => hx
    have hk : keepK e.kind e.subs = e.subs := by simp [keepK, *]
    have hm : mineK e.kind e.name = [] := by simp [mineK, *]
    rw [hk, hm, List.nil_append] at hl ⊢
    refine loop_ghost (ghost_own 3 9 1 rfl) ?_
    simp only [go_sem]
    refine loop_fr [3, 6, 31, 32, 33, 34, 35, 36, 37, 38, 39] (fun m C h => ∃ (i : Nat) (r : List Blk), i ≤ e.subs.length ∧ m = e.subs.length - i ∧
      C = [(31, .raw (.int .i64 (i : Nat))), (3, .own 1 1 ((readsL (e.subs.take i)).map AV.s).length)] ∧ h = exB e :: .own 9 1 ((readsL (e.subs.take i)).map AV.s) :: r)
      e.subs.length _ ⟨0, [], by omega, rfl, rfl, rfl⟩ (.cons rfl (.cons rfl .nil)) ?_
    rintro m C j h ⟨i, r, hi, rfl, rfl, rfl⟩
    simp only [go_sem]
    refine brK_dec (fun hlt => ?_) (fun hge => ?_)
    · have hlt' : i < e.subs.length := by omega
      have h1 := reads_le hlt'
      have h2 := readsL_le (l := e.subs) (k := i + 1)
      have h3 := readsL_take hlt'
      rw [h3] at h2
      simp only [List.length_append] at h1 h2
      simp only [go_sem]
      refine elemK (e.subs[i]).enc (by omega) (map_at _ (List.getElem?_eq_getElem hlt')) ?_
      simp only [go_sem]
      refine PCall.call (ih e.subs[i] (hmem _ (List.getElem_mem _)) (by omega)) ?_
      simp only [go_sem]
      refine ⟨by first | omega | (simp; omega), ?_⟩
      refine loopFr (e.subs.length - (i + 1)) (by omega) ⟨i + 1, r ++ [exB e.subs[i]], by omega, rfl, rfl, ?_⟩ (.next rfl (by omega) (.cons ?_ .nil)) rfl
      · rw [h3]; simp; try rfl
      · rw [h3]; simp [slot]; try omega
    · rw [List.take_of_length_le (by omega)]
      simp only [go_sem]
      refine ⟨_, rfl, true, ?_⟩
      have hz : ∀ R : List Blk, frz (exB e :: .own 9 1 ((readsL e.subs).map AV.s) :: R) (.own 1 1 (readsL e.subs).length) = .lst 1 ((readsL e.subs).map AV.s) none := by
        intro R
        simp [frz]
      show Weak (frz (exB e :: .own 9 1 ((readsL e.subs).map AV.s) :: r) (.own 1 1 (readsL e.subs).length)) _
      rw [hz]
      exact .refl _
theorem pure_flat_strs (l : List ByteArray) : ∀ c ∈ flat (l.map AV.s), Go.Abs.Pure c := by
  have := pure_strs l
  cases this with
  | lst _ _ h => exact h

theorem reads43T (e : Ex) (hl : (readsF e).length ≤ 100000) {h : List Blk} {K : AV → List Blk → Prop} (hK : K (.lst 1 ((readsF e).map AV.s) (some h.length)) (h ++ [.tok 9 1 (readsF e).length])) : ACall Tryz.prog 227 [e.enc] h K := by
  refine tcall (e := 9) (sz := 1) (l := (readsF e).map AV.s) (fun KK hk0 => acallT_of_vc tabOK Tryz.func227 (by kernel_rfl) rfl (n := 52) rfl (rs := [.tmp 2]) rfl (e := 9) (sz := 1) (l := (readsF e).map AV.s) ?_) (pure_cons (pure_enc e) pure_nil) (pure_flat_strs _) (by simpa using hK)
  have hpl := pure_flat_strs (readsF e)
  clear hK
  rw [readsF_eq] at hl hpl hk0 ⊢
  repeat' first | simp only [go_sem] | refine ⟨by omega, ?_⟩ | refine brK_dec (fun _ => ?_) (fun _ => ?_) | refine gqK_dec (fun _ => ?_) (fun _ => ?_) | refine gK_dec (fun _ => ?_) (fun _ => ?_)
  all_goals
    refine loop_fr [3, 4, 24, 25, 26, 27, 28, 29, 30, 31, 32, 33, 34, 35, 36, 37, 38, 39, 40, 41, 42, 43, 44, 45, 46, 47, 48, 49, 50] (fun m C h => ∃ (i : Nat) (r : List Blk), i ≤ e.subs.length ∧ m = e.subs.length - i ∧
      C = [(4, .raw (.int .i64 (i : Nat))), (3, .lst 1 ((mineK e.kind e.name ++ readsL ((keepK e.kind e.subs).take i)).map AV.s) (some 1))] ∧
      h = .cells 29 [.i e.kind, .i e.n, .s e.name, .i e.op, .lst 1 (e.arms.map AV.s) none, .lst 6 (e.subs.map Ex.enc) none] :: .tok 9 1 (mineK e.kind e.name ++ readsL ((keepK e.kind e.subs).take i)).length :: r)
      (e.subs.length) _ ⟨0, _, by omega, rfl, rfl, by simp [mineK, readsL, *]; rfl⟩ (.cons rfl (.cons (by simp [mineK, readsL, *]) .nil)) ?_
    rintro m C j h ⟨i, r, hi, rfl, rfl, rfl⟩
    simp only [go_sem]
    have hkl := keep_le e.kind e.subs
    repeat' first | simp only [go_sem] | (intro _) | refine ⟨by omega, ?_⟩ | refine brK_dec (fun _ => ?_) (fun _ => ?_) | refine gqK_dec (fun _ => ?_) (fun _ => ?_) | refine gK_dec (fun _ => ?_) (fun _ => ?_)
    all_goals first
      | (rw [List.take_of_length_le (keep_end (by omega))]; exact finTk (k := 1) hk0 rfl rfl rfl (by simp) hpl)
      | (have hend : (keepK e.kind e.subs).length ≤ i := keep_end (by omega)
         exact loopFr (e.subs.length - (i + 1)) (by omega) ⟨i + 1, r, by omega, rfl, rfl, by rw [List.take_of_length_le hend, List.take_of_length_le (by omega)]⟩ (.next rfl (by omega) (.cons (by rw [List.take_of_length_le hend, List.take_of_length_le (by omega)]; rfl) .nil)) rfl)
      | (have hlt : i < (keepK e.kind e.subs).length := keep_go (by assumption) (by first | exact Or.inl (by assumption) | exact Or.inr (by assumption)) (by assumption)
         have hlt' : i < e.subs.length := by omega
         have h1 := reads_le hlt
         have h2 := readsL_le (l := keepK e.kind e.subs) (k := i + 1)
         have h3 := readsL_take hlt
         rw [keep_at hlt] at h1 h3
         have hl' := hl
         rw [h3] at h2
         simp only [List.length_append] at hl' h1 h2
         refine elemK (e.subs[i]).enc (by omega) (map_at _ (List.getElem?_eq_getElem hlt')) ?_
         simp only [go_sem]
         refine PCall.call (reads43 e.subs[i] (by omega)) ?_
         simp only [go_sem]
         refine ⟨by omega, ?_⟩
         refine loopFr (e.subs.length - (i + 1)) (by omega) ⟨i + 1, r, by omega, rfl, rfl, ?_⟩ (.next rfl (by omega) (.cons ?_ .nil)) rfl
         · rw [h3]; simp [slot]; try omega
         · rw [h3]; simp [slot])

theorem reads42T (e : Ex) (hl : (readsF e).length ≤ 100000) {h : List Blk} {K : AV → List Blk → Prop} (hK : K (.lst 1 ((readsF e).map AV.s) (some h.length)) (h ++ [.tok 9 1 (readsF e).length])) : ACall Tryz.prog 36 [e.enc] h K := by
  refine tcall (e := 9) (sz := 1) (l := (readsF e).map AV.s) (fun KK hk0 => acallT_of_vc tabOK Tryz.func36 (by kernel_rfl) rfl (n := 41) rfl (rs := [.tmp 2]) rfl (e := 9) (sz := 1) (l := (readsF e).map AV.s) ?_) (pure_cons (pure_enc e) pure_nil) (pure_flat_strs _) (by simpa using hK)
  have hpl := pure_flat_strs (readsF e)
  clear hK
  rw [readsF_eq] at hl hpl hk0 ⊢
  repeat' first | simp only [go_sem] | (intro _) | refine ⟨by omega, ?_⟩ | refine brK_dec (fun _ => ?_) (fun _ => ?_) | refine gqK_dec (fun _ => ?_) (fun _ => ?_) | refine gK_dec (fun _ => ?_) (fun _ => ?_)
  iterate 3
    · have hk : keepK e.kind e.subs = e.subs := by simp [keepK, *]
      have hm : mineK e.kind e.name = [e.name] := by simp [mineK, *]
      rw [hk, hm] at hl hpl hk0 ⊢
      refine loop_fr [3, 6, 31, 32, 33, 34, 35, 36, 37, 38, 39] (fun m C h => ∃ (i : Nat) (b : Blk) (r : List Blk), i ≤ e.subs.length ∧ m = e.subs.length - i ∧
        C = [(31, .raw (.int .i64 (i : Nat))), (3, .lst 1 (([e.name] ++ readsL (e.subs.take i)).map AV.s) (some 2))] ∧
        h = exB e :: b :: .tok 9 1 ([e.name] ++ readsL (e.subs.take i)).length :: r)
        (e.subs.length) _ ⟨0, _, _, by omega, rfl, rfl, by simp [readsL]; exact ⟨rfl, rfl⟩⟩ (.cons rfl (.cons (by simp [readsL]) .nil)) ?_
      rintro m C j h ⟨i, b, r, hi, rfl, rfl, rfl⟩
      simp only [go_sem]
      refine brK_dec (fun hlt => ?_) (fun hge => ?_)
      · have hlt' : i < e.subs.length := by omega
        have h1 := reads_le hlt'
        have h2 := readsL_le (l := e.subs) (k := i + 1)
        have h3 := readsL_take hlt'
        have hl' := hl
        rw [h3] at h2
        simp only [List.length_append, List.length_cons, List.length_nil] at hl' h1 h2
        simp only [go_sem]
        refine elemK (e.subs[i]).enc (by omega) (map_at _ (List.getElem?_eq_getElem hlt')) ?_
        simp only [go_sem]
        refine PCall.call (reads42 e.subs[i] (by omega)) ?_
        simp only [go_sem]
        refine ⟨by omega, ?_⟩
        refine loopFr (e.subs.length - (i + 1)) (by omega) ⟨i + 1, b, r ++ [exB e.subs[i]], by omega, rfl, rfl, ?_⟩ (.next rfl (by omega) (.cons ?_ .nil)) rfl
        · rw [h3]; simp [slot]; try rfl
        · rw [h3]; simp [slot]
      · rw [List.take_of_length_le (by omega)]
        simp only [go_sem]
        exact finTk (k := 2) hk0 rfl rfl rfl (by simp) hpl
  · have hk : keepK e.kind e.subs = [] := by simp [keepK, *]
    have hm : mineK e.kind e.name = [] := by simp [mineK, *]
    rw [hk, hm, readsL] at hl hpl hk0 ⊢
    refine loop_ghost (ghost_tok 3 9 1 rfl) ?_
    simp only [go_sem]
    refine loop_frH [3, 6, 31, 32, 33, 34, 35, 36, 37, 38, 39] (fun m C => C = [(31, .raw (.int .i64 0)), (3, .lst 1 [] (some 1))]) 0 _ rfl (.cons rfl (.cons rfl .nil)) ?_
    rintro m C j rfl
    simp only [go_sem]
    exact finTk (k := 1) hk0 rfl rfl rfl (by simp) hpl
  · have hk : keepK e.kind e.subs = List.take (if (e.subs.length : Int) < 1 then (e.subs.length : Int) else 1).toNat e.subs := by
      by_cases h : (e.subs.length : Int) < 1
      · have : e.subs = [] := List.length_eq_zero_iff.1 (by omega)
        simp [keepK, *]
      · simp [keepK, h, *]
    generalize List.take (if (e.subs.length : Int) < 1 then (e.subs.length : Int) else 1).toNat e.subs = S at *
    have hm : mineK e.kind e.name = [] := by simp [mineK, *]
    rw [hk, hm, List.nil_append] at hl hpl hk0 ⊢
    refine loop_ghost (ghost_tok 3 9 1 rfl) ?_
    simp only [go_sem]
    refine loop_fr [3, 6, 31, 32, 33, 34, 35, 36, 37, 38, 39] (fun m C h => ∃ (i : Nat) (r : List Blk), i ≤ S.length ∧ m = S.length - i ∧
      C = [(31, .raw (.int .i64 (i : Nat))), (3, .lst 1 ((readsL (S.take i)).map AV.s) (some 1))] ∧ h = exB e :: .tok 9 1 (readsL (S.take i)).length :: r)
      S.length _ ⟨0, [], by omega, rfl, rfl, rfl⟩ (.cons rfl (.cons rfl .nil)) ?_
    rintro m C j h ⟨i, r, hi, rfl, rfl, rfl⟩
    simp only [go_sem]
    refine brK_dec (fun hlt => ?_) (fun hge => ?_)
    · have hlt' : i < S.length := by omega
      have h1 := reads_le hlt'
      have h2 := readsL_le (l := S) (k := i + 1)
      have h3 := readsL_take hlt'
      rw [h3] at h2
      simp only [List.length_append] at h1 h2
      simp only [go_sem]
      refine elemK (S[i]).enc (by omega) (map_at _ (List.getElem?_eq_getElem hlt')) ?_
      simp only [go_sem]
      refine PCall.call (reads42 S[i] (by omega)) ?_
      simp only [go_sem]
      refine ⟨by first | omega | (simp; omega), ?_⟩
      refine loopFr (S.length - (i + 1)) (by omega) ⟨i + 1, r ++ [exB S[i]], by omega, rfl, rfl, ?_⟩ (.next rfl (by omega) (.cons ?_ .nil)) rfl
      · rw [h3]; simp; try rfl
      · rw [h3]; simp [slot]; try omega
    · rw [List.take_of_length_le (by omega)]
      simp only [go_sem]
      exact finTk (k := 1) hk0 rfl rfl rfl (by simp) hpl
  · have hk : keepK e.kind e.subs = e.subs := by simp [keepK, *]
    have hm : mineK e.kind e.name = [] := by simp [mineK, *]
    rw [hk, hm, List.nil_append] at hl hpl hk0 ⊢
    refine loop_ghost (ghost_tok 3 9 1 rfl) ?_
    simp only [go_sem]
    refine loop_fr [3, 6, 31, 32, 33, 34, 35, 36, 37, 38, 39] (fun m C h => ∃ (i : Nat) (r : List Blk), i ≤ e.subs.length ∧ m = e.subs.length - i ∧
      C = [(31, .raw (.int .i64 (i : Nat))), (3, .lst 1 ((readsL (e.subs.take i)).map AV.s) (some 1))] ∧ h = exB e :: .tok 9 1 (readsL (e.subs.take i)).length :: r)
      e.subs.length _ ⟨0, [], by omega, rfl, rfl, rfl⟩ (.cons rfl (.cons rfl .nil)) ?_
    rintro m C j h ⟨i, r, hi, rfl, rfl, rfl⟩
    simp only [go_sem]
    refine brK_dec (fun hlt => ?_) (fun hge => ?_)
    · have hlt' : i < e.subs.length := by omega
      have h1 := reads_le hlt'
      have h2 := readsL_le (l := e.subs) (k := i + 1)
      have h3 := readsL_take hlt'
      rw [h3] at h2
      simp only [List.length_append] at h1 h2
      simp only [go_sem]
      refine elemK (e.subs[i]).enc (by omega) (map_at _ (List.getElem?_eq_getElem hlt')) ?_
      simp only [go_sem]
      refine PCall.call (reads42 e.subs[i] (by omega)) ?_
      simp only [go_sem]
      refine ⟨by first | omega | (simp; omega), ?_⟩
      refine loopFr (e.subs.length - (i + 1)) (by omega) ⟨i + 1, r ++ [exB e.subs[i]], by omega, rfl, rfl, ?_⟩ (.next rfl (by omega) (.cons ?_ .nil)) rfl
      · rw [h3]; simp; try rfl
      · rw [h3]; simp [slot]; try omega
    · rw [List.take_of_length_le (by omega)]
      simp only [go_sem]
      exact finTk (k := 1) hk0 rfl rfl rfl (by simp) hpl
end Go.Proofs.YtidjmcmfgimbfaaGreatDoor

namespace Go.Proofs.YtidjmcmfgimbfaaGreatDoor
open Go.Abs
set_option maxRecDepth 20000
set_option linter.unusedSimpArgs false
set_option linter.unusedVariables false
set_option maxHeartbeats 1000000
attribute [local irreducible] vc vcOps vcStep vcGuard prK hrK gK gsK brK callK ElemK SeqK BlockK ScopeK OpsK CallK LoopK LoopGo finPost ACall PCall PCallE BCall vqOps vqStep vqGuard qrK heK pcK gqK gqsK QOpsK qcallK DrawK
def hangsF (n : DNode) (q : DEq) : List ByteArray := readsF q.E ++ (match q.Names with | [] => [] | s :: _ => (clock n s).1.map DDecl.On)
def okH (n : DNode) (q : DEq) : Prop := (readsF q.E).length ≤ 100000 ∧ (allV n).length ≤ 4294967296
theorem on_take {l : List DDecl} {A acc : List ByteArray} {i : Nat} {x : DDecl} (h : acc = A ++ (l.take i).map DDecl.On ∧ acc.length ≤ A.length + i) (hx : l[((i : Nat) : Int).toNat]? = some x) : acc ++ [x.On] = A ++ (l.take (i + 1)).map DDecl.On ∧ (acc ++ [x.On]).length ≤ A.length + (i + 1) := by
  refine ⟨?_, by have := h.2; simp; omega⟩
  rw [take_mapS hx, ← List.append_assoc, ← h.1]
theorem on_done {l : List DDecl} {A acc : List ByteArray} {i : Nat} (h : acc = A ++ (l.take i).map DDecl.On ∧ acc.length ≤ A.length + i) (hi : ¬ (i : Int) < l.length) : A ++ l.map DDecl.On = acc := by
  rw [h.1, List.take_of_length_le (by omega)]

theorem hangs123 (n : DNode) (q : DEq) (hl : okH n q) : PCall Tryz.prog 129 [n.enc, q.enc] (.lst 1 ((hangsF n q).map AV.s) none) := by
  refine pcall_of_vc tabOK Tryz.func129 (by kernel_rfl) rfl pureL pureI (n := 40) rfl (rs := [.tmp 4]) rfl ?_
  obtain ⟨Ns, E⟩ := q
  obtain ⟨hl, hn⟩ := hl
  rcases Ns with _ | ⟨s, ss⟩
  · repeat' first
    | exact finB rfl
    | exact finI rfl
    | exact finP rfl
    | exact absurd rfl (by assumption)
    | simp only [go_sem]
    | (intro _)
    | refine brK_dec (fun _ => ?_) (fun _ => ?_)
    | refine brK_any ?_ ?_
    | refine gK_dec (fun _ => ?_) (fun _ => ?_)
    | refine gK_any ?_ ?_
    | refine gqK_dec (fun _ => ?_) (fun _ => ?_)
    | refine ⟨by omega, ?_⟩
    | refine elemHave (by omega) (by assumption) ?_
    | refine elemMap (by omega) (by omega) (fun x hx => ?_)
    | refine drawK mo (by kernel_rfl) ?_
    | (refine reads42T E hl ?_)
    | (simp only [hangsF, List.append_nil]; exact ⟨_, rfl, false, .tok _ _ _⟩)
    | (exact absurd rfl (by assumption))
  · have hcl := clock_len n s
    have h21 := clock21 n s hn
    unfold hangsF
    dsimp only
    generalize clock n s = c at hcl h21 ⊢
    obtain ⟨l, ok⟩ := c
    dsimp only at hcl hl ⊢
    repeat' first
    | exact finB rfl
    | exact finI rfl
    | exact finP rfl
    | exact absurd rfl (by assumption)
    | simp only [go_sem]
    | (intro _)
    | refine brK_dec (fun _ => ?_) (fun _ => ?_)
    | refine brK_any ?_ ?_
    | refine gK_dec (fun _ => ?_) (fun _ => ?_)
    | refine gK_any ?_ ?_
    | refine gqK_dec (fun _ => ?_) (fun _ => ?_)
    | refine ⟨by omega, ?_⟩
    | refine elemHave (by omega) (by assumption) ?_
    | refine elemMap (by omega) (by omega) (fun x hx => ?_)
    | refine drawK mo (by kernel_rfl) ?_
    | (refine reads42T E hl ?_)
    | (exfalso; omega)
    | (refine elemK (AV.s s) (by omega) rfl ?_)
    | (refine pcK_of h21 ?_)
    | (simp only [map_snoc])
    | (refine ⟨by have := hpi.2; simp; omega, ?_⟩)
    | (rw [on_done hpi (by assumption)]; exact ⟨_, rfl, false, .tok _ _ _⟩)
    | exact loopFr _ (by omega) ⟨i + 1, acc ++ [x.On], b0, b1, _, by omega, rfl, on_take hpi (by assumption), rfl, (by first | rfl | (simp; done) | (simp; rfl))⟩ (.next rfl (by omega) (.cons (by first | rfl | (simp; done) | (simp; rfl)) .nil)) rfl
    | (refine loop_fr [5, 9, 29, 30, 31, 32, 33, 34, 35, 36, 37, 38] (fun mm_ CC_ hh_ => ∃ (i : Nat) (acc : List ByteArray) (b0 : Blk) (b1 : Blk) (r_ : List Blk), i ≤ l.length ∧ mm_ = l.length - i ∧ ((acc = readsF E ++ (l.take i).map DDecl.On ∧ acc.length ≤ (readsF E).length + i)) ∧ CC_ = [(29, .raw (.int .i64 ((i : Nat) : Int))), (5, .lst 1 (acc.map AV.s) (some 2))] ∧ hh_ = b0 :: b1 :: .tok 9 1 acc.length :: r_) (l.length) _ ⟨0, readsF E, _, _, _, by omega, by omega, ⟨by simp, by simp⟩, rfl, (by first | rfl | (simp; done) | (simp; rfl))⟩ (.cons (by first | rfl | (simp; done) | (simp; rfl)) (.cons (by first | rfl | (simp; done) | (simp; rfl)) .nil)) ?_; rintro mm_ CC_ ji hh_ ⟨i, acc, b0, b1, ri, hi, rfl, hpi, rfl, rfl⟩)


theorem hangs125 (n : DNode) (i : Nat) (q : DEq) (hq : n.Eqs[((i : Nat) : Int).toNat]? = some q) (hl : okH n q) : PCall Tryz.prog 190 [n.enc, .i (i : Int)] (.lst 1 ((hangsF n q).map AV.s) none) := by
  obtain ⟨Ns, E⟩ := q
  obtain ⟨hl, hn⟩ := hl
  have hil : (i : Int) < n.Eqs.length := by
    obtain ⟨a, _⟩ := List.getElem?_eq_some_iff.1 hq
    rw [Int.toNat_natCast] at a; omega
  refine pcall_of_vc tabOK Tryz.func190 (by kernel_rfl) rfl pureL pureI (n := 47) rfl (rs := [.tmp 4]) rfl ?_
  rcases Ns with _ | ⟨s, ss⟩
  · repeat' first
    | exact finB rfl
    | exact finI rfl
    | exact finP rfl
    | exact absurd rfl (by assumption)
    | simp only [go_sem]
    | (intro _)
    | refine brK_dec (fun _ => ?_) (fun _ => ?_)
    | refine brK_any ?_ ?_
    | refine gK_dec (fun _ => ?_) (fun _ => ?_)
    | refine gK_any ?_ ?_
    | refine gqK_dec (fun _ => ?_) (fun _ => ?_)
    | refine ⟨by omega, ?_⟩
    | refine elemHave (by omega) (by assumption) ?_
    | refine elemMap (by omega) (by omega) (fun x hx => ?_)
    | refine drawK mo (by kernel_rfl) ?_
    | (refine reads43T E hl ?_)
    | (simp only [hangsF, List.append_nil]; exact ⟨_, rfl, false, .tok _ _ _⟩)
    | (exact absurd rfl (by assumption))
  · have hcl := clock_len n s
    have h22 := clock22 n s hn
    unfold hangsF
    dsimp only
    generalize clock n s = c at hcl h22 ⊢
    obtain ⟨l, ok⟩ := c
    dsimp only at hcl hl ⊢
    repeat' first
    | exact finB rfl
    | exact finI rfl
    | exact finP rfl
    | exact absurd rfl (by assumption)
    | simp only [go_sem]
    | (intro _)
    | refine brK_dec (fun _ => ?_) (fun _ => ?_)
    | refine brK_any ?_ ?_
    | refine gK_dec (fun _ => ?_) (fun _ => ?_)
    | refine gK_any ?_ ?_
    | refine gqK_dec (fun _ => ?_) (fun _ => ?_)
    | refine ⟨by omega, ?_⟩
    | refine elemHave (by omega) (by assumption) ?_
    | refine elemMap (by omega) (by omega) (fun x hx => ?_)
    | refine drawK mo (by kernel_rfl) ?_
    | (refine reads43T E hl ?_)
    | (exfalso; omega)
    | (refine elemK (AV.s s) (by omega) rfl ?_)
    | (refine pcK_of h22 ?_)
    | (simp only [map_snoc])
    | (refine ⟨by have := hpj.2; simp; omega, ?_⟩)
    | (rw [on_done hpj (by assumption)]; exact ⟨_, rfl, false, .tok _ _ _⟩)
    | exact loopFr _ (by omega) ⟨j + 1, acc ++ [x.On], b0, b1, _, by omega, rfl, on_take hpj (by assumption), rfl, (by first | rfl | (simp; done) | (simp; rfl))⟩ (.next rfl (by omega) (.cons (by first | rfl | (simp; done) | (simp; rfl)) .nil)) rfl
    | (refine loop_fr [6, 9, 32, 33, 34, 35, 36, 37, 38, 39, 40, 41, 42, 43, 44, 45] (fun mm_ CC_ hh_ => ∃ (j : Nat) (acc : List ByteArray) (b0 : Blk) (b1 : Blk) (r_ : List Blk), j ≤ l.length ∧ mm_ = l.length - j ∧ ((acc = readsF E ++ (l.take j).map DDecl.On ∧ acc.length ≤ (readsF E).length + j)) ∧ CC_ = [(9, .raw (.int .i64 ((j : Nat) : Int))), (6, .lst 1 (acc.map AV.s) (some 2))] ∧ hh_ = b0 :: b1 :: .tok 9 1 acc.length :: r_) (l.length) _ ⟨0, readsF E, _, _, _, by omega, by omega, ⟨by simp, by simp⟩, rfl, (by first | rfl | (simp; done) | (simp; rfl))⟩ (.cons (by first | rfl | (simp; done) | (simp; rfl)) (.cons (by first | rfl | (simp; done) | (simp; rfl)) .nil)) ?_; rintro mm_ CC_ jj hh_ ⟨j, acc, b0, b1, rj, hj, rfl, hpj, rfl, rfl⟩)
end Go.Proofs.YtidjmcmfgimbfaaGreatDoor

/-
  Orders found from the end; maps of what equations hang on.
-/
namespace Go.Abs
open Go
/-- The first one that is ready, found from the end: all from a + 1 on are looked at, b is the first of them that is ready, or -1. -/
def okDn (N H : List (List ByteArray)) (pl : List Bool) (a b : Int) : Prop :=
  (b = -1 ∧ ∀ j : Nat, a < j → j < N.length → readyF N H pl j = false) ∨ ∃ k : Nat, k < N.length ∧ a < k ∧ b = k ∧ readyF N H pl k = true ∧ ∀ j : Nat, a < j → j < k → readyF N H pl j = false
section
variable {N H : List (List ByteArray)} {pl : List Bool} {a b : Int}
theorem okDn.zero : okDn N H pl ((N.length : Int) - 1) (-1) := .inl ⟨rfl, fun j h1 h2 => by omega⟩
theorem okDn.hit (h : okDn N H pl a b) {i : Nat} (ha : a = i) (hi : i < N.length) (hr : readyF N H pl i = true) : okDn N H pl (a - 1) i :=
  .inr ⟨i, hi, by omega, rfl, hr, fun j h1 h2 => by omega⟩
theorem okDn.miss (h : okDn N H pl a b) {i : Nat} (ha : a = i) (hr : readyF N H pl i = false) : okDn N H pl (a - 1) b := by
  rcases h with ⟨h0, h⟩ | ⟨k, h1, h2, h3, h4, h5⟩
  · refine .inl ⟨h0, fun j hj hl => ?_⟩
    by_cases e : j = i
    · subst e; exact hr
    · exact h j (by omega) hl
  · refine .inr ⟨k, h1, by omega, h3, h4, fun j hj hl => ?_⟩
    by_cases e : j = i
    · subst e; exact hr
    · exact h5 j (by omega) hl
theorem okDn.none_ (h : okDn N H pl a b) (ha : ¬ a ≥ 0) (hb : b < 0) : pickF N H pl 0 N.length = none := by
  rcases h with ⟨_, h⟩ | ⟨k, _, _, h, _⟩
  · exact pick_none fun j _ hj => h j (by omega) (by omega)
  · omega
theorem okDn.got (h : okDn N H pl a b) (ha : ¬ a ≥ 0) (hb : ¬ b < 0) : ∃ k : Nat, b = k ∧ k < N.length ∧ pickF N H pl 0 N.length = some k ∧ pl[k]? = some false := by
  rcases h with ⟨h, _⟩ | ⟨k, h1, h2, h3, h4, h5⟩
  · omega
  · exact ⟨k, h3, h1, pick_some (by omega) (by omega) (fun j _ hj => h5 j (by omega) hj) h4, ready_pl h4⟩
end
/-- What a map of equations says: each that is not placed, and what it hangs on. -/
def EqM (f : Value → Option AV) (H : List (List ByteArray)) (pl : List Bool) : Prop := ∀ i : Nat, f (.int .i64 (i : Int)) = (match pl[i]?, H[i]? with | some false, some hs => some (.lst 1 (hs.map AV.s) none) | _, _ => none)
theorem keyEq_int (a b : Int) : keyEq (.int .i64 a) (.int .i64 b) = decide (a = b) := by
  by_cases h : a = b
  · subst h; simp [keyEq]
  · simp [keyEq, h]
theorem EqM.nil {H : List (List ByteArray)} : EqM (fun _ => none) H [] := fun i => by simp
theorem EqM.put {f : Value → Option AV} {H : List (List ByteArray)} {i : Nat} {hs : List ByteArray} (h : EqM f H (List.replicate i false)) (hh : H[i]? = some hs) : EqM (mput f (.int .i64 (i : Int)) (.lst 1 (hs.map AV.s) none)) H (List.replicate (i + 1) false) := by
  intro j
  unfold mput
  rw [keyEq_int]
  by_cases e : j = i
  · subst e
    have : (List.replicate (j + 1) false)[j]? = some false := by rw [List.getElem?_replicate, if_pos (by omega)]
    rw [this, hh]
    simp
  · have e1 : decide ((j : Int) = (i : Int)) = false := by rw [decide_eq_false_iff_not]; omega
    rw [e1]
    have e2 : (List.replicate (i + 1) false)[j]? = (List.replicate i false)[j]? := by
      rw [List.getElem?_replicate, List.getElem?_replicate]
      by_cases q : j < i
      · rw [if_pos q, if_pos (by omega)]
      · rw [if_neg q, if_neg (by omega)]
    rw [e2]
    exact h j
theorem EqM.more {f : Value → Option AV} {H : List (List ByteArray)} {i : Nat} (h : EqM f H (List.replicate i false)) (n : Nat) : more (f (.int .i64 (i : Int))) n = n + 1 := by
  have := h i
  rw [show (List.replicate i false)[i]? = none by rw [List.getElem?_replicate, if_neg (by omega)]] at this
  rw [this]
  rfl
theorem EqM.cut {f : Value → Option AV} {H : List (List ByteArray)} {pl : List Bool} {i : Nat} (h : EqM f H pl) : EqM (mcut f (.int .i64 (i : Int))) H (pl.set i true) := by
  intro j
  unfold mcut
  rw [keyEq_int]
  by_cases e : j = i
  · subst e
    have e2 : (pl.set j true)[j]? = some true ∨ (pl.set j true)[j]? = none := by
      rw [List.getElem?_set]
      simp only [if_true]
      by_cases q : j < pl.length
      · left; rw [if_pos q]
      · right; rw [if_neg q]
    rcases e2 with e2 | e2 <;> rw [e2] <;> simp
  · have e1 : decide ((j : Int) = (i : Int)) = false := by rw [decide_eq_false_iff_not]; omega
    rw [e1, List.getElem?_set, if_neg (fun q => e q.symm)]
    exact h j
theorem EqM.at {f : Value → Option AV} {H : List (List ByteArray)} {pl : List Bool} {i : Nat} {hs : List ByteArray} (h : EqM f H pl) (hp : pl[i]? = some false) (hh : H[i]? = some hs) : f (.int .i64 (i : Int)) = some (.lst 1 (hs.map AV.s) none) := by
  rw [h i, hp, hh]
theorem EqM.no {f : Value → Option AV} {H : List (List ByteArray)} {pl : List Bool} {i : Nat} (h : EqM f H pl) (hp : pl[i]? = some true) : f (.int .i64 (i : Int)) = none := by
  rw [h i, hp]
theorem EqM.less {f : Value → Option AV} {H : List (List ByteArray)} {pl : List Bool} {i : Nat} {hs : List ByteArray} (h : EqM f H pl) (hp : pl[i]? = some false) (hh : H[i]? = some hs) (n : Nat) : less (f (.int .i64 (i : Int))) n = n - 1 := by
  rw [h.at hp hh]; rfl
end Go.Abs

namespace Go.Proofs.YtidjmcmfgimbfaaGreatDoor
open Go.Abs
set_option maxRecDepth 20000
set_option linter.unusedSimpArgs false
set_option linter.unusedVariables false
set_option maxHeartbeats 1000000
attribute [local irreducible] vc vcOps vcStep vcGuard prK hrK gK gsK brK callK ElemK SeqK BlockK ScopeK OpsK CallK LoopK LoopGo finPost ACall PCall PCallE BCall vqOps vqStep vqGuard qrK heK pcK gqK gqsK QOpsK qcallK DrawK
abbrev namesC (f : DNode) : List (List ByteArray) := f.Eqs.map DEq.Names
abbrev hangsC (f : DNode) : List (List ByteArray) := f.Eqs.map (hangsF f)
theorem len_namesC (f : DNode) : (namesC f).length = f.Eqs.length := List.length_map ..
def okC (f : DNode) : Prop := f.Eqs.length ≤ 60 ∧ ∀ q ∈ f.Eqs, q.Names.length ≤ 20 ∧ okH f q
theorem okC.hang {f : DNode} {q : DEq} {i : Nat} (h : okC f) (hq : f.Eqs[i]? = some q) : okH f q := (h.2 q (List.mem_of_getElem? hq)).2
theorem okC.names {f : DNode} (h : okC f) : (namesC f).flatten.length ≤ 1200 := by
  have h1 := flat_le (N := namesC f) (c := 20) fun l hl => by
    obtain ⟨q, hq, rfl⟩ := List.mem_map.1 hl
    exact (h.2 q hq).1
  have := h.1
  rw [len_namesC] at h1
  omega


theorem waits126 (f : DNode) (pl : List Bool) (s : ByteArray) (hl : pl.length = f.Eqs.length) {h : List Blk} {k : Nat} {K : AV → List Blk → Prop} (hb : blkCells h k = some (pl.map AV.b)) (hK : K (.b (waitsF (namesC f) pl s)) h) :
    ACall Tryz.prog 191 [f.enc, .sl 1 k 0 pl.length, .s s] h K := by
  obtain ⟨t, hb⟩ := blk_at hb
  refine acall_of_vc tabOK Tryz.func191 (by kernel_rfl) rfl (n := 45) rfl (rs := [.tmp 6]) rfl ?_
  repeat' first
    | exact finB rfl
    | exact finI rfl
    | exact finP rfl
    | exact absurd rfl (by assumption)
    | simp only [go_sem]
    | (intro _)
    | refine brK_dec (fun _ => ?_) (fun _ => ?_)
    | refine brK_any ?_ ?_
    | refine gK_dec (fun _ => ?_) (fun _ => ?_)
    | refine gK_any ?_ ?_
    | refine gqK_dec (fun _ => ?_) (fun _ => ?_)
    | refine ⟨by omega, ?_⟩
    | refine elemHave (by omega) (by assumption) ?_
    | refine elemMap (by omega) (by omega) (fun x hx => ?_)
    | refine drawK mo (by kernel_rfl) ?_
    | (simp only [go_sem, at_app0])
    | (rw [NoW.done hpi (by rw [List.length_map]; omega)] at hK; exact finH0 _ rfl (.raw _) hK)
    | (rw [waits_yes (map_some hq) hpx (mem_eq hx (by assumption))] at hK; exact finH0 _ rfl (.raw _) hK)
    | ((fail_if_success (clear hq)); obtain ⟨q, hq⟩ : ∃ q, f.Eqs[((i : Nat) : Int).toNat]? = some q := ⟨_, List.getElem?_eq_getElem (by rw [Int.toNat_natCast]; omega)⟩; have hpx : pl[i]? = some pl[i] := List.getElem?_eq_getElem (by omega); generalize pl[i] = b at hpx; cases b)
    | (simp only [go_sem, at_old hb, Nat.zero_add, Nat.mul_one, Int.toNat_natCast, dropB hpx])
    | exact loopFrH _ (by omega) ⟨i + 1, by omega, rfl, NoW.step hpi (map_some hq) (not_take hpj (by omega)), rfl⟩ (.next rfl (by omega) .nil) rfl
    | (refine loop_frH [6, 7, 8, 9, 10, 11, 12, 13, 14, 15, 16, 17, 18, 19, 20, 21, 22, 23, 24, 25, 26, 27, 28, 29, 30, 31, 32, 33, 34, 35, 36, 37, 38, 39, 40, 41, 42, 43, 44] (fun mm_ CC_ => ∃ (i : Nat), i ≤ f.Eqs.length ∧ mm_ = f.Eqs.length - i ∧ (NoW (namesC f) pl s i) ∧ CC_ = [(7, .raw (.int .i64 ((i : Nat) : Int)))]) (f.Eqs.length) _ ⟨0, by omega, by omega, NoW.zero, rfl⟩ (.cons rfl .nil) ?_; rintro mm_ CC_ ji ⟨i, hi, rfl, hpi, rfl⟩)
    | exact loopFrH _ (by omega) ⟨j + 1, by omega, rfl, (by first | exact not_step hpj (by assumption) (fun _ => by assumption) | exact fun h => absurd (hpx.symm.trans h) (by simp)), rfl⟩ (.next rfl (by omega) .nil) rfl
    | (refine loop_frH [6, 8, 16, 17, 18, 19, 20, 21, 22, 23, 24, 25, 26, 27, 28, 29, 30, 31, 32, 33, 34, 35, 36, 37, 38, 39, 40, 41, 42, 43, 44] (fun mm_ CC_ => ∃ (j : Nat), j ≤ q.Names.length ∧ mm_ = q.Names.length - j ∧ (pl[i]? = some false → s ∉ q.Names.take j) ∧ CC_ = [(8, .raw (.int .i64 ((j : Nat) : Int)))]) (q.Names.length) _ ⟨0, by omega, by omega, by simp, rfl⟩ (.cons rfl .nil) ?_; rintro mm_ CC_ jj ⟨j, hj, rfl, hpj, rfl⟩)

theorem ready88 (f : DNode) (hf : okC f) (pl : List Bool) (i : Nat) (hl : pl.length = f.Eqs.length) (hi : i < f.Eqs.length) {h : List Blk} {k : Nat} {K : AV → List Blk → Prop} (hb : blkCells h k = some (pl.map AV.b)) (hK : K (.b (readyF (namesC f) (hangsC f) pl i)) h) :
    ACall Tryz.prog 128 [f.enc, .sl 1 k 0 pl.length, .i (i : Int)] h K := by
  obtain ⟨t, hb'⟩ := blk_at hb
  obtain ⟨q, hq⟩ : ∃ q, f.Eqs[((i : Nat) : Int).toNat]? = some q := ⟨_, List.getElem?_eq_getElem (by rw [Int.toNat_natCast]; omega)⟩
  have hpx : pl[i]? = some pl[i] := List.getElem?_eq_getElem (by omega)
  generalize pl[i] = b at hpx
  have hh : (hangsC f)[i]? = some (hangsF f q) := map_some hq
  refine acall_of_vc tabOK Tryz.func128 (by kernel_rfl) rfl (n := 30) rfl (rs := [.tmp 6]) rfl ?_
  simp only [go_sem]
  repeat' first
    | exact finB rfl
    | exact finI rfl
    | exact finP rfl
    | exact absurd rfl (by assumption)
    | simp only [go_sem]
    | (intro _)
    | refine brK_dec (fun _ => ?_) (fun _ => ?_)
    | refine brK_any ?_ ?_
    | refine gK_dec (fun _ => ?_) (fun _ => ?_)
    | refine gK_any ?_ ?_
    | refine gqK_dec (fun _ => ?_) (fun _ => ?_)
    | refine ⟨by omega, ?_⟩
    | refine elemHave (by omega) (by assumption) ?_
    | refine elemMap (by omega) (by omega) (fun x hx => ?_)
    | refine drawK mo (by kernel_rfl) ?_
    | (simp only [go_sem, at_app0])
    | (refine PCall.call (hangs125 f i q hq (hf.hang hq)) ?_)
    | (refine pcK_ofR (v := .b (waitsF (namesC f) pl x)) (fun h9 K9 hm9 hk9 => waits126 f pl x hl (hm9.cells (blk_app hb)) hk9) ?_; generalize hw : waitsF (namesC f) pl x = w; cases w)
    | (rw [ready_wait hh (List.mem_of_getElem? hx) hw] at hK; exact finH0 _ rfl (.raw _) hK)
    | (simp only [go_sem, at_old hb', Nat.zero_add, Nat.mul_one, Int.toNat_natCast, dropB hpx])
    | (rw [ready_not hpx] at hK; exact finH0 _ rfl (.raw _) hK)
    | (rw [ready_yes hpx hh (take_full hpj (by omega))] at hK; exact finH0 _ rfl (.raw _) hK)
    | exact loopFrH _ (by omega) ⟨j + 1, by omega, rfl, take_all hpj (by simpa using hx) hw, rfl⟩ (.next rfl (by omega) .nil) rfl
    | (refine loop_frH [6, 8, 12, 13, 14, 15, 16, 17, 18, 19, 20, 21, 22, 23, 24] (fun mm_ CC_ => ∃ (j : Nat), j ≤ (hangsF f q).length ∧ mm_ = (hangsF f q).length - j ∧ (∀ s ∈ (hangsF f q).take j, waitsF (namesC f) pl s = false) ∧ CC_ = [(8, .raw (.int .i64 ((j : Nat) : Int)))]) ((hangsF f q).length) _ ⟨0, by omega, by omega, by simp, rfl⟩ (.cons rfl .nil) ?_; rintro mm_ CC_ jj ⟨j, hj, rfl, hpj, rfl⟩)
    | (cases b)
theorem ready88' (f : DNode) (hf : okC f) (pl : List Bool) (i : Nat) (n : Nat) (hn : n = pl.length) (hl : pl.length = f.Eqs.length) (hi : i < f.Eqs.length) {h : List Blk} {k : Nat} {K : AV → List Blk → Prop} (hb : blkCells h k = some (pl.map AV.b)) (hK : K (.b (readyF (namesC f) (hangsC f) pl i)) h) :
    ACall Tryz.prog 128 [f.enc, .sl 1 k 0 n, .i (i : Int)] h K := by subst hn; exact ready88 f hf pl i hl hi hb hK

theorem toNatE {a : Int} (_ : -1 ≤ a) (h' : a ≥ 0) : ∃ i : Nat, a = i := ⟨a.toNat, by omega⟩
abbrev nodeB2 (f : DNode) : Blk := .cells 54 [.s f.Name, .lst 6 (f.Ins.map DDecl.enc) none, .lst 6 (f.Outs.map DDecl.enc) none, .lst 6 (f.Vars.map DDecl.enc) none, .lst 7 (f.Eqs.map DEq.enc) none]

theorem order40 (f : DNode) (hf : okC f) : PCall Tryz.prog 78 [f.enc] (orderA (orderF (namesC f) (hangsC f))) := by
  have hn := hf.1
  have hN := len_namesC f
  generalize hR : orderF (namesC f) (hangsC f) = R
  refine pcall_of_vc tabOK Tryz.func78 (by kernel_rfl) rfl (by first | exact pureL | exact pureI) (pure_orderA _) (n := 43) rfl (rs := [.tmp 2, .tmp 3]) rfl ?_
  simp only [go_sem]
  intro _
  refine ⟨by omega, ?_⟩
  simp only [Int.toNat_natCast]
  refine loop_fr [2, 3, 5, 6, 7, 13, 14, 15, 16, 17, 18, 19, 20, 21, 22, 23, 24, 25, 26, 27, 28, 29, 30, 31, 32, 33, 34, 35, 36, 37, 38, 39, 40, 41] (fun m C hh => ∃ (pl : List Bool) (out : List Nat) (r : List Blk), pl.length = f.Eqs.length ∧ out.length ≤ f.Eqs.length ∧ m = f.Eqs.length - out.length ∧ orderG (namesC f) (hangsC f) (f.Eqs.length - out.length) pl out = R ∧
    C = [(5, .lst 1 (out.map AV.n) (some 2))] ∧ hh = nodeB2 f :: .cells 4 (pl.map AV.b) :: .tok 3 1 out.length :: r) (f.Eqs.length) _
    ⟨List.replicate f.Eqs.length false, [], [], by simp, by simp, by simp, by rw [← hR, orderF, hN]; rfl, rfl, by simp⟩ (.cons rfl .nil) ?_
  rintro m C jo hh ⟨pl, out, r, hl, hol, rfl, hG, rfl, rfl⟩
  repeat' first
    | exact finB rfl
    | exact finI rfl
    | exact finP rfl
    | exact absurd rfl (by assumption)
    | simp only [go_sem]
    | (intro _)
    | refine brK_dec (fun _ => ?_) (fun _ => ?_)
    | refine brK_any ?_ ?_
    | refine gK_dec (fun _ => ?_) (fun _ => ?_)
    | refine gK_any ?_ ?_
    | refine gqK_dec (fun _ => ?_) (fun _ => ?_)
    | refine ⟨by omega, ?_⟩
    | refine elemHave (by omega) (by assumption) ?_
    | refine elemMap (by omega) (by omega) (fun x hx => ?_)
    | refine drawK mo (by kernel_rfl) ?_
    | (rw [wrap_in _ (by omega) (by omega)])
    | (refine loop_frH [6, 7, 23, 24, 25, 26, 27, 28, 29, 30, 31] (fun m C => ∃ a b : Int, a < f.Eqs.length ∧ -1 ≤ a ∧ m = (a + 1).toNat ∧ okDn (namesC f) (hangsC f) pl a b ∧ C = [(7, .i a), (6, .i b)]) f.Eqs.length _ ⟨(f.Eqs.length : Int) - 1, -1, by omega, by omega, by omega, by rw [← hN]; exact okDn.zero, rfl⟩ (.cons rfl (.cons rfl .nil)) ?_; rintro m C ji ⟨a, b, ha1, ha2, rfl, hab, rfl⟩)
    | ((fail_if_success (clear hai)); have hgo := toNatE ha2 (by assumption); obtain ⟨i, rfl⟩ := hgo; have hai : True := trivial)
    | (refine ready88' f hf pl i _ hl.symm hl (by omega) (k := 1) rfl ?_; generalize hw : readyF (namesC f) (hangsC f) pl i = w; cases w)
    | (exact loopFrH _ (by omega) ⟨(i : Int) - 1, i, by omega, by omega, rfl, hab.hit rfl (by omega) hw, rfl⟩ (.cons (by first | rfl | rw [wrap_in _ (by omega) (by omega)]) (.cons rfl .nil)) rfl)
    | (exact loopFrH _ (by omega) ⟨(i : Int) - 1, b, by omega, by omega, rfl, hab.miss rfl hw, rfl⟩ (.cons (by first | rfl | rw [wrap_in _ (by omega) (by omega)]) (.cons rfl .nil)) rfl)
    | (rw [order_none (hab.none_ (by assumption) (by assumption)) (by omega)] at hG; rw [← hG]; exact ⟨_, rfl, false, weak_order _ _ _⟩)
    | ((fail_if_success (clear hpk)); have hgot := hab.got (by assumption) (by assumption); obtain ⟨k, rfl, hk, hp, hpk⟩ := hgot; rw [hN] at hk; have hkl : (k + 1 ≤ pl.length) = True := eq_true (by omega))
    | (simp only [go_sem, Nat.zero_add, Nat.mul_one, Int.toNat_natCast, List.length_map, hkl, set_b'])
    | (refine ⟨by simp; omega, ?_⟩)
    | (rw [order_some hp (by omega)] at hG; refine loopFr (f.Eqs.length - (out.length + 1)) (by omega) ⟨pl.set k true, out ++ [k], r ++ [.tok 3 1 1], by simpa using hl, by simp; omega, by simp, by rw [← hG, Nat.sub_sub]; simp, rfl, ?_⟩ (.cons ?_ .nil) rfl <;> (simp; done))
    | (rw [show f.Eqs.length - out.length = 0 by omega] at hG; rw [← hG]; exact ⟨_, rfl, false, weak_order _ _ _⟩)
    | (exfalso; omega)
abbrev leftB : Blk := .cells 109 [.map 3, .map 4]
abbrev zeroL : Blk := .cells 109 [.raw (.map none), .raw (.map none)]
theorem mono_maps {b0 b1 b2 : Blk} {kk kk' : KK} {n n' : Nat} {m m' : Value → Option AV} {l : List Blk} : MonoH (b0 :: b1 :: b2 :: .mp kk n m :: l) (b0 :: b1 :: b2 :: .mp kk' n' m' :: l) := ⟨by cases b0 <;> trivial, by cases b1 <;> trivial, by cases b2 <;> trivial, trivial, MonoH.refl l⟩

theorem all85 (f : DNode) (hf : okC f) (b0 : Blk) {K : AV → List Blk → Prop} (hK : ∀ n m1 m2 b2 r, EqM m1 (hangsC f) (List.replicate f.Eqs.length false) → MapN m2 (fun s => opn s (namesC f) (List.replicate f.Eqs.length false)) → K (.agg [.map 3, .map 4]) (b0 :: nodeB2 f :: b2 :: .mp .int f.Eqs.length m1 :: .mp .str n m2 :: r)) :
    ACall Tryz.prog 79 [f.enc] [b0] K := by
  have hn := hf.1
  have hN := len_namesC f
  have hfl := hf.names
  refine acallK_of_vc tabOK Tryz.func79 (by kernel_rfl) rfl (n := 40) rfl (rs := [.cell 2 109]) rfl ?_
  repeat' first
    | exact finB rfl
    | exact finI rfl
    | exact finP rfl
    | exact absurd rfl (by assumption)
    | simp only [go_sem]
    | (intro _)
    | refine brK_dec (fun _ => ?_) (fun _ => ?_)
    | refine brK_any ?_ ?_
    | refine gK_dec (fun _ => ?_) (fun _ => ?_)
    | refine gK_any ?_ ?_
    | refine gqK_dec (fun _ => ?_) (fun _ => ?_)
    | refine ⟨by omega, ?_⟩
    | refine elemHave (by omega) (by assumption) ?_
    | ((fail_if_success (clear hq)); refine elemMap (by omega) (by omega) (fun q hq => ?_))
    | refine elemMap (by omega) (by omega) (fun x hx => ?_)
    | refine drawK mo (by kernel_rfl) ?_
    | (simp only [go_sem, hpj.at _])
    | ((fail_if_success (clear hh)); have hh : (hangsC f)[i]? = some (hangsF f q) := map_some (by simpa using hq))
    | (refine pcK_of (hangs123 f q (hf.hang (by simpa using hq))) ?_)
    | (refine ⟨mono_maps, ?_⟩)
    | (simp only [hpi.1.more])
    | (have e9 : i = f.Eqs.length := (by omega); subst e9; exact ⟨_, rfl, _, .refl _, hK _ _ _ _ _ hpi.1 (hpi.2.cast fun s => by rw [cnt_all (by rw [hN]; exact Nat.le_refl _), hN])⟩)
    | exact loopFr _ (by omega) ⟨i + 1, _, _, _, (), _, by omega, rfl, ⟨hpi.1.put hh, hpj.cast fun s => cnt_step (map_some hq) (by omega) s⟩, rfl, (by first | rfl | (simp; done) | (simp; rfl))⟩ (.next rfl (by omega) .nil) rfl
    | (refine loop_fr [4, 5, 7, 14, 15, 16, 17, 18, 19, 20, 21, 22, 23, 24, 25, 26, 27, 28, 29, 30, 31, 32, 33, 34, 35, 36, 37, 38] (fun mm_ CC_ hh_ => ∃ (i : Nat) (n : Nat) (m1 : Value → Option AV) (m2 : Value → Option AV) (u9 : Unit) (r_ : List Blk), i ≤ f.Eqs.length ∧ mm_ = f.Eqs.length - i ∧ ((EqM m1 (hangsC f) (List.replicate i false) ∧ MapN m2 (fun s => cntL s ((namesC f).take i).flatten))) ∧ CC_ = [(14, .raw (.int .i64 ((i : Nat) : Int)))] ∧ hh_ = b0 :: nodeB2 f :: zeroL :: .mp .int i m1 :: .mp .str n m2 :: leftB :: r_) (f.Eqs.length) _ ⟨0, _, _, _, (), _, by omega, by omega, ⟨EqM.nil, MapN.nil⟩, rfl, (by first | rfl | (simp; done) | (simp; rfl))⟩ (.cons (by first | rfl | (simp; done) | (simp; rfl)) .nil) ?_; rintro mm_ CC_ ji hh_ ⟨i, n, m1, m2, u9, ri, hi, rfl, hpi, rfl, rfl⟩)
    | exact loopFr _ (by omega) ⟨j + 1, _, _, _, by omega, rfl, hpj.upW (by assumption) (Nat.le_trans (cnt_bnd (map_some hq) _ _) (Nat.le_trans hfl (by omega))), rfl, (by first | rfl | (simp; done) | (simp; rfl))⟩ (.next rfl (by omega) .nil) rfl
    | (refine loop_fr [7, 28, 29, 30, 31, 32, 33, 34, 35, 36, 37] (fun mm_ CC_ hh_ => ∃ (j : Nat) (n : Nat) (m : Value → Option AV) (r_ : List Blk), j ≤ q.Names.length ∧ mm_ = q.Names.length - j ∧ (MapN m (fun s => cntL s ((namesC f).take i).flatten + cntL s (q.Names.take j))) ∧ CC_ = [(28, .raw (.int .i64 ((j : Nat) : Int)))] ∧ hh_ = b0 :: nodeB2 f :: zeroL :: .mp .int (i + 1) (mput m1 (.int .i64 (i : Int)) (.lst 1 ((hangsF f q).map AV.s) none)) :: .mp .str n m :: leftB :: r_) (q.Names.length) _ ⟨0, _, _, _, by omega, by omega, hpi.2.cast fun s => by simp [cntL], rfl, (by first | rfl | (simp; done) | (simp; rfl))⟩ (.cons (by first | rfl | (simp; done) | (simp; rfl)) .nil) ?_; rintro mm_ CC_ jj hh_ ⟨j, n, m, rj, hj, rfl, hpj, rfl, rfl⟩)



theorem ready86 (f : DNode) (pl : List Bool) (i : Nat) (q : DEq) (hq : f.Eqs[i]? = some q) (hl : i < pl.length) (b0 b1 b2 : Blk) (n1 n2 : Nat) (m1 m2 : Value → Option AV) (h1 : EqM m1 (hangsC f) pl) (h2 : MapN m2 (fun s => opn s (namesC f) pl)) (r : List Blk) {K : AV → List Blk → Prop}
    (hK : K (.b (readyF (namesC f) (hangsC f) pl i)) (b0 :: b1 :: b2 :: .mp .int n1 m1 :: .mp .str n2 m2 :: r)) : ACall Tryz.prog 80 [.agg [.map 3, .map 4], .i (i : Int)] (b0 :: b1 :: b2 :: .mp .int n1 m1 :: .mp .str n2 m2 :: r) K := by
  have hpx : pl[i]? = some pl[i] := List.getElem?_eq_getElem hl
  have hh : (hangsC f)[i]? = some (hangsF f q) := map_some hq
  generalize pl[i] = b at hpx
  refine acall_of_vc tabOK Tryz.func80 (by kernel_rfl) rfl (n := 21) rfl (rs := [.tmp 4]) rfl ?_
  simp only [go_sem, at_app0]
  cases b
  · simp only [go_sem, h1.at hpx hh, orZ, Option.isSome_some]
    refine contains106 (p := fun s => decide (((opn s (namesC f) pl : Nat) : Int) > 0)) (fun x hx K hK => ?_) ?_
    · refine acall_of_vc tabOK Tryz.func131 (by kernel_rfl) rfl (n := 9) rfl (rs := [.tmp 3]) rfl ?_
      simp only [go_sem, at_app0, at_app, h2.at _]
      exact finH1 rfl (.raw _) hK
    · simp only [any_waits]
      generalize hw : ((hangsF f q).any fun s => waitsF (namesC f) pl s) = w
      rw [ready_any hpx hh hw] at hK
      cases w
      · simp only [go_sem, at_app0, at_app]
        exact finH0 (h := b0 :: b1 :: b2 :: .mp .int n1 m1 :: .mp .str n2 m2 :: r) _ rfl (.raw _) hK
      · simp only [go_sem, at_app0, at_app]
        exact finH0 (h := b0 :: b1 :: b2 :: .mp .int n1 m1 :: .mp .str n2 m2 :: r) _ rfl (.raw _) hK
  · rw [ready_not hpx] at hK
    simp only [go_sem, h1.no hpx, orZ, Option.isSome_none]
    exact finH0 (h := b0 :: b1 :: b2 :: .mp .int n1 m1 :: .mp .str n2 m2 :: r) _ rfl (.raw _) hK

theorem take_endC {g b : ByteArray → Nat} {l : List ByteArray} {i : Nat} (h : ∀ s, g s + cntL s (l.take i) = b s) (hi : ¬ (i : Int) < l.length) : ∀ s, g s + cntL s l = b s := by
  intro s
  have := h s
  rw [List.take_of_length_le (by omega)] at this
  exact this

theorem place87 (q : DEq) (k : Nat) (b0 b1 b2 : Blk) (n1 n2 : Nat) (m1 m2 : Value → Option AV) (g : ByteArray → Nat) (hm : MapN m2 g) (hg : ∀ s, cntL s q.Names ≤ g s) (hn : ∀ s, g s ≤ 1000000) (r : List Blk) {K : AV → List Blk → Prop}
    (hK : ∀ n' m' g' r', MapN m' g' → (∀ s, g' s + cntL s q.Names = g s) → K (.tup []) (b0 :: b1 :: b2 :: .mp .int (less (m1 (.int .i64 (k : Int))) n1) (mcut m1 (.int .i64 (k : Int))) :: .mp .str n' m' :: (r ++ r'))) :
    ACall Tryz.prog 81 [.agg [.map 3, .map 4], .i (k : Int), q.enc] (b0 :: b1 :: b2 :: .mp .int n1 m1 :: .mp .str n2 m2 :: r) K := by
  refine acallK_of_vc tabOK Tryz.func81 (by kernel_rfl) rfl (n := 24) rfl (rs := []) rfl ?_
  repeat' first
    | exact finB rfl
    | exact finI rfl
    | exact finP rfl
    | exact absurd rfl (by assumption)
    | simp only [go_sem]
    | (intro _)
    | refine brK_dec (fun _ => ?_) (fun _ => ?_)
    | refine brK_any ?_ ?_
    | refine gK_dec (fun _ => ?_) (fun _ => ?_)
    | refine gK_any ?_ ?_
    | refine gqK_dec (fun _ => ?_) (fun _ => ?_)
    | refine ⟨by omega, ?_⟩
    | refine elemHave (by omega) (by assumption) ?_
    | refine elemMap (by omega) (by omega) (fun x hx => ?_)
    | refine drawK mo (by kernel_rfl) ?_
    | (simp only [go_sem, at_app0, at_app])
    | ((fail_if_success (clear h9)); obtain ⟨g9, h9, hs9⟩ := hpi)
    | (simp only [go_sem, at_app0, at_app, h9.at _])
    | (exact ⟨[], rfl, .tup [], .refl _, hK _ _ g9 _ h9 (take_endC hs9 (by assumption))⟩)
    | exact loopFr _ (by omega) ⟨i + 1, _, _, _, by omega, rfl, h9.downW hs9 hg (by assumption) (hn _), rfl, (by first | rfl | (simp; done) | (simp; rfl))⟩ (.next rfl (by omega) .nil) rfl
    | (refine loop_fr [7, 14, 15, 16, 17, 18, 19, 20, 21, 22, 23] (fun mm_ CC_ hh_ => ∃ (i : Nat) (n9 : Nat) (m9 : Value → Option AV) (r_ : List Blk), i ≤ q.Names.length ∧ mm_ = q.Names.length - i ∧ ((∃ g9, MapN m9 g9 ∧ ∀ s, g9 s + cntL s (q.Names.take i) = g s)) ∧ CC_ = [(14, .raw (.int .i64 ((i : Nat) : Int)))] ∧ hh_ = b0 :: b1 :: b2 :: .mp .int (less (m1 (.int .i64 (k : Int))) n1) (mcut m1 (.int .i64 (k : Int))) :: .mp .str n9 m9 :: (r ++ leftB :: r_)) (q.Names.length) _ ⟨0, _, _, _, by omega, by omega, ⟨g, hm, fun s => by simp [cntL]⟩, rfl, (by first | rfl | (simp; done) | (simp; rfl))⟩ (.cons (by first | rfl | (simp; done) | (simp; rfl)) .nil) ?_; rintro mm_ CC_ ji hh_ ⟨i, n9, m9, ri, hi, rfl, hpi, rfl, rfl⟩)
theorem eq_at {α : Type} {l : List α} {i : Nat} (h : i < l.length) : ∃ q, l[i]? = some q := ⟨_, List.getElem?_eq_getElem h⟩

theorem order39 (f : DNode) (hf : okC f) : PCall Tryz.prog 35 [f.enc] (orderA (orderF (namesC f) (hangsC f))) := by
  have hn := hf.1
  have hN := len_namesC f
  have hfl := hf.names
  generalize hR : orderF (namesC f) (hangsC f) = R
  refine pcall_of_vc tabOK Tryz.func35 (by kernel_rfl) rfl (by first | exact pureL | exact pureI) (pure_orderA _) (n := 41) rfl (rs := [.tmp 2, .tmp 3]) rfl ?_
  simp only [go_sem]
  refine all85 f hf _ (fun n0 m10 m20 b2 r h10 h20 => ?_)
  simp only [go_sem]
  refine loop_ghost (ghost_tok 4 3 1 rfl) ?_
  simp only [go_sem]
  refine loop_fr [2, 3, 4, 6, 7, 10, 11, 12, 13, 14, 15, 16, 17, 18, 19, 20, 21, 22, 23, 24, 25, 26, 27, 28, 29, 30, 31, 32, 33, 34, 35, 36, 37, 38, 39] (fun mz C hh => ∃ (pl : List Bool) (out : List Nat) (n : Nat) (m1 m2 : Value → Option AV) (r2 : List Blk), pl.length = f.Eqs.length ∧ out.length ≤ f.Eqs.length ∧ mz = f.Eqs.length - out.length ∧ orderG (namesC f) (hangsC f) (f.Eqs.length - out.length) pl out = R ∧
    EqM m1 (hangsC f) pl ∧ MapN m2 (fun s => opn s (namesC f) pl) ∧
    C = [(4, .lst 1 (out.map AV.n) (some (r.length + 1 + 1 + 1 + 1 + 1 + 1)))] ∧ hh = nodeB2 f :: nodeB2 f :: b2 :: .mp .int (f.Eqs.length - out.length) m1 :: .mp .str n m2 :: (r ++ leftB :: .tok 3 1 out.length :: r2)) (f.Eqs.length) _
    ⟨List.replicate f.Eqs.length false, [], n0, m10, m20, [], by simp, by simp, by simp, by rw [← hR, orderF, hN]; rfl, h10, h20, rfl, by simp⟩ (.cons (by simp) .nil) ?_
  rintro mz C jo hh ⟨pl, out, n, m1, m2, r2, hl, hol, rfl, hG, h1, h2, rfl, rfl⟩
  repeat' first
    | exact finB rfl
    | exact finI rfl
    | exact finP rfl
    | exact absurd rfl (by assumption)
    | simp only [go_sem]
    | (intro _)
    | refine brK_dec (fun _ => ?_) (fun _ => ?_)
    | refine brK_any ?_ ?_
    | refine gK_dec (fun _ => ?_) (fun _ => ?_)
    | refine gK_any ?_ ?_
    | refine gqK_dec (fun _ => ?_) (fun _ => ?_)
    | refine ⟨by omega, ?_⟩
    | refine elemHave (by omega) (by assumption) ?_
    | refine elemMap (by omega) (by omega) (fun x hx => ?_)
    | (refine drawZ mo (by kernel_rfl) rfl ?_; simp only [List.dropLast_cons_cons, List.dropLast_singleton, List.getLast_cons_cons, List.getLast_singleton])
    | (simp only [go_sem, at_app0, at_app, set_app0])
    | ((fail_if_success (clear hq)); have hgo := eq_at (l := f.Eqs) (i := i) (by omega); obtain ⟨q, hq⟩ := hgo; have hq2 : f.Eqs[((i : Nat) : Int).toNat]? = some q := hq; have hh : (hangsC f)[i]? = some (hangsF f q) := map_some hq; have hnn : (namesC f)[i]? = some q.Names := map_some hq)
    | (refine ready86 f pl i q hq (by omega) _ _ _ _ _ _ _ h1 h2 _ ?_; generalize hw : readyF (namesC f) (hangsC f) pl i = w; cases w)
    | exact loopFrH _ (by omega) ⟨i + 1, by omega, rfl, not_next hpi hw, rfl⟩ (.next rfl (by omega) (.cons rfl .nil)) rfl
    | (refine loop_frH [6, 7, 17, 18, 19, 20, 21, 22, 23, 24] (fun mm_ CC_ => ∃ (i : Nat), i ≤ f.Eqs.length ∧ mm_ = f.Eqs.length - i ∧ ((∀ j, j < i → readyF (namesC f) (hangsC f) pl j = false)) ∧ CC_ = [(17, .raw (.int .i64 ((i : Nat) : Int))), (6, .i (-1))]) (f.Eqs.length) _ ⟨0, by omega, by omega, fun j hj => absurd hj (by omega), rfl⟩ (.cons rfl (.cons rfl .nil)) ?_; rintro mm_ CC_ ji ⟨i, hi, rfl, hpi, rfl⟩)
    | (have hpx := ready_pl hw; refine place87 q i _ _ _ _ _ _ _ _ h2 (fun s => by have := opn_set (s := s) hnn hpx; omega) (fun s => Nat.le_trans opn_le (by omega)) _ (fun n9 m9 g9 r9 h9 h9s => ?_); simp only [List.append_assoc, List.cons_append, h1.less hpx hh]; have hpk := pick_some (N := namesC f) (H := hangsC f) (pl := pl) (n := (namesC f).length) (i := 0) (k := i) (Nat.zero_le _) (by omega) (fun j _ hj => hpi j hj) hw; have h8 : MapN m9 (fun s => opn s (namesC f) (pl.set i true)) := h9.cast (fun s => by have h7 := opn_set (s := s) hnn hpx; have := h9s s; omega))
    | (refine ⟨by simp; omega, ?_⟩)
    | (rw [order_some hpk (by omega)] at hG; refine loopFr (f.Eqs.length - (out.length + 1)) (by omega) ⟨pl.set i true, out ++ [i], n9, _, m9, _, by simpa using hl, by simp; omega, by simp, by rw [← hG, Nat.sub_sub]; simp, h1.cut, h8, rfl, by simp [Nat.sub_sub]; rfl⟩ (.cons (by simp; done) .nil) rfl)
    | (rw [order_none (pick_none (fun j _ hj => hpi j (by omega))) (by omega)] at hG; rw [← hG]; exact ⟨_, rfl, false, weak_order _ _ _⟩)
    | (rw [show f.Eqs.length - out.length = 0 by omega] at hG; rw [← hG]; exact ⟨_, rfl, false, weak_order _ _ _⟩)
    | (exfalso; omega)
theorem readsL_parts : ∀ l : List Ex, (∀ x ∈ l, (readsF x).length ≤ (parts x).length) → (readsL l).length ≤ (partsL l).length
  | [], _ => by simp [readsL]
  | x :: xs, h => by
    have h1 := h x List.mem_cons_self
    have h2 := readsL_parts xs fun y hy => h y (List.mem_cons_of_mem _ hy)
    simp only [readsL, partsL, List.length_append]
    omega
theorem partsL_keep (k : Int) (s : List Ex) : (partsL (keepK k s)).length ≤ (partsL s).length := by
  unfold keepK
  split
  · simp [partsL]
  · split
    · cases s with
      | nil => simp
      | cons x l => simp [partsL]
    · exact Nat.le_refl _
theorem keep_mem {k : Int} {s : List Ex} {x : Ex} (h : x ∈ keepK k s) : x ∈ s := by
  unfold keepK at h
  split at h
  · simp at h
  · split at h
    · exact List.mem_of_mem_take h
    · exact h
theorem parts_lenC (e : Ex) : (parts e).length = (partsL e.subs).length + 1 := by
  cases e
  simp [parts, Ex.subs]
theorem reads_parts (e : Ex) : (readsF e).length ≤ (parts e).length := by
  induction e using Ex.ind with
  | _ e ih =>
  rw [readsF_eq, List.length_append, parts_lenC]
  have h1 := readsL_parts (keepK e.kind e.subs) fun x hx => ih x (keep_mem hx)
  have h2 := partsL_keep e.kind e.subs
  have h3 : (mineK e.kind e.name).length ≤ 1 := by unfold mineK; split <;> simp
  omega
theorem okE_reads {e : Ex} (h : okE e) : (readsF e).length ≤ 100000 := by
  have := reads_parts e
  have := h.1
  omega
theorem okNode_C {n : DNode} (h : okNode n) : okC n := by
  refine ⟨by have := h.2.2.2.1; omega, fun q hq => ?_⟩
  have hx := h.2.2.2.2.2 q hq
  refine ⟨hx.1, okE_reads hx.2.1, ?_⟩
  have h1 := h.1.1
  have h2 := h.2.1.1
  have h3 := h.2.2.1.1
  simp [allV]
  omega

abbrev vE (s : ByteArray) : Ex := .mk 3 0 s 0 [] []
abbrev fbyE : Ex := .mk 8 0 ⟨#[]⟩ 0 [] [.mk 1 0 ⟨#[]⟩ 0 [] [], vE ⟨#[97]⟩]
abbrev liveN1 : DNode := ⟨⟨#[]⟩, [], [], [], [⟨[⟨#[97]⟩], vE ⟨#[98]⟩⟩, ⟨[⟨#[98]⟩], fbyE⟩]⟩
abbrev liveN2 : DNode := ⟨⟨#[]⟩, [], [], [], [⟨[⟨#[97]⟩], vE ⟨#[98]⟩⟩, ⟨[⟨#[98]⟩], vE ⟨#[97]⟩⟩]⟩
theorem rd_v (s : ByteArray) : readsF (vE s) = [s] := by simp [readsF, readsL, mineK]
theorem rd_f : readsF fbyE = [] := by simp [readsF, readsH, readsL, mineK]
theorem live_o1 : orderF (namesC liveN1) (hangsC liveN1) = ([1, 0], true) := by
  have : hangsC liveN1 = [[⟨#[98]⟩], []] := by
    simp only [hangsC, List.map_cons, List.map_nil, hangsF, rd_v, rd_f]
    decide +kernel
  rw [this]
  decide +kernel
theorem live_o2 : orderF (namesC liveN2) (hangsC liveN2) = ([], false) := by
  have : hangsC liveN2 = [[⟨#[98]⟩], [⟨#[97]⟩]] := by
    simp only [hangsC, List.map_cons, List.map_nil, hangsF, rd_v]
    decide +kernel
  rw [this]
  decide +kernel
theorem live_k1 : okC liveN1 := by
  refine ⟨by decide, fun q hq => ?_⟩
  simp at hq
  rcases hq with rfl | rfl
  · exact ⟨by decide, by rw [rd_v]; decide, by decide⟩
  · exact ⟨by decide, by rw [rd_f]; decide, by decide⟩
theorem live_k2 : okC liveN2 := by
  refine ⟨by decide, fun q hq => ?_⟩
  simp at hq
  rcases hq with rfl | rfl <;> exact ⟨by decide, by rw [rd_v]; decide, by decide⟩

theorem live84 (x : ByteArray) : PCall Tryz.prog 75 [.s x] (.agg [.i 3, .i 0, .s x, .i 0, .raw (.slice none 0 0), .raw (.slice none 0 0)]) := by
  refine pcall_of_vc tabOK Tryz.func75 (by kernel_rfl) rfl pureL pureI (n := 5) rfl (rs := [.cell 2 29]) rfl ?_
  repeat' first
    | exact finB rfl
    | exact finI rfl
    | exact finP rfl
    | exact absurd rfl (by assumption)
    | simp only [go_sem]
    | (intro _)
    | refine brK_dec (fun _ => ?_) (fun _ => ?_)
    | refine brK_any ?_ ?_
    | refine gK_dec (fun _ => ?_) (fun _ => ?_)
    | refine gK_any ?_ ?_
    | refine gqK_dec (fun _ => ?_) (fun _ => ?_)
    | refine ⟨by omega, ?_⟩
    | refine elemHave (by omega) (by assumption) ?_
    | refine elemMap (by omega) (by omega) (fun x hx => ?_)
    | refine drawK mo (by kernel_rfl) ?_
    | (exact ⟨_, rfl, false, .refl _⟩)

abbrev avE (s : ByteArray) : AV := .agg [.i 3, .i 0, .s s, .i 0, .raw (.slice none 0 0), .raw (.slice none 0 0)]
theorem weakN1 (a b c d : Nat) : Weak (.agg [.s ⟨#[]⟩, .raw (.slice none 0 0), .raw (.slice none 0 0), .raw (.slice none 0 0), .lst 7 [.agg [.lst 1 [.s ⟨#[97]⟩] (some a), .i 3, .i 0, .s ⟨#[98]⟩, .i 0, .raw (.slice none 0 0), .raw (.slice none 0 0)],
    .agg [.lst 1 [.s ⟨#[98]⟩] (some b), .i 8, .i 0, .s ⟨#[]⟩, .i 0, .raw (.slice none 0 0), .lst 6 [.agg [.i 1, .i 0, .s ⟨#[]⟩, .i 0, .raw (.slice none 0 0), .raw (.slice none 0 0)], avE ⟨#[97]⟩] (some c)]] (some d)]) liveN1.enc := by
  rw [DNode.enc_eq]
  refine Weak.aggs ⟨.refl _, .nil _, .nil _, .nil _, ?_, trivial⟩
  refine Weak.lsts rfl (by intro e he; simp at he; rcases he with rfl | rfl <;> (rw [DEq.enc_cells]; rfl)) ?_
  simp only [List.map_cons, List.map_nil, DEq.enc_eq, flat_nil, flat_agg, List.cons_append, List.nil_append, Ex.kind, Ex.n, Ex.name, Ex.op, Ex.arms, Ex.subs]
  repeat' first | exact trivial | exact .nil _ | exact .refl _ | exact .tok _ _ _ | refine ⟨?_, ?_⟩ | refine weak_ex ?_ ?_ | refine weak_subs rfl ?_ | simp only [flat_nil, flat_agg, flat_ex, flat_ex0, enc_cells, List.cons_append, List.nil_append, Ex.kind, Ex.n, Ex.name, Ex.op, Ex.arms, Ex.subs]
  refine Weak.lsts rfl (by intro e he; simp at he; rcases he with rfl | rfl <;> (rw [enc_cells]; rfl)) ?_
  simp only [enc_eq, flat_nil, flat_agg, List.cons_append, List.nil_append, Ex.kind, Ex.n, Ex.name, Ex.op, Ex.arms, Ex.subs, List.map_nil]
  repeat' first | exact trivial | exact .nil _ | exact .refl _ | exact .tok _ _ _ | refine ⟨?_, ?_⟩ | refine weak_ex ?_ ?_ | refine weak_subs rfl ?_ | simp only [flat_nil, flat_agg, flat_ex, flat_ex0, enc_cells, List.cons_append, List.nil_append, Ex.kind, Ex.n, Ex.name, Ex.op, Ex.arms, Ex.subs]
theorem weakN2 (a b d : Nat) : Weak (.agg [.s ⟨#[]⟩, .raw (.slice none 0 0), .raw (.slice none 0 0), .raw (.slice none 0 0), .lst 7 [.agg [.lst 1 [.s ⟨#[97]⟩] (some a), .i 3, .i 0, .s ⟨#[98]⟩, .i 0, .raw (.slice none 0 0), .raw (.slice none 0 0)],
    .agg [.lst 1 [.s ⟨#[98]⟩] (some b), .i 3, .i 0, .s ⟨#[97]⟩, .i 0, .raw (.slice none 0 0), .raw (.slice none 0 0)]] (some d)]) liveN2.enc := by
  rw [DNode.enc_eq]
  refine Weak.aggs ⟨.refl _, .nil _, .nil _, .nil _, ?_, trivial⟩
  refine Weak.lsts rfl (by intro e he; simp at he; rcases he with rfl | rfl <;> (rw [DEq.enc_cells]; rfl)) ?_
  simp only [List.map_cons, List.map_nil, DEq.enc_eq, flat_nil, flat_agg, List.cons_append, List.nil_append, Ex.kind, Ex.n, Ex.name, Ex.op, Ex.arms, Ex.subs]
  repeat' first | exact trivial | exact .nil _ | exact .refl _ | exact .tok _ _ _ | refine ⟨?_, ?_⟩ | refine weak_ex ?_ ?_ | refine weak_subs rfl ?_ | simp only [flat_nil, flat_agg, flat_ex, flat_ex0, enc_cells, List.cons_append, List.nil_append, Ex.kind, Ex.n, Ex.name, Ex.op, Ex.arms, Ex.subs]
abbrev tr3 : Tr := .one 1 (.one 2 (.one 5 (.two 0 (.one 3 (.one 4 (.one 6 (.one 7 (.one 8 (.one 9 (.one 10 (.one 11 (.one 12 (.one 13 (.one 14 .nil))))))))))) 4 (.one 6 (.one 0 (.one 3 (.one 7 (.one 8 (.one 9 (.one 10 (.one 11 (.one 12 (.one 13 (.one 14 .nil))))))))))))))
theorem live38  : PCall Tryz.prog 32 [] (.b true) := by
  refine pcall_of_vc tabOK Tryz.func32 (by kernel_rfl) rfl pureL pureI (n := 54) rfl (rs := [.tmp 0]) rfl ?_
  simp only [go_sem]
  refine PCall.call (live84 _) ?_
  simp only [go_sem]
  refine drawT tr3 mo (by kernel_rfl) ?_
  simp only [go_sem]
  refine pcK_of (live84 _) ?_
  simp only [go_sem]
  refine ⟨?_, ?_⟩
  all_goals
    refine pcK_ofR (v := orderA (orderF (namesC liveN1) (hangsC liveN1))) (fun h9 K9 hm9 hk9 => PCall.callW (order39 liveN1 live_k1) ⟨weakN1 _ _ _ _, trivial⟩ hk9) ?_
    rw [live_o1]
    simp only [go_sem]
    refine PCall.call (live84 _) ?_
    simp only [go_sem]
    refine PCall.call (live84 _) ?_
    simp only [go_sem]
    refine PCall.callW (order39 liveN2 live_k2) ⟨weakN2 _ _ _, trivial⟩ ?_
    rw [live_o2]
    simp only [go_sem]
    refine PCall.callW (ints33 [1, 0] [1, 0]) ⟨.refl _, .tok _ _ _, trivial⟩ ?_
    rw [eqB_eq rfl]
    repeat' first
    | exact finB rfl
    | exact finI rfl
    | exact finP rfl
    | exact absurd rfl (by assumption)
    | simp only [go_sem]
    | (intro _)
    | refine brK_dec (fun _ => ?_) (fun _ => ?_)
    | refine brK_any ?_ ?_
    | refine gK_dec (fun _ => ?_) (fun _ => ?_)
    | refine gK_any ?_ ?_
    | refine gqK_dec (fun _ => ?_) (fun _ => ?_)
    | refine ⟨by omega, ?_⟩
    | refine elemHave (by omega) (by assumption) ?_
    | refine elemMap (by omega) (by omega) (fun x hx => ?_)
    | refine drawK mo (by kernel_rfl) ?_
    | (exact absurd rfl (by assumption))

def nodeCa (a : Nat) (n : DNode) : DFault :=
  if (orderF (namesC n) (hangsC n)).2 = true then ⟨0, 0, 0⟩ else firstE (a : Int) 9 (fun k _ => decide (k ∈ (orderF (namesC n) (hangsC n)).1)) 0 n.Eqs
noncomputable def causeF (p : DProg) : DFault := if (clockF p).Err = 0 then firstF nodeCa 0 p.Nodes else clockF p
theorem nodeCa_zero {a : Nat} {n : DNode} (h : (nodeCa a n).Err = 0) : nodeCa a n = ⟨0, 0, 0⟩ ∧ ((orderF (namesC n) (hangsC n)).2 = true ∨ ∀ (k : Nat) q, n.Eqs[k]? = some q → k ∈ (orderF (namesC n) (hangsC n)).1) := by
  unfold nodeCa at *
  split at h
  · rename_i h0
    rw [if_pos h0]
    exact ⟨rfl, .inl h0⟩
  · rename_i h0
    rw [if_neg h0]
    obtain ⟨h1, h2⟩ := firstE_zero (by decide) h
    exact ⟨h1, .inr fun k q hq => by simpa using h2 k q hq⟩
theorem cause_zero {p : DProg} (h : (causeF p).Err = 0) : causeF p = ⟨0, 0, 0⟩ ∧ (clockF p).Err = 0 ∧ ∀ (k : Nat) n, p.Nodes[k]? = some n → (nodeCa k n).Err = 0 := by
  unfold causeF at *
  split at h
  · rename_i h0
    rw [if_pos h0]
    obtain ⟨h1, h2⟩ := firstF_zero h
    exact ⟨h1, h0, fun k n hk => by have := h2 k n hk; simpa using this⟩
  · rename_i h0; exact absurd h h0
theorem pure_ns (l : List Nat) : Go.Abs.Pure (.lst 1 (l.map AV.n) none) := by rw [mapN]; exact pure_ints _

theorem indexN (l : List Nat) (k : Nat) : PCall Tryz.prog 127 [.lst 1 (l.map AV.n) none, .i (k : Int)] (.i (idxOf (fun x => decide (x = k)) l)) := by
  refine pcall_of_vc tabOK Tryz.func127 (by kernel_rfl) rfl (pure_cons (pure_ns l) (pure_cons (.raw _) pure_nil)) (.raw _) (n := 19) rfl (rs := [.tmp 4]) rfl ?_
  simp only [go_sem]
  intro _
  refine loop_frH [4, 5, 8, 9, 10, 11, 12, 13, 14, 15, 16, 17, 18] (fun m C => ∃ i : Nat, i ≤ l.length ∧ m = l.length - i ∧ (∀ x ∈ l.take i, decide (x = k) = false) ∧ C = [(8, .raw (.int .i64 (i : Nat)))]) l.length _ ⟨0, by omega, by omega, by simp, rfl⟩ (.cons rfl .nil) ?_
  rintro m C ja ⟨i, hi, rfl, hp0, rfl⟩
  simp only [go_sem]
  refine brK_dec (fun hlt => ?_) (fun hge => ?_)
  · obtain ⟨x, hx⟩ : ∃ x, l[i]? = some x := ⟨_, List.getElem?_eq_getElem (by omega)⟩
    simp only [go_sem]
    refine elemHave (x := x) (by omega) (by simpa using hx) ?_
    simp only [go_sem]
    refine brK_dec (fun he => ?_) (fun he => ?_)
    · rw [idxOf_at hp0 (by simpa using hx) (decide_eq_true (by omega))]
      simp only [go_sem]
      exact finIq rfl rfl
    · simp only [go_sem]
      exact loopFrH _ (by omega) ⟨i + 1, by omega, rfl, take_all hp0 hx (decide_eq_false (by omega)), rfl⟩ (.next rfl (by omega) .nil) rfl
  · rw [idxOf_none (take_full hp0 (by omega))]
    simp only [go_sem]
    exact finIq rfl rfl
theorem any_mem (l : List Nat) (k : Nat) : (l.any fun x => decide (x = k)) = decide (k ∈ l) := by
  rw [Bool.eq_iff_iff, List.any_eq_true]
  simp

theorem containsN (l : List Nat) (k : Nat) : PCall Tryz.prog 77 [.lst 1 (l.map AV.n) none, .i (k : Int)] (.b (decide (k ∈ l))) := by
  refine pcall_of_vc tabOK Tryz.func77 (by kernel_rfl) rfl (pure_cons (pure_ns l) (pure_cons (.raw _) pure_nil)) (.raw _) (n := 9) rfl (rs := [.tmp 4]) rfl ?_
  rw [← any_mem, ← idx_any]
  simp only [go_sem]
  refine PCall.call (indexN l k) ?_
  simp only [go_sem]
  exact finBq rfl rfl
theorem nodeCa_ok {a : Nat} {n : DNode} {lo : List Nat} (h : orderF (namesC n) (hangsC n) = (lo, true)) : nodeCa a n = ⟨0, 0, 0⟩ := by unfold nodeCa; rw [h, if_pos rfl]
theorem nodeCa_no {a : Nat} {n : DNode} {lo : List Nat} (h : orderF (namesC n) (hangsC n) = (lo, false)) : nodeCa a n = firstE (a : Int) 9 (fun k _ => decide (k ∈ lo)) 0 n.Eqs := by unfold nodeCa; rw [h, if_neg (by simp)]

theorem causeCheck (p : DProg) (hp : okProg p) : PCall Tryz.prog 33 [p.enc] (causeF p).enc := by
  refine pcall_of_vc tabOK Tryz.func33 (by kernel_rfl) rfl (by first | exact pureL | exact pureI) (by first | exact pureL | exact pureI) (n := 48) rfl (rs := [.cell 2 34]) rfl ?_
  have hp6 := hp.2.1
  unfold causeF
  simp only [go_sem]
  refine PCall.call (clockCheck p hp) ?_
  generalize clockF p = F
  rw [show F.enc = .agg [.i F.Node, .i F.Eq, .i F.Err] from DFault.enc_eq _]
  simp only [go_sem]
  refine brK_dec (fun h0 => ?_) (fun h0 => ?_)
  · rw [if_neg h0]
    simp only [go_sem]
    exact ⟨_, rfl, false, by rw [DFault.enc_eq]; exact .refl _⟩
  rw [if_pos (Classical.not_not.1 h0)]
  generalize hE : firstF nodeCa 0 p.Nodes = E
  simp only [go_sem]
  intro _
  refine loop_frX [4, 5, 6, 7, 8, 18, 19, 20, 21, 22, 23, 24, 25, 26, 27, 28, 29, 30, 31, 32, 33, 34, 35, 36, 37, 38, 39, 40, 41, 42, 43, 44, 45, 46] (fun m C => ∃ i : Nat, i ≤ p.Nodes.length ∧ m = p.Nodes.length - i ∧ firstF nodeCa i (p.Nodes.drop i) = E ∧ C = [(18, .raw (.int .i64 (i : Nat)))]) p.Nodes.length _ ⟨0, by omega, by omega, hE, rfl⟩ (.cons rfl .nil) ?_
  rintro m C ja r ⟨j, hi, rfl, hE', rfl⟩
  simp only [go_sem]
  refine brK_dec (fun hlt => ?_) (fun hge => ?_)
  · obtain ⟨n, hj⟩ : ∃ n, p.Nodes[j]? = some n := ⟨_, List.getElem?_eq_getElem (by omega)⟩
    have hnm := List.mem_of_getElem? hj
    have hn := hp.2.2 n hnm
    have he4 := hn.2.2.2.1
    have hO := order39 n (okNode_C hn)
    have hok := fun lo => @nodeCa_ok j n lo
    have hno := fun lo => @nodeCa_no j n lo
    generalize orderF (namesC n) (hangsC n) = R at hO hok hno
    obtain ⟨lo, ok⟩ := R
    simp only [go_sem]
    refine elemHave (x := n) (by omega) (by simpa using hj) ?_
    simp only [go_sem]
    refine PCall.call hO ?_
    simp only [go_sem]
    cases ok
    · replace hno := hno lo rfl
      generalize hG : nodeCa j n = G at hno
      refine loop_frX [8, 28, 29, 30, 31, 32, 33, 34, 35, 36, 37, 38, 39, 40, 41, 42, 43, 44, 45] (fun m C => ∃ i : Nat, i ≤ n.Eqs.length ∧ m = n.Eqs.length - i ∧ firstE (j : Int) 9 (fun k _ => decide (k ∈ lo)) i (n.Eqs.drop i) = G ∧ C = [(8, .raw (.int .i64 (i : Nat)))]) n.Eqs.length _ ⟨0, by omega, by omega, hno.symm, rfl⟩ (.cons rfl .nil) ?_
      rintro m C jb r1 ⟨i, hi1, rfl, hG', rfl⟩
      simp only [go_sem]
      intro _
      have hdone : ¬ (i : Int) < n.Eqs.length → G = ⟨0, 0, 0⟩ := fun h => firstE_0 hG' (by omega)
      have hnext : G = ⟨0, 0, 0⟩ → firstF nodeCa (j + 1) (p.Nodes.drop (j + 1)) = E := fun h => first_next hE' hj (by rw [hG, h])
      repeat' first
        | (exfalso; omega)
        | simp only [go_sem]
        | refine gqK_dec (fun _ => ?_) (fun _ => ?_)
        | refine gK_dec (fun _ => ?_) (fun _ => ?_)
        | refine brK_dec (fun _ => ?_) (fun _ => ?_)
        | (have hz : ¬ (i : Int) < n.Eqs.length := (by assumption); exact loopFrX _ (by omega) _ ⟨j + 1, by omega, rfl, hnext (hdone hz), rfl⟩ (.next rfl (by omega) .nil) rfl (by first | rfl | (simp only [List.append_assoc, List.cons_append, List.nil_append]; rfl)))
        | ((fail_if_success (clear hq)); obtain ⟨q, hq⟩ : ∃ q, n.Eqs[i]? = some q := ⟨_, List.getElem?_eq_getElem (by omega)⟩; refine PCall.call (containsN lo i) ?_; generalize hb : decide (i ∈ lo) = b; cases b)
        | (have hE1 := firstE_next hG' hq hb; exact loopFrX _ (by omega) _ ⟨i + 1, by omega, rfl, hE1, rfl⟩ (.next rfl (by omega) .nil) rfl (by first | rfl | (simp only [List.append_assoc, List.cons_append, List.nil_append]; rfl)))
        | (have hE1 := firstE_at hG' hq hb; have hE2 := first_at hE' hj (by rw [hG, hE1]; simp); rw [hE2, hG, hE1]; exact ⟨_, rfl, false, by rw [DFault.enc_eq]; exact .refl _⟩)
    · have hz := hok lo rfl
      refine loop_frX [8, 28, 29, 30, 31, 32, 33, 34, 35, 36, 37, 38, 39, 40, 41, 42, 43, 44, 45] (fun m C => m = 0 ∧ C = [(8, .raw (.int .i64 (0 : Int)))]) 0 _ ⟨rfl, rfl⟩ (.cons rfl .nil) ?_
      rintro m C jb r1 ⟨rfl, rfl⟩
      simp only [go_sem]
      intro _
      have hE1 := first_next hE' hj (by rw [hz])
      repeat' first
        | simp only [go_sem]
        | refine gqK_dec (fun _ => ?_) (fun _ => ?_)
        | refine gK_dec (fun _ => ?_) (fun _ => ?_)
        | refine brK_dec (fun _ => ?_) (fun _ => ?_)
        | exact loopFrX _ (by omega) _ ⟨j + 1, by omega, rfl, hE1, rfl⟩ (.next rfl (by omega) .nil) rfl (by first | rfl | (simp only [List.append_assoc, List.cons_append, List.nil_append]; rfl))
  · have h1 := first_0 hE' (by omega)
    subst h1
    simp only [go_sem]
    exact ⟨_, rfl, false, by rw [DFault.enc_eq]; exact .refl _⟩
theorem any_takeN {l : List Nat} {k i : Nat} {x : Nat} (hx : l[i]? = some x) : decide (k ∈ l.take (i + 1)) = (decide (k ∈ l.take i) || decide (x = k)) := by
  obtain ⟨hi, rfl⟩ := List.getElem?_eq_some_iff.1 hx
  rw [List.take_succ_eq_append_getElem hi]
  rw [Bool.eq_iff_iff]
  simp only [decide_eq_true_eq, List.mem_append, List.mem_singleton, Bool.or_eq_true]
  constructor
  · rintro (h | h)
    · exact .inl h
    · exact .inr h.symm
  · rintro (h | h)
    · exact .inl h
    · exact .inr h.symm

theorem causeX (p : DProg) (hp : okProg p) : PCall Tryz.prog 34 [p.enc] (causeF p).enc := by
  refine pcall_of_vc tabOK Tryz.func34 (by kernel_rfl) rfl (by first | exact pureL | exact pureI) (by first | exact pureL | exact pureI) (n := 65) rfl (rs := [.cell 2 34]) rfl ?_
  have hp6 := hp.2.1
  unfold causeF
  simp only [go_sem]
  refine PCall.call (clockX p hp) ?_
  have hz := clock_zero (p := p)
  generalize clockF p = F at hz
  simp only [go_sem]
  rw [fault_z]
  simp only [go_sem]
  refine brK_dec (fun h0 => ?_) (fun h0 => ?_)
  · have hF : ¬ F.Err = 0 := fun h => h0 (hz h).1
    rw [if_neg hF]
    simp only [go_sem]
    exact ⟨_, rfl, false, by rw [DFault.enc_eq]; exact .refl _⟩
  rw [if_pos (by rw [Classical.not_not.1 h0])]
  generalize hE : firstF nodeCa 0 p.Nodes = E
  simp only [go_sem]
  refine loop_frX [4, 5, 6, 7, 8, 9, 16, 17, 18, 19, 20, 21, 22, 23, 24, 25, 26, 27, 28, 29, 30, 31, 32, 33, 34, 35, 36, 37, 38, 39, 40, 41, 42, 43, 44, 45, 46, 47, 48, 49, 50, 51, 52, 53, 54, 55, 56, 57, 58, 59, 60, 61, 62, 63] (fun m C => ∃ i : Nat, i ≤ p.Nodes.length ∧ m = p.Nodes.length - i ∧ firstF nodeCa i (p.Nodes.drop i) = E ∧ C = [(4, .raw (.int .i64 (i : Nat)))]) p.Nodes.length _ ⟨0, by omega, by omega, hE, rfl⟩ (.cons rfl .nil) ?_
  rintro m C ja r ⟨j, hi, rfl, hE', rfl⟩
  simp only [go_sem]
  intro _
  refine brK_dec (fun hlt => ?_) (fun hge => ?_)
  · obtain ⟨n, hj⟩ : ∃ n, p.Nodes[j]? = some n := ⟨_, List.getElem?_eq_getElem (by omega)⟩
    have hnm := List.mem_of_getElem? hj
    have hn := hp.2.2 n hnm
    have he4 := hn.2.2.2.1
    have hO := order40 n (okNode_C hn)
    have hok := fun lo => @nodeCa_ok j n lo
    have hno := fun lo => @nodeCa_no j n lo
    generalize orderF (namesC n) (hangsC n) = R at hO hok hno
    obtain ⟨lo, ok⟩ := R
    simp only [go_sem]
    refine elemHave (x := n) (by omega) (by simpa using hj) ?_
    simp only [go_sem]
    refine PCall.call hO ?_
    cases ok
    · replace hno := hno lo rfl
      generalize hG : nodeCa j n = G at hno
      simp only [go_sem]
      refine loop_frX [7, 8, 9, 33, 34, 35, 36, 37, 38, 39, 40, 41, 42, 43, 44, 45, 46, 47, 48, 49, 50, 51, 52, 53, 54, 55, 56, 57, 58, 59, 60, 61, 62, 63] (fun m C => ∃ i : Nat, i ≤ n.Eqs.length ∧ m = n.Eqs.length - i ∧ firstE (j : Int) 9 (fun k _ => decide (k ∈ lo)) i (n.Eqs.drop i) = G ∧ C = [(7, .raw (.int .i64 (i : Nat)))]) n.Eqs.length _ ⟨0, by omega, by omega, hno.symm, rfl⟩ (.cons rfl .nil) ?_
      rintro m C jb r1 ⟨i, hi1, rfl, hG', rfl⟩
      simp only [go_sem]
      refine elemHave (x := n) (by omega) (by simpa using hj) ?_
      simp only [go_sem]
      intro _
      refine brK_dec (fun hlt1 => ?_) (fun hge1 => ?_)
      · obtain ⟨q, hq⟩ : ∃ q, n.Eqs[i]? = some q := ⟨_, List.getElem?_eq_getElem (by omega)⟩
        simp only [go_sem]
        refine loop_frX [8, 9, 44, 45, 46, 47, 48, 49, 50, 51, 52, 53, 54, 55, 56, 57, 58] (fun m C => ∃ i3 : Nat, i3 ≤ lo.length ∧ m = lo.length - i3 ∧ C = [(9, .raw (.int .i64 (i3 : Nat))), (8, .b (decide (i ∈ lo.take i3)))]) lo.length _ ⟨0, by omega, by omega, rfl⟩ (.cons rfl (.cons rfl .nil)) ?_
        rintro m C jc r2 ⟨i3, hi3, rfl, rfl⟩
        simp only [go_sem]
        intro _
        refine brK_dec (fun hlt3 => ?_) (fun hge3 => ?_)
        · obtain ⟨x, hx⟩ : ∃ x, lo[i3]? = some x := ⟨_, List.getElem?_eq_getElem (by omega)⟩
          have ht := any_takeN (k := i) hx
          generalize hb : decide (i ∈ lo.take i3) = b at ht
          cases b
          · have hc : decide ((x : Int) = (i : Int)) = decide (i ∈ lo.take (i3 + 1)) := by rw [ht, Bool.false_or]; exact decide_eq_decide.2 (by omega)
            simp only [go_sem]
            refine elemHave (x := x) (by omega) (by simpa using hx) ?_
            simp only [go_sem]
            exact loopFrX _ (by omega) _ ⟨i3 + 1, by omega, rfl, rfl⟩ (.next rfl (by omega) (.cons (by first | rfl | (rw [← hc]; rfl) | (simp [hc]; done) | (rw [← hc]; simp)) .nil)) rfl (by first | rfl | (simp only [List.append_assoc, List.cons_append, List.nil_append]; rfl))
          · simp only [go_sem]
            exact loopFrX _ (by omega) _ ⟨i3 + 1, by omega, rfl, rfl⟩ (.next rfl (by omega) (.cons (by rw [ht]; rfl) .nil)) rfl (by first | rfl | (simp only [List.append_assoc, List.cons_append, List.nil_append]; rfl))
        · rw [List.take_of_length_le (by omega)]
          generalize hb : decide (i ∈ lo) = b
          cases b
          · have hE1 := firstE_at hG' hq hb
            have hE2 := first_at hE' hj (by rw [hG, hE1]; simp)
            rw [hE2, hG, hE1]
            simp only [go_sem]
            refine PCall.call (fault47 _ _ _) ?_
            simp only [go_sem]
            exact ⟨_, rfl, false, by rw [DFault.enc_eq]; exact .refl _⟩
          · have hE1 := firstE_next hG' hq hb
            simp only [go_sem]
            exact loopFrX _ (by omega) _ ⟨i + 1, by omega, rfl, hE1, rfl⟩ (.next rfl (by omega) .nil) rfl (by first | rfl | (simp only [List.append_assoc, List.cons_append, List.nil_append]; rfl))
      · have h1 := firstE_0 hG' (by omega)
        have hE1 := first_next hE' hj (by rw [hG, h1])
        simp only [go_sem]
        exact loopFrX _ (by omega) _ ⟨j + 1, by omega, rfl, hE1, rfl⟩ (.next rfl (by omega) .nil) rfl (by first | rfl | (simp only [List.append_assoc, List.cons_append, List.nil_append]; rfl))
    · have hz := hok lo rfl
      have hE1 := first_next hE' hj (by rw [hz])
      simp only [go_sem]
      exact loopFrX _ (by omega) _ ⟨j + 1, by omega, rfl, hE1, rfl⟩ (.next rfl (by omega) .nil) rfl (by first | rfl | (simp only [List.append_assoc, List.cons_append, List.nil_append]; rfl))
  · have h1 := first_0 hE' (by omega)
    subst h1
    simp only [go_sem]
    exact ⟨_, rfl, false, by rw [DFault.enc_eq]; exact .refl _⟩
theorem law_cause (p : DProg) : PCall Tryz.prog 8 [p.enc] (.b true) := by
  refine pcall_of_vc tabOK Tryz.func8 (by kernel_rfl) rfl pureL pureI (n := 15) rfl (rs := [.tmp 2]) rfl ?_
  repeat' first
    | exact finB rfl
    | exact finI rfl
    | exact finP rfl
    | exact absurd rfl (by assumption)
    | simp only [go_sem]
    | (intro _)
    | refine brK_dec (fun _ => ?_) (fun _ => ?_)
    | refine brK_split (fun hb_ => ?_) (fun hb_ => ?_)
    | refine gK_dec (fun _ => ?_) (fun _ => ?_)
    | refine gK_split (fun hb_ => ?_) (fun hb_ => ?_)
    | refine gqK_dec (fun _ => ?_) (fun _ => ?_)
    | refine ⟨by omega, ?_⟩
    | refine elemHave (by omega) (by assumption) ?_
    | refine elemMap (by omega) (by omega) (fun x hx => ?_)
    | refine drawK mo (by kernel_rfl) ?_
    | ((fail_if_success (clear hb)); refine PCallE.call (small_p _) (fun r hr => ?_); obtain ⟨b, rfl, hb⟩ := hr; cases b <;> (try replace hb := hb rfl))
    | (refine PCall.call live38 ?_)
    | (refine pcK_of live38 ?_)
    | (refine PCall.call (causeCheck p hb) ?_)
    | (refine PCall.call (causeX p hb) ?_)
    | (refine pcK_of (causeCheck p hb) ?_)
    | (refine pcK_of (causeX p hb) ?_)
    | (exact absurd rfl (by assumption))
    | (simp only [beq_self_eq_true])
    | (exact finBq rfl (by simp))
end Go.Proofs.YtidjmcmfgimbfaaGreatDoor
