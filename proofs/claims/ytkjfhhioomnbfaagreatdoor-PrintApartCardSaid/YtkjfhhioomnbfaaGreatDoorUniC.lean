/-
  IdX2, AbsU, AbsT, Once, RightD, IdP, Lib1, Lib2, Lib3, IdP2, Slices1, RightP, Once2, AbsRF, Walk, Walk2, RightP2, Ident, Ident2, Right, Count, Small, SmallE, AbsW, RightP3, ShowD, ShowP, ShowP2, ShowP3, ShowP4, ExD, ShowP5, ShowP6, AbsQ, Data, SmallPr, Concat, DeclPr, AbsTA, Ctor1, Ctor2, Ctor3, Ctor4, Same1, ChkD, ChkP, ChkP2: put together.
-/
import Derived.Test.YtkjfhhioomnbfaaGreatDoorUniA
import Derived.Test.YtkjfhhioomnbfaaGreatDoorUniB
import Derived.Shelf.Strings.Search1
import Derived.Shelf.Strings.Count
import Derived.ChangeShapes
import Derived.ChangeSame
import Derived.Carry
import Derived.OpenShut
import Derived.WalkKit
namespace Go.Proofs.YtkjfhhioomnbfaaGreatDoor
open Go.Abs
set_option maxRecDepth 20000
set_option linter.unusedSimpArgs false
set_option linter.unusedVariables false
set_option maxHeartbeats 1000000
attribute [local irreducible] vc vcOps vcStep vcGuard prK hrK gK gsK brK callK ElemK SeqK BlockK ScopeK OpsK CallK LoopK LoopGo finPost ACall PCall PCallE BCall vqOps vqStep vqGuard qrK heK pcK gqK gqsK QOpsK qcallK DrawK

theorem cut_x (t : ByteArray) (c : UInt8) (ht : t.size ≤ 1000000) : PCall Tryz.prog 159 [.s t, .raw (.int .u8 c.toNat)] (.lst 1 ((pieces c t).map AV.s) none) := by
  refine pcall_of_vc tabOK Tryz.func159 (by kernel_rfl) rfl (pure_cons (.raw _) (pure_cons (.raw _) pure_nil)) (pure_strs _) (n := 36) rfl (rs := [.tmp 4]) rfl ?_
  simp only [go_sem]
  refine loop_rule (fun n s h => ∃ (i fr : Nat) (D : List ByteArray) (rest : List Blk), i ≤ t.size + 1 ∧ fr ≤ i ∧ D.length ≤ i ∧ n = t.size + 1 - i ∧ (i ≤ t.size → D ++ pieces c (t.extract fr t.size) = pieces c t ∧ c ∉ ((bts t).take i).drop fr) ∧ (i = t.size + 1 → D = pieces c t) ∧
    Vis 36 [(7, .i i), (0, .s t), (1, .raw (.int .u8 c.toNat)), (5, .lst 1 (D.map AV.s) (some 0)), (6, .i fr)] s ∧ h = .tok 9 1 D.length :: rest) (t.size + 1) ?_ ?_
  · refine ⟨0, 0, [], [], by omega, by omega, by simp, by omega, fun _ => ⟨?_, by simp⟩, by omega, .cons rfl (.cons rfl (.cons rfl (.cons rfl (.cons rfl (.nil rfl))))), rfl⟩
    have : t.extract 0 t.size = t := bts_inj (by rw [bts_from]; rfl)
    rw [List.nil_append, this]
  rintro n s h ⟨i, fr, D, rest, hi, hfr, hl, rfl, hinv, hend, hv, rfl⟩
  obtain ⟨j, rfl⟩ := hv.out
  repeat' first
    | exact finB rfl
    | exact finI rfl
    | exact finP rfl
    | exact absurd rfl (by assumption)
    | simp only [go_sem]
    | (intro _)
    | refine brK_dec (fun _ => ?_) (fun _ => ?_)
    | refine brK_any ?_ ?_
    | refine gK_dec (fun _ => ?_) (fun _ => ?_)
    | refine gK_any ?_ ?_
    | refine gqK_dec (fun _ => ?_) (fun _ => ?_)
    | refine ⟨by omega, ?_⟩
    | refine elemHave (by omega) (by assumption) ?_
    | refine elemMap (by omega) (by omega) (fun x hx => ?_)
    | refine drawK mo (by kernel_rfl) ?_
    | (exfalso; omega)
    | ((fail_if_success (clear hcc)); have hlt_ : i < t.size := (by omega); have hcx := bts_at hlt_; obtain ⟨x, hcc⟩ := hcx; have hbi := bat hcc)
    | (rw [hbi])
  · have hie : i = t.size := by omega
    obtain ⟨h1, h2⟩ := hinv (by omega)
    rw [hie] at h2
    have hp := pieces_last h2
    rw [hp] at h1
    exact loopGo (t.size + 1 - (i + 1)) (by omega) ⟨i + 1, i + 1, D ++ [t.extract (fr : Int).toNat (i : Int).toNat], rest ++ [.tok 9 1 1], by omega, by omega, by simp; omega, rfl, fun h => by omega, fun _ => by rw [← h1, hie, Int.toNat_natCast, Int.toNat_natCast],
      .next rfl (by omega) (.cons rfl (.cons rfl (.cons (by rw [List.map_append]; rfl) (.next rfl (by omega) (.nil rfl))))), by simp⟩
  · have hxc : x = c := UInt8.toNat_inj.1 (by omega)
    subst hxc
    obtain ⟨h1, h2⟩ := hinv (by omega)
    have hp := pieces_step hfr hcc h2
    rw [hp] at h1
    exact loopGo (t.size + 1 - (i + 1)) (by omega) ⟨i + 1, i + 1, D ++ [t.extract (fr : Int).toNat (i : Int).toNat], rest ++ [.tok 9 1 1], by omega, by omega, by simp; omega, rfl, fun _ => ⟨by rw [Int.toNat_natCast, Int.toNat_natCast, List.append_assoc]; exact h1, by simp⟩, fun h => by omega,
      .next rfl (by omega) (.cons rfl (.cons rfl (.cons (by rw [List.map_append]; rfl) (.next rfl (by omega) (.nil rfl))))), by simp⟩
  · have hxc : ¬ x = c := fun e => by subst e; omega
    obtain ⟨h1, h2⟩ := hinv (by omega)
    exact loopGo (t.size + 1 - (i + 1)) (by omega) ⟨i + 1, fr, D, rest, by omega, by omega, by omega, rfl, fun _ => ⟨h1, no_next hfr hcc hxc h2⟩, fun h => by omega,
      .next rfl (by omega) (.cons rfl (.cons rfl (.cons rfl (.cons rfl (.nil rfl))))), rfl⟩
  · rw [← hend (by omega)]
    exact ⟨_, rfl, false, .tok _ _ _⟩

theorem numG_bad {t : ByteArray} (h : ¬ (1 ≤ t.size ∧ t.size ≤ 3)) : numG t = false := by
  unfold numG
  rcases Classical.em (1 ≤ t.size) with q | q
  · have : ¬ t.size ≤ 3 := fun q' => h ⟨q, q'⟩
    simp [this]
  · simp [q]
theorem partF_one {t p : ByteArray} {l : List ByteArray} (hp : pieces 46 t = l) (hl : l.length = 1) (h0 : l[0]? = some p) : partF t = lowF p := by
  match l, hl with
  | [x], _ => simp at h0; subst h0; unfold partF; rw [hp]
theorem partF_two {t p q : ByteArray} {l : List ByteArray} (hp : pieces 46 t = l) (hl : l.length = 2) (h0 : l[0]? = some p) (h1 : l[1]? = some q) : partF t = (lowF p && numG q) := by
  match l, hl with
  | [x, y], _ => simp at h0 h1; subst h0; subst h1; unfold partF; rw [hp]
theorem partF_more {t : ByteArray} {l : List ByteArray} (hp : pieces 46 t = l) (hl : 2 < l.length) : partF t = false := by
  match l, hl with
  | x :: y :: z :: l, _ => unfold partF; rw [hp]
theorem partF_low0 {t p : ByteArray} {l : List ByteArray} (hp : pieces 46 t = l) (h0 : l[0]? = some p) (h : lowF p = false) : partF t = false := by
  unfold partF
  rw [hp]
  match l with
  | [] => rfl
  | [x] => simp at h0; subst h0; exact h
  | [x, y] => simp at h0; subst h0; simp [h]
  | x :: y :: z :: l => rfl
theorem cut_x' (t : ByteArray) (c : UInt8) (k : Int) (hk : (c.toNat : Int) = k) (ht : t.size ≤ 1000000) : PCall Tryz.prog 159 [.s t, .raw (.int .u8 k)] (.lst 1 ((pieces c t).map AV.s) none) := hk ▸ cut_x t c ht
theorem numG_of {t : ByteArray} {b : Bool} {c : UInt8} (h1 : 1 ≤ t.size) (h2 : t.size ≤ 3) (h0 : (bts t)[0]? = some c) (h48 : ¬ c.toNat = 48) (hb : ((bts t).all fun c => inB 48 57 c.toNat) = b) : numG t = b := by
  unfold numG
  obtain ⟨l, hl⟩ := bts_cons h0
  rw [decide_eq_true h1, decide_eq_true h2, hb, hl]
  simp [firstNo0, h48]
theorem numG_48 {t : ByteArray} {c : UInt8} (h0 : (bts t)[0]? = some c) (h48 : c.toNat = 48) : numG t = false := by
  unfold numG
  obtain ⟨l, hl⟩ := bts_cons h0
  rw [hl]
  simp [firstNo0, h48]
theorem path_x (t : ByteArray) (ht : t.size ≤ 1000000) : PCall Tryz.prog 144 [.s t] (.b (pathF t)) := by
  refine pcall_of_vc tabOK Tryz.func144 (by kernel_rfl) rfl pureL pureI (n := 61) rfl (rs := [.tmp 2]) rfl ?_
  unfold pathF
  simp only [go_sem]
  refine PCall.call (cut_x' t 47 47 rfl ht) ?_
  simp only [go_sem]
  refine loop_frH [2, 4, 5, 6, 7, 10, 11, 12, 13, 14, 15, 16, 17, 18, 19, 20, 21, 22, 23, 24, 25, 26, 27, 28, 29, 30, 31, 32, 33, 34, 35, 36, 37, 38, 39, 40, 41, 42, 43, 44, 45, 46, 47, 48, 49, 50, 51, 52, 53, 54, 55, 56, 57, 58, 59, 60] (fun m C => ∃ i : Nat, i ≤ (pieces 47 t).length ∧ m = (pieces 47 t).length - i ∧ (∀ x ∈ (pieces 47 t).take i, partF x = true) ∧ C = [(4, .raw (.int .i64 (i : Nat)))]) (pieces 47 t).length _ ⟨0, by omega, by omega, by simp, rfl⟩ (.cons rfl .nil) ?_
  rintro m C j ⟨i, hi, rfl, hpi, rfl⟩
  simp only [go_sem]
  intro _
  refine brK_dec (fun hlt => ?_) (fun hge => ?_)
  · simp only [go_sem]
    refine elemMap (by omega) (by omega) (fun x hx => ?_)
    have hx' : (pieces 47 t)[i]? = some x := by simpa using hx
    have hle := pieces_le (List.mem_of_getElem? hx')
    have next : partF x = true → ∀ y ∈ (pieces 47 t).take (i + 1), partF y = true := fun h => take_all hpi hx' h
    have stop : partF x = false → false = (pieces 47 t).all partF := fun h => (List.all_eq_false.2 ⟨x, List.mem_of_getElem? hx', by simp [h]⟩).symm
    simp only [go_sem]
    refine PCall.call (cut_x' x 46 46 rfl (by omega)) ?_
    have hne := pieces_ne 46 x
    generalize hp : pieces 46 x = l at hne ⊢
    have hl0 : 0 < l.length := List.length_pos_iff.2 hne
    obtain ⟨p0, hp0⟩ : ∃ p0, l[0]? = some p0 := ⟨_, List.getElem?_eq_getElem hl0⟩
    by_cases h2 : l.length = 2
    · obtain ⟨q, hq⟩ : ∃ q, l[1]? = some q := ⟨_, List.getElem?_eq_getElem (by omega)⟩
      have hpt := partF_two hp h2 hp0 hq
      by_cases hsz : ¬ (1 ≤ q.size ∧ q.size ≤ 3)
      · have hbad := numG_bad hsz
        repeat' first
          | (exfalso; omega)
          | simp only [go_sem]
          | (intro _)
          | refine brK_dec (fun _ => ?_) (fun _ => ?_)
          | refine gK_dec (fun _ => ?_) (fun _ => ?_)
          | refine elemHave (by omega) hp0 ?_
          | refine elemHave (by omega) hq ?_
          | (refine PCall.call (low_x p0) ?_; generalize hlo : lowF p0 = lo; cases lo)
          | exact finBq rfl (stop (by rw [hpt, hbad]; simp))
      · have hsz := Classical.not_not.1 hsz
        obtain ⟨c0, hc0⟩ := bts_at (t := q) (i := 0) (by omega)
        have hb0 : (q.data.toList.getD 0 0).toNat = c0.toNat := by have := bat hc0; simpa using this
        (repeat' first
    | exact finB rfl
    | exact finI rfl
    | exact finP rfl
    | exact absurd rfl (by assumption)
    | simp only [go_sem]
    | (intro _)
    | refine brK_dec (fun _ => ?_) (fun _ => ?_)
    | refine brK_split (fun hb_ => ?_) (fun hb_ => ?_)
    | refine gK_dec (fun _ => ?_) (fun _ => ?_)
    | refine gK_split (fun hb_ => ?_) (fun hb_ => ?_)
    | refine gqK_dec (fun _ => ?_) (fun _ => ?_)
    | refine ⟨by omega, ?_⟩
    | refine elemHave (by omega) (by assumption) ?_
    | refine elemMap (by omega) (by omega) (fun x hx => ?_)
    | refine drawK mo (by kernel_rfl) ?_
    | (exfalso; omega)
    | (refine elemHave (by omega) hp0 ?_)
    | (refine elemHave (by omega) hq ?_)
    | (rw [hb0])
    | (refine PCall.call (low_x p0) ?_; generalize hlo : lowF p0 = lo; cases lo)
    | ((fail_if_success (clear hcc)); have hlt_ : k < q.size := (by omega); have hcx := bts_at hlt_; obtain ⟨c, hcc⟩ := hcx; have hbi := bat hcc)
    | (rw [hbi])
    | (refine PCall.call (in_x _ _ _) ?_; generalize hin : inB 48 57 (c.toNat : Nat) = bb; cases bb)
    | (exact finBq rfl (stop (partF_low0 hp hp0 hlo)))
    | (have h48 : c0.toNat = 48 := (by omega); exact finBq rfl (stop (by rw [hpt, numG_48 hc0 h48]; simp)))
    | (have hall := all_no (p := fun c => inB 48 57 c.toNat) hcc hin; have h48 : ¬ c0.toNat = 48 := (by omega); exact finBq rfl (stop (by rw [hpt, numG_of hsz.1 hsz.2 hc0 h48 hall]; simp)))
    | exact loopFrH _ (by omega) ⟨k + 1, by omega, rfl, take_all hpk hcc hin, rfl⟩ (.next rfl (by omega) .nil) rfl
    | (refine loop_frH [2, 7, 50, 51, 52, 53, 54, 55, 56, 57, 58, 59, 60] (fun mm_ CC_ => ∃ (k : Nat), k ≤ q.size ∧ mm_ = q.size - k ∧ (∀ c ∈ (bts q).take k, inB 48 57 c.toNat = true) ∧ CC_ = [(7, .raw (.int .i64 ((k : Nat) : Int)))]) (q.size) _ ⟨0, by omega, by omega, by simp, rfl⟩ (.cons rfl .nil) ?_; rintro mm_ CC_ jk ⟨k, hk, rfl, hpk, rfl⟩)
    | (have hall := all_yes (p := fun c => inB 48 57 c.toNat) hpk (by omega); have h48 : ¬ c0.toNat = 48 := (by omega); exact loopFrH _ (by omega) ⟨i + 1, by omega, rfl, next (by rw [hpt, hlo, numG_of hsz.1 hsz.2 hc0 h48 hall, Bool.and_self]), rfl⟩ (.next rfl (by omega) .nil) rfl))
    · have h1 : l.length = 1 ∨ 2 < l.length := by omega
      repeat' first
        | (exfalso; omega)
        | simp only [go_sem]
        | (intro _)
        | refine brK_dec (fun _ => ?_) (fun _ => ?_)
        | refine gK_dec (fun _ => ?_) (fun _ => ?_)
        | refine elemHave (by omega) hp0 ?_
        | (refine PCall.call (low_x p0) ?_; generalize hlo : lowF p0 = lo; cases lo)
        | (have h3 : 2 < l.length := (by omega); exact finBq rfl (stop (partF_more hp h3)))
        | exact finBq rfl (stop (partF_low0 hp hp0 hlo))
        | (have h3 : l.length = 1 := (by omega); exact loopFrH _ (by omega) ⟨i + 1, by omega, rfl, next (by rw [partF_one hp h3 hp0, hlo]), rfl⟩ (.next rfl (by omega) .nil) rfl)
  · simp only [go_sem]
    refine finBq rfl (List.all_eq_true.2 (take_full hpi (by omega))).symm
end Go.Proofs.YtkjfhhioomnbfaaGreatDoor

/-
  The plain law of an order of equations: each names some texts and hangs on some; the first that hangs on none unplaced comes next.
-/
namespace Go.Abs
open Go

def cntL (s : ByteArray) : List ByteArray → Nat
  | [] => 0
  | x :: l => (if x = s then 1 else 0) + cntL s l
def opn (s : ByteArray) : List (List ByteArray) → List Bool → Nat
  | ns :: N, p :: pl => (if p = true then 0 else cntL s ns) + opn s N pl
  | _, _ => 0
def waitsF (N : List (List ByteArray)) (pl : List Bool) (s : ByteArray) : Bool := decide (0 < opn s N pl)
def readyF (N H : List (List ByteArray)) (pl : List Bool) (i : Nat) : Bool := !(pl.getD i true) && (H.getD i []).all fun s => !waitsF N pl s
theorem cntL_append (s : ByteArray) (l m : List ByteArray) : cntL s (l ++ m) = cntL s l + cntL s m := by
  induction l with
  | nil => simp [cntL]
  | cons x l ih => simp only [List.cons_append, cntL, ih]; omega
theorem cntL_take {s : ByteArray} {l : List ByteArray} {k : Nat} (h : k < l.length) : cntL s (l.take (k + 1)) = cntL s (l.take k) + (if l[k] = s then 1 else 0) := by
  rw [List.take_succ_eq_append_getElem h, cntL_append]
  simp [cntL]
theorem cntL_le (s : ByteArray) (l : List ByteArray) : cntL s l ≤ l.length := by
  induction l with
  | nil => simp [cntL]
  | cons x l ih => simp only [cntL, List.length_cons]; split <;> omega
theorem cntL_mem {s : ByteArray} {l : List ByteArray} (h : s ∈ l) : 0 < cntL s l := by
  induction l with
  | nil => simp at h
  | cons x l ih =>
    simp only [cntL]
    rcases List.mem_cons.1 h with rfl | h
    · simp; omega
    · have := ih h; omega
theorem cntL_zero {s : ByteArray} {l : List ByteArray} (h : s ∉ l) : cntL s l = 0 := by
  induction l with
  | nil => simp [cntL]
  | cons x l ih =>
    simp only [cntL]
    rw [if_neg (fun e => h (by rw [e]; exact List.mem_cons_self)), ih (fun m => h (List.mem_cons_of_mem _ m))]

theorem opn_zero {s : ByteArray} : ∀ {N : List (List ByteArray)} {pl : List Bool}, (∀ (i : Nat) ns, N[i]? = some ns → pl[i]? = some false → s ∉ ns) → opn s N pl = 0
  | [], _, _ => by simp [opn]
  | _ :: _, [], _ => by simp [opn]
  | n :: N, p :: pl, h => by
    have := opn_zero (s := s) (N := N) (pl := pl) (fun i ns a b => h (i + 1) ns (by simpa using a) (by simpa using b))
    simp only [opn, this]
    cases p with
    | true => simp
    | false => simp [cntL_zero (h 0 n rfl rfl)]
/-- What a map of counts says. -/
def MapN (f : Value → Option AV) (g : ByteArray → Nat) : Prop := ∀ s, orZ (f (.string s)) (.raw (.int .i64 0)) = .raw (.int .i64 (g s))
theorem MapN.nil : MapN (fun _ => none) (fun _ => 0) := fun _ => rfl
theorem MapN.cast {f : Value → Option AV} {g g' : ByteArray → Nat} (h : MapN f g) (e : ∀ s, g s = g' s) : MapN f g' := fun s => by rw [h s, e]
theorem mput_same (f : Value → Option AV) (k : ByteArray) (v : AV) : mput f (.string k) v (.string k) = some v := by simp [mput, keyEq]
theorem mput_other (f : Value → Option AV) {k s : ByteArray} (v : AV) (h : ¬ s = k) : mput f (.string k) v (.string s) = f (.string s) := by
  unfold mput
  have : keyEq (.string s) (.string k) = false := by
    rw [Bool.eq_false_iff]; intro e; exact h (by have := (keyEq_iff (kk := .str) (a := .string s) (b := .string k) rfl rfl).1 e; cases this; rfl)
  rw [this]
theorem MapN.put {f : Value → Option AV} {g : ByteArray → Nat} (h : MapN f g) (k : ByteArray) (n : Nat) (g' : ByteArray → Nat) (h1 : g' k = n) (h2 : ∀ s, ¬ s = k → g' s = g s) : MapN (mput f (.string k) (.raw (.int .i64 (n : Int)))) g' := by
  intro s
  by_cases e : s = k
  · subst e; rw [mput_same, h1]; rfl
  · rw [mput_other _ _ e, h s, h2 s e]
end Go.Abs
namespace Go.Abs
open Go
/-- No name among the first ones that are not placed. -/
def NoW (N : List (List ByteArray)) (pl : List Bool) (s : ByteArray) (i : Nat) : Prop := ∀ (j : Nat) ns, j < i → N[j]? = some ns → pl[j]? = some false → s ∉ ns
theorem NoW.zero {N : List (List ByteArray)} {pl : List Bool} {s : ByteArray} : NoW N pl s 0 := fun j _ h => by omega
theorem NoW.step {N : List (List ByteArray)} {pl : List Bool} {s : ByteArray} {i : Nat} {ns : List ByteArray} (h : NoW N pl s i) (hN : N[i]? = some ns) (hp : pl[i]? = some false → s ∉ ns) : NoW N pl s (i + 1) := by
  intro j ms hj hm hq
  by_cases e : j = i
  · subst e
    rw [hN] at hm
    cases hm
    exact hp hq
  · exact h j ms (by omega) hm hq
theorem NoW.done {N : List (List ByteArray)} {pl : List Bool} {s : ByteArray} {i : Nat} (h : NoW N pl s i) (hi : N.length ≤ i) : waitsF N pl s = false := by
  simp only [waitsF, decide_eq_false_iff_not]
  rw [opn_zero fun j ns hn hp => h j ns (by obtain ⟨a, _⟩ := List.getElem?_eq_some_iff.1 hn; omega) hn hp]
  omega
theorem not_step {s x : ByteArray} {ns : List ByteArray} {j : Nat} {p : Prop} (h : p → s ∉ ns.take j) (hx : ns[j]? = some x) (hn : p → ¬ x = s) : p → s ∉ ns.take (j + 1) := by
  intro hp hm
  obtain ⟨hj, rfl⟩ := List.getElem?_eq_some_iff.1 hx
  rw [List.take_succ_eq_append_getElem hj] at hm
  rcases List.mem_append.1 hm with q | q
  · exact h hp q
  · simp at q
    exact hn hp q.symm
theorem map_some {α β : Type} {f : α → β} {l : List α} {i : Nat} {x : α} (h : l[i]? = some x) : (l.map f)[i]? = some (f x) := by rw [List.getElem?_map, h]; rfl
end Go.Abs
namespace Go.Abs
open Go
theorem take_mapS {α β : Type} {f : α → β} {l : List α} {i : Nat} {x : α} (hx : l[((i : Nat) : Int).toNat]? = some x) : (l.take (i + 1)).map f = (l.take i).map f ++ [f x] := by
  rw [Int.toNat_natCast] at hx
  obtain ⟨hi, rfl⟩ := List.getElem?_eq_some_iff.1 hx
  rw [List.take_succ_eq_append_getElem hi, List.map_append]
  rfl
theorem map_snoc (l : List ByteArray) (x : ByteArray) : l.map AV.s ++ [AV.s x] = (l ++ [x]).map AV.s := by simp
end Go.Abs

/-
  Maps of counts, turned by loops; what contains tells.
-/
namespace Go.Abs
open Go
/-- Names counted into a map, as far as the k-th. -/
theorem MapN.up {f : Value → Option AV} {a : ByteArray → Nat} {l : List ByteArray} {k : Nat} {x : ByteArray} (h : MapN f (fun s => a s + cntL s (l.take k))) (hx : l[((k : Nat) : Int).toNat]? = some x) : MapN (mput f (.string x) (.raw (.int .i64 ((a x + cntL x (l.take k) + 1 : Nat) : Int)))) (fun s => a s + cntL s (l.take (k + 1))) := by
  rw [Int.toNat_natCast] at hx
  obtain ⟨hi, rfl⟩ := List.getElem?_eq_some_iff.1 hx
  refine h.put _ _ _ ?_ fun s hs => ?_
  · simp only [cntL_take hi, if_true, Nat.add_assoc]
  · have : ¬ l[k] = s := fun e => hs e.symm
    simp only [cntL_take hi, if_neg this, Nat.add_zero]
theorem MapN.upW {f : Value → Option AV} {a : ByteArray → Nat} {l : List ByteArray} {k : Nat} {x : ByteArray} (h : MapN f (fun s => a s + cntL s (l.take k))) (hx : l[((k : Nat) : Int).toNat]? = some x) (hb : a x + cntL x (l.take k) ≤ 1000000) :
    MapN (mput f (.string x) (.raw (.int .i64 (IntKind.i64.wrap (((a x + cntL x (l.take k) : Nat) : Int) + 1))))) (fun s => a s + cntL s (l.take (k + 1))) := by
  rw [wrap_in _ (by omega) (by omega)]
  exact h.up hx
theorem MapN.at {f : Value → Option AV} {g : ByteArray → Nat} (h : MapN f g) (s : ByteArray) : orZ (f (.string s)) (.raw (.int .i64 0)) = .raw (.int .i64 (g s)) := h s
theorem idx_any {α : Type} (p : α → Bool) (l : List α) : decide (idxOf p l ≥ 0) = l.any p := by
  rcases idxOf_cases p l with ⟨h1, h2⟩ | ⟨i, x, h1, h2, h3, h4, _⟩
  · rw [h1]
    have : l.any p = false := by
      rw [Bool.eq_false_iff]
      intro e
      obtain ⟨x, hx, hp⟩ := List.any_eq_true.1 e
      have := List.find?_eq_none.1 h2 x hx
      contradiction
    rw [this]; decide
  · rw [h1]
    have : l.any p = true := List.any_eq_true.2 ⟨x, List.mem_of_getElem? h2, h4⟩
    rw [this, decide_eq_true_eq]; omega
end Go.Abs

namespace Go.Proofs.YtkjfhhioomnbfaaGreatDoor
open Go.Abs
set_option maxRecDepth 20000
set_option linter.unusedSimpArgs false
set_option linter.unusedVariables false
set_option maxHeartbeats 1000000
attribute [local irreducible] vc vcOps vcStep vcGuard prK hrK gK gsK brK callK ElemK SeqK BlockK ScopeK OpsK CallK LoopK LoopGo finPost ACall PCall PCallE BCall vqOps vqStep vqGuard qrK heK pcK gqK gqsK QOpsK qcallK DrawK
noncomputable def onceB (l : List ByteArray) : Bool := @decide l.Nodup (Classical.propDecidable _)
theorem onceB_yes {l : List ByteArray} (h : l.Nodup) : onceB l = true := by unfold onceB; simp [h]
theorem onceB_no {l : List ByteArray} (h : ¬ l.Nodup) : onceB l = false := by unfold onceB; simp [h]
attribute [irreducible] onceB
theorem nodup_step {l : List ByteArray} {i : Nat} {x : ByteArray} (h : (l.take i).Nodup) (hx : l[i]? = some x) (hn : x ∉ l.take i) : (l.take (i + 1)).Nodup := by
  obtain ⟨hi, rfl⟩ := List.getElem?_eq_some_iff.1 hx
  rw [List.take_succ_eq_append_getElem hi, List.nodup_append]
  refine ⟨h, by simp, fun a ha b hb e => ?_⟩
  rw [List.mem_singleton.1 hb] at e
  exact hn (e ▸ ha)
theorem nodup_bad {l : List ByteArray} {i : Nat} {x : ByteArray} (hx : l[i]? = some x) (hm : x ∈ l.take i) : ¬ l.Nodup := by
  intro h
  obtain ⟨hi, rfl⟩ := List.getElem?_eq_some_iff.1 hx
  have h' : (l.take i ++ l[i] :: l.drop (i + 1)).Nodup := by rw [← List.drop_eq_getElem_cons hi, List.take_append_drop]; exact h
  rw [List.nodup_append] at h'
  exact h'.2.2 l[i] hm l[i] List.mem_cons_self rfl
theorem nodup_all {l : List ByteArray} {i : Nat} (h : (l.take i).Nodup) (hi : l.length ≤ i) : onceB l = true := onceB_yes (by rwa [List.take_of_length_le hi] at h)
theorem mem_take {l : List ByteArray} {k i : Nat} {x y : ByteArray} (hk : l[((k : Int)).toNat]? = some y) (hlt : k < i) (e : y = x) : x ∈ l.take i := by
  rw [Int.toNat_natCast] at hk
  rw [List.mem_take_iff_getElem]
  obtain ⟨hi, he⟩ := List.getElem?_eq_some_iff.1 hk
  exact ⟨k, by omega, by rw [he, e]⟩
theorem ostep {l : List ByteArray} {i k : Nat} {x y : ByteArray} (h : ∀ x, l[i]? = some x → x ∉ l.take k) (hx : l[((i : Int)).toNat]? = some x) (hy : l[((k : Int)).toNat]? = some y) (hn : ¬ y = x) : ∀ x, l[i]? = some x → x ∉ l.take (k + 1) := by
  rw [Int.toNat_natCast] at hx hy
  intro z hz
  rw [hx] at hz
  cases hz
  exact not_step (p := True) (fun _ => h x hx) hy (fun _ => hn) trivial
theorem oend {l : List ByteArray} {i k : Nat} (hN : (l.take i).Nodup) (h : ∀ x, l[i]? = some x → x ∉ l.take k) (hk : k = i) (hi : i < l.length) : (l.take (i + 1)).Nodup := by
  subst hk
  exact nodup_step hN (List.getElem?_eq_getElem hi) (h _ (List.getElem?_eq_getElem hi))
theorem once_x (l : List ByteArray) : PCall Tryz.prog 28 [.lst 1 (l.map AV.s) none] (.b (onceB l)) := by
  refine pcall_of_vc tabOK Tryz.func28 (by kernel_rfl) rfl pureL pureI (n := 25) rfl (rs := [.tmp 2]) rfl ?_
  repeat' first
    | exact finB rfl
    | exact finI rfl
    | exact finP rfl
    | exact absurd rfl (by assumption)
    | simp only [go_sem]
    | (intro _)
    | refine brK_dec (fun _ => ?_) (fun _ => ?_)
    | refine brK_any ?_ ?_
    | refine gK_dec (fun _ => ?_) (fun _ => ?_)
    | refine gK_any ?_ ?_
    | refine gqK_dec (fun _ => ?_) (fun _ => ?_)
    | refine ⟨by omega, ?_⟩
    | refine elemHave (by omega) (by assumption) ?_
    | ((fail_if_success (clear hy)); refine elemMap (by omega) (by omega) (fun y hy => ?_))
    | refine elemMap (by omega) (by omega) (fun x hx => ?_)
    | refine drawK mo (by kernel_rfl) ?_
    | (exfalso; omega)
    | (rw [hy] at hx; cases hx)
    | (refine finBq rfl ?_; first | (rw [nodup_all hpi (by omega)]) | (rw [onceB_no]; exact nodup_bad (by simpa using hx) (mem_take hy (by omega) (by assumption))))
    | exact loopFrH _ (by omega) ⟨k + 1, by omega, rfl, ostep hpk hx hy (by assumption), rfl⟩ (.next rfl (by omega) .nil) rfl
    | (refine loop_frH [2, 4, 11, 12, 13, 14, 15, 16, 17, 18, 19, 20, 21, 22, 23, 24] (fun mm_ CC_ => ∃ (k : Nat), k ≤ i ∧ mm_ = i - k ∧ (∀ x, l[i]? = some x → x ∉ l.take k) ∧ CC_ = [(4, .raw (.int .i64 ((k : Nat) : Int)))]) (i) _ ⟨0, by omega, by omega, by simp, rfl⟩ (.cons rfl .nil) ?_; rintro mm_ CC_ jk ⟨k, hk, rfl, hpk, rfl⟩)
    | exact loopFrH _ (by omega) ⟨i + 1, by omega, rfl, oend hpi hpk (by omega) (by omega), rfl⟩ (.next rfl (by omega) .nil) rfl
    | (refine loop_frH [2, 3, 4, 5, 6, 7, 8, 9, 10, 11, 12, 13, 14, 15, 16, 17, 18, 19, 20, 21, 22, 23, 24] (fun mm_ CC_ => ∃ (i : Nat), i ≤ l.length ∧ mm_ = l.length - i ∧ ((l.take i).Nodup) ∧ CC_ = [(3, .raw (.int .i64 ((i : Nat) : Int)))]) (l.length) _ ⟨0, by omega, by omega, by simp, rfl⟩ (.cons rfl .nil) ?_; rintro mm_ CC_ ji ⟨i, hi, rfl, hpi, rfl⟩)
structure DRule where
  number : Bool
  name : Bool
  op : Bool
  least : Int
  most : Int
  arms : Int
abbrev DRule.enc (r : DRule) : AV := .agg [.b r.number, .b r.name, .b r.op, .i r.least, .i r.most, .i r.arms]
theorem DRule.pure (r : DRule) : Go.Abs.Pure r.enc := .agg _ (pure_cons (.raw _) (pure_cons (.raw _) (pure_cons (.raw _) (pure_cons (.raw _) (pure_cons (.raw _) (pure_cons (.raw _) pure_nil))))))
abbrev ruleA (p : DRule × Bool) : AV := .tup [p.1.enc, .b p.2]
theorem pure_ruleA (p : DRule × Bool) : Go.Abs.Pure (ruleA p) := .tup _ (pure_cons (DRule.pure _) (pure_cons (.raw _) pure_nil))
theorem finRule {T : TypeId → TI} {rs : List ResultVar} {s : List AV} {h : List Blk} {p : DRule} {x y z : Bool} {a b c : Int} (hr : resAV T s h rs = some [.agg [.b x, .b y, .b z, .i a, .i b, .i c]]) (hp : p = ⟨x, y, z, a, b, c⟩) : Go.Abs.Fin T rs p.enc s h := by
  subst hp
  exact ⟨_, hr, false, .refl _⟩
theorem finRule2 {T : TypeId → TI} {rs : List ResultVar} {s : List AV} {h : List Blk} {p : DRule × Bool} {x y z ok : Bool} {a b c : Int} (hr : resAV T s h rs = some [.agg [.b x, .b y, .b z, .i a, .i b, .i c], .b ok]) (hp : p = (⟨x, y, z, a, b, c⟩, ok)) : Go.Abs.Fin T rs (ruleA p) s h := by
  subst hp
  exact ⟨_, hr, false, .refl _⟩
def k0 : List Ex → Int
  | [] => 0
  | x :: _ => x.kind
def litE (e : Ex) : Bool := if e.kind = 5 then decide (e.op = 1) && decide (e.subs.length = 1) && decide (k0 e.subs = 1) else decide (e.kind = 1 ∨ e.kind = 2 ∨ e.kind = 4)
def constE (e : Ex) : Bool := if e.kind = 14 then e.subs.all litE else litE e
abbrev tTrue : ByteArray := ⟨#[116, 114, 117, 101]⟩
abbrev tFalse : ByteArray := ⟨#[102, 97, 108, 115, 101]⟩
def armE (s : ByteArray) : Bool := highF s || decide (s = tTrue) || decide (s = tFalse)
def nothingE (e : Ex) (n : Int) : DRule := ⟨decide (e.n = 0), decide (e.name = ⟨#[]⟩), decide (e.op = 0), n, n, 0⟩
def leafE (e : Ex) : DRule :=
  if e.kind = 1 then { nothingE e 0 with number := decide (e.n ≥ 0) }
  else if e.kind = 2 then { nothingE e 0 with number := decide (e.n = 0 ∨ e.n = 1) }
  else if e.kind = 3 then { nothingE e 0 with name := lowF e.name }
  else if e.kind = 4 then { nothingE e 0 with name := highF e.name }
  else if e.kind = 17 then { nothingE e 0 with name := pathF e.name }
  else nothingE e 0
def ofE (e : Ex) : DRule × Bool :=
  if e.kind = 1 ∨ e.kind = 2 ∨ e.kind = 3 ∨ e.kind = 4 ∨ e.kind = 17 then (leafE e, true)
  else if e.kind = 5 then ({ nothingE e 1 with op := decide (e.op = 1 ∨ e.op = 2) }, true)
  else if e.kind = 6 then ({ nothingE e 2 with op := decide (3 ≤ e.op ∧ e.op ≤ 16) }, true)
  else if e.kind = 7 ∨ e.kind = 16 then (nothingE e 3, true)
  else if e.kind = 8 ∨ e.kind = 9 ∨ e.kind = 15 then (nothingE e 2, true)
  else if e.kind = 10 then (nothingE e 1, true)
  else if e.kind = 11 then ({ nothingE e 1 with name := lowF e.name, arms := 1 }, true)
  else if e.kind = 12 then ({ nothingE e e.arms.length with name := lowF e.name, arms := 6 }, true)
  else if e.kind = 13 then (⟨decide (e.n = 0 ∨ e.n = 1), lowF e.name, decide (e.op = 0), e.n, if e.n = 0 then 6 else 7, 0⟩, true)
  else if e.kind = 14 then ({ nothingE e 1 with most := 8 }, true)
  else (⟨false, false, false, 0, 0, 0⟩, false)
noncomputable def partP (e : Ex) : Bool :=
  (ofE e).2 && (ofE e).1.number && (ofE e).1.name && (ofE e).1.op && decide ((ofE e).1.least ≤ e.subs.length) && decide ((e.subs.length : Int) ≤ (ofE e).1.most) && decide ((e.arms.length : Int) ≤ (ofE e).1.arms) && !(decide ((ofE e).1.arms > 0) && decide (e.arms.length = 0))
    && onceB e.arms && e.arms.all armE && (decide (¬ e.kind = 8) || constE (e.subs.headD e))
def numbersE (e : Ex) : Bool := (if e.kind = 5 then decide (1 ≤ e.op ∧ e.op ≤ 2) else if e.kind = 6 then decide (3 ≤ e.op ∧ e.op ≤ 16) else decide (e.op = 0)) && (if e.kind = 1 then decide (0 ≤ e.n) else if e.kind = 2 ∨ e.kind = 13 then decide (e.n = 0 ∨ e.n = 1) else decide (e.n = 0))
def namedE (e : Ex) : Bool := if e.kind = 3 ∨ e.kind = 11 ∨ e.kind = 12 ∨ e.kind = 13 then lowF e.name else if e.kind = 4 then highF e.name else if e.kind = 17 then pathF e.name else decide (e.name = ⟨#[]⟩)
noncomputable def armsE (e : Ex) : Bool := e.arms.all armE && (if e.kind = 11 then decide (e.arms.length = 1) else if e.kind = 12 then decide (1 ≤ e.arms.length ∧ e.arms.length ≤ 6) && onceB e.arms else decide (e.arms.length = 0))
def subsE (e : Ex) : Int × Int :=
  if e.kind = 5 ∨ e.kind = 10 ∨ e.kind = 11 then (1, 1) else if e.kind = 6 ∨ e.kind = 8 ∨ e.kind = 9 ∨ e.kind = 15 then (2, 2) else if e.kind = 7 ∨ e.kind = 16 then (3, 3)
  else if e.kind = 12 then (e.arms.length, e.arms.length) else if e.kind = 13 then (e.n, 6 + e.n) else if e.kind = 14 then (1, 8) else (0, 0)
noncomputable def partE (e : Ex) : Bool := decide (1 ≤ e.kind ∧ e.kind ≤ 17) && numbersE e && namedE e && armsE e && decide ((subsE e).1 ≤ e.subs.length) && decide ((e.subs.length : Int) ≤ (subsE e).2) && (decide (¬ e.kind = 8) || constE (e.subs.headD e))
theorem once0 {l : List ByteArray} (h : l.length = 0) : onceB l = true := onceB_yes (by rw [List.length_eq_zero_iff.1 h]; exact List.nodup_nil)
theorem once1 {l : List ByteArray} (h : l.length = 1) : onceB l = true := by
  match l, h with
  | [x], _ => exact onceB_yes (by simp)
mutual
def depthE : Ex → Nat
  | .mk _ _ _ _ _ s => depthL s + 1
def depthL : List Ex → Nat
  | [] => 0
  | x :: xs => max (depthE x) (depthL xs)
end
theorem depthE_eq (e : Ex) : depthE e = depthL e.subs + 1 := by cases e; simp [depthE, Ex.subs]
theorem depthL_append (l m : List Ex) : depthL (l ++ m) = max (depthL l) (depthL m) := by
  induction l with
  | nil => simp [depthL]
  | cons x l ih => simp only [List.cons_append, depthL, ih]; omega
theorem depthL_take {l : List Ex} {k : Nat} {x : Ex} (hx : l[k]? = some x) : depthL (l.take (k + 1)) = max (depthL (l.take k)) (depthE x) := by
  obtain ⟨hk, rfl⟩ := List.getElem?_eq_some_iff.1 hx
  rw [List.take_succ_eq_append_getElem hk, depthL_append]
  simp [depthL]
mutual
theorem depth_le : ∀ (e : Ex), depthE e ≤ (parts e).length
  | .mk _ _ _ _ _ s => by
    have := depthL_le s
    simp only [depthE, parts, List.length_cons]; omega
theorem depthL_le : ∀ (l : List Ex), depthL l ≤ (partsL l).length
  | [] => by simp [depthL]
  | x :: xs => by
    have h1 := depth_le x
    have h2 := depthL_le xs
    simp only [depthL, partsL, List.length_append]; omega
end
noncomputable def rightE (e : Ex) : Bool := decide ((parts e).length ≤ 60) && decide (depthE e ≤ 12) && (parts e).all partE
set_option maxHeartbeats 4000000 in
theorem part_same (e : Ex) : partP e = partE e := by
  unfold partP partE
  by_cases h : 1 ≤ e.kind ∧ e.kind ≤ 17
  · have : e.kind = 1 ∨ e.kind = 2 ∨ e.kind = 3 ∨ e.kind = 4 ∨ e.kind = 5 ∨ e.kind = 6 ∨ e.kind = 7 ∨ e.kind = 8 ∨ e.kind = 9 ∨ e.kind = 10 ∨ e.kind = 11 ∨ e.kind = 12 ∨ e.kind = 13 ∨ e.kind = 14 ∨ e.kind = 15 ∨ e.kind = 16 ∨ e.kind = 17 := by omega
    rcases this with h | h | h | h | h | h | h | h | h | h | h | h | h | h | h | h | h
    all_goals
      rw [Bool.eq_iff_iff]
      simp only [ofE, leafE, nothingE, numbersE, namedE, armsE, subsE, h]
      have o0 := @once0 e.arms
      have o1 := @once1 e.arms
      simp
      first | (done) | (constructor <;> (intro hh; simp_all <;> omega)) | skip
    · intro hc
      rw [← List.length_eq_zero_iff]
      constructor
      · rintro ⟨⟨⟨⟨⟨⟨⟨a, b⟩, c⟩, d⟩, f⟩, g⟩, _⟩, j⟩
        exact ⟨⟨⟨⟨⟨c, a⟩, b⟩, j, g⟩, d⟩, f⟩
      · rintro ⟨⟨⟨⟨⟨c, a⟩, b⟩, j, g⟩, d⟩, f⟩
        exact ⟨⟨⟨⟨⟨⟨⟨a, b⟩, c⟩, d⟩, f⟩, g⟩, o0 g⟩, j⟩
    · rw [← List.length_eq_zero_iff]
      constructor
      · rintro ⟨⟨⟨⟨⟨⟨⟨⟨a, b⟩, c⟩, d⟩, f⟩, g⟩, g2⟩, _⟩, j⟩
        exact ⟨⟨⟨⟨⟨c, a⟩, b⟩, j, by omega⟩, d⟩, f⟩
      · rintro ⟨⟨⟨⟨⟨c, a⟩, b⟩, j, g⟩, d⟩, f⟩
        exact ⟨⟨⟨⟨⟨⟨⟨⟨a, b⟩, c⟩, d⟩, f⟩, by omega⟩, by omega⟩, o1 g⟩, j⟩
    · rw [← List.length_eq_zero_iff]
      constructor
      · rintro ⟨⟨⟨⟨⟨⟨⟨⟨a, b⟩, c⟩, d⟩, f⟩, g⟩, g2⟩, i⟩, j⟩
        exact ⟨⟨⟨⟨⟨c, a⟩, b⟩, j, ⟨by omega, by omega⟩, i⟩, d⟩, f⟩
      · rintro ⟨⟨⟨⟨⟨c, a⟩, b⟩, j, ⟨g1, g2⟩, i⟩, d⟩, f⟩
        exact ⟨⟨⟨⟨⟨⟨⟨⟨a, b⟩, c⟩, d⟩, f⟩, by omega⟩, by omega⟩, i⟩, j⟩
  · have h2 : (ofE e).2 = false := by
      unfold ofE
      repeat' (first | rw [if_neg (by omega)] | rfl)
    rw [h2, decide_eq_false h]
    simp
theorem k0_at {l : List Ex} {x : Ex} (hx : l[((0 : Int)).toNat]? = some x) : k0 l = x.kind := by
  match l with
  | y :: l => simp at hx; rw [hx]; rfl
theorem head_at {l : List Ex} {x z : Ex} (hx : l[((0 : Int)).toNat]? = some x) : l.headD z = x := by
  match l with
  | y :: l => simp at hx; rw [hx]; rfl
theorem sub_small {e x : Ex} (hx : x ∈ e.subs) (h : (parts e).length ≤ 100000) : (parts x).length ≤ 100000 := by
  obtain ⟨i, hi, rfl⟩ := List.getElem_of_mem hx
  have := parts_le hi
  rw [parts_eq e] at h
  simp at h
  omega
theorem max_step {l : List Ex} {i : Nat} {x : Ex} (hx : l[i]? = some x) : (if ((depthE x : Nat) : Int) > ((depthL (l.take i) : Nat) : Int) then ((depthE x : Nat) : Int) else ((depthL (l.take i) : Nat) : Int)) = ((depthL (l.take (i + 1)) : Nat) : Int) := by
  rw [depthL_take hx]
  split <;> omega
theorem parts_len {e : Ex} {i : Nat} {x : Ex} (hx : e.subs[i]? = some x) : (partsL (e.subs.take (i + 1))).length = (partsL (e.subs.take i)).length + (parts x).length := by
  obtain ⟨hi, rfl⟩ := List.getElem?_eq_some_iff.1 hx
  rw [partsL_take hi, List.length_append]
abbrev exBx (e : Ex) : Blk := .cells 47 [.i e.kind, .i e.n, .s e.name, .i e.op, .lst 1 (e.arms.map AV.s) none, .lst 6 (e.subs.map Ex.enc) none]
theorem small14 (c : Int) : PCall Tryz.prog 93 [.raw (.int .i32 c)] (.b (inB 97 122 c)) := by
  refine pcall_of_vc tabOK Tryz.func93 (by kernel_rfl) rfl pureL pureI (n := 9) rfl (rs := [.tmp 2]) rfl ?_
  repeat' first
    | exact finB rfl
    | exact finI rfl
    | exact finP rfl
    | exact absurd rfl (by assumption)
    | simp only [go_sem]
    | (intro _)
    | refine brK_dec (fun _ => ?_) (fun _ => ?_)
    | refine brK_any ?_ ?_
    | refine gK_dec (fun _ => ?_) (fun _ => ?_)
    | refine gK_any ?_ ?_
    | refine gqK_dec (fun _ => ?_) (fun _ => ?_)
    | refine ⟨by omega, ?_⟩
    | refine elemHave (by omega) (by assumption) ?_
    | refine elemMap (by omega) (by omega) (fun x hx => ?_)
    | refine drawK mo (by kernel_rfl) ?_
    | (refine finBq rfl ?_; unfold inB; simp; omega)
theorem great16 (c : Int) : PCall Tryz.prog 96 [.raw (.int .i32 c)] (.b (inB 65 90 c)) := by
  refine pcall_of_vc tabOK Tryz.func96 (by kernel_rfl) rfl pureL pureI (n := 9) rfl (rs := [.tmp 2]) rfl ?_
  repeat' first
    | exact finB rfl
    | exact finI rfl
    | exact finP rfl
    | exact absurd rfl (by assumption)
    | simp only [go_sem]
    | (intro _)
    | refine brK_dec (fun _ => ?_) (fun _ => ?_)
    | refine brK_any ?_ ?_
    | refine gK_dec (fun _ => ?_) (fun _ => ?_)
    | refine gK_any ?_ ?_
    | refine gqK_dec (fun _ => ?_) (fun _ => ?_)
    | refine ⟨by omega, ?_⟩
    | refine elemHave (by omega) (by assumption) ?_
    | refine elemMap (by omega) (by omega) (fun x hx => ?_)
    | refine drawK mo (by kernel_rfl) ?_
    | (refine finBq rfl ?_; unfold inB; simp; omega)
theorem digit20 (c : Int) : PCall Tryz.prog 125 [.raw (.int .i32 c)] (.b (inB 48 57 c)) := by
  refine pcall_of_vc tabOK Tryz.func125 (by kernel_rfl) rfl pureL pureI (n := 9) rfl (rs := [.tmp 2]) rfl ?_
  repeat' first
    | exact finB rfl
    | exact finI rfl
    | exact finP rfl
    | exact absurd rfl (by assumption)
    | simp only [go_sem]
    | (intro _)
    | refine brK_dec (fun _ => ?_) (fun _ => ?_)
    | refine brK_any ?_ ?_
    | refine gK_dec (fun _ => ?_) (fun _ => ?_)
    | refine gK_any ?_ ?_
    | refine gqK_dec (fun _ => ?_) (fun _ => ?_)
    | refine ⟨by omega, ?_⟩
    | refine elemHave (by omega) (by assumption) ?_
    | refine elemMap (by omega) (by omega) (fun x hx => ?_)
    | refine drawK mo (by kernel_rfl) ?_
    | (refine finBq rfl ?_; unfold inB; simp; omega)

theorem inB_hi {a b c : Int} (hb : b < 128) (hc : 128 ≤ c) : inB a b c = false := by unfold inB; simp; omega
theorem nameG_all {F : Int → Bool} {t : ByteArray} (h : (bts t).all (fun c => okB c.toNat) = false) : nameG F t = false := by unfold nameG; rw [h]; simp
theorem nameG_first {F : Int → Bool} {t : ByteArray} (h : firstB F (bts t) = false) : nameG F t = false := by unfold nameG; rw [h]; simp
theorem firstB_at {F : Int → Bool} {t : ByteArray} {p : Nat} {c : UInt8} (hc : (bts t)[p]? = some c) (hp : (p : Int) = 0) : firstB F (bts t) = F c.toNat := by
  have : p = 0 := by omega
  subst this
  obtain ⟨l, hl⟩ := bts_cons hc
  rw [hl]; rfl
theorem okB_hi {c : Nat} (h : ¬ c < 128) : okB c = false := by unfold okB inB; simp; omega


theorem name13 (t : ByteArray) (g : Nat) (F : Int → Bool) (hg : ∀ c : Int, PCall Tryz.prog g [.raw (.int .i32 c)] (.b (F c))) : PCall Tryz.prog 92 [.s t, .fn (.func g) [] []] (.b (nameG F t)) := by
  refine pcall_of_vc tabOK Tryz.func92 (by kernel_rfl) rfl (pure_cons (.raw _) (pure_cons (.fn _ _ _ pure_nil pure_nil) pure_nil)) (.raw _) (n := 48) rfl (rs := [.tmp 4]) rfl ?_
  simp only [go_sem]
  refine loop_fr [4, 5, 6, 9, 10, 11, 12, 13, 14, 15, 16, 17, 18, 19, 20, 21, 22, 23, 24, 25, 26, 27, 28, 29, 30, 31, 32, 33, 34, 35, 36, 37, 38, 39] (fun m C hh => ∃ p : Nat, p ≤ t.size ∧ m = t.size - p ∧ (∀ c ∈ (bts t).take p, okB c.toNat = true) ∧ (0 < p → firstB F (bts t) = true) ∧ C = [] ∧ hh = [.it t p]) t.size _ ⟨0, by omega, by omega, by simp, by omega, rfl, rfl⟩ .nil ?_
  rintro m C j hh ⟨p, hp, rfl, hpi, hf, rfl, rfl⟩
  rcases Nat.lt_or_ge p t.size with hlt | hge
  · obtain ⟨c, hcc⟩ := bts_at hlt
    have hd : decide (p < t.size) = true := decide_eq_true hlt
    by_cases hlo : c.toNat < 128
    · simp only [go_sem, hd, decode_lo hcc hlo]
      repeat' first
        | (exfalso; omega)
        | simp only [go_sem]
        | refine brK_dec (fun _ => ?_) (fun _ => ?_)
        | refine gK_dec (fun _ => ?_) (fun _ => ?_)
        | (refine PCall.call (hg _) ?_; generalize hF : F (c.toNat : Nat) = q; cases q)
        | (refine PCall.call (small14 _) ?_; generalize hs : inB 97 122 (c.toNat : Nat) = q; cases q)
        | (refine PCall.call (great16 _) ?_; generalize hgr : inB 65 90 (c.toNat : Nat) = q; cases q)
        | (refine PCall.call (digit20 _) ?_; generalize hdi : inB 48 57 (c.toNat : Nat) = q; cases q)
        | (refine finBq rfl ?_; first
            | (have hp0 : (p : Int) = 0 := (by assumption); have hno : firstB F (bts t) = false := (by rw [firstB_at hcc hp0]; assumption); rw [nameG_first hno])
            | (have hno : okB c.toNat = false := (by simp [okB, *]; done); rw [nameG_all (all_no (p := fun c => okB c.toNat) hcc hno)]))
        | exact loopFr _ (by omega) ⟨p + 1, by omega, rfl, take_all hpi hcc (by simp [okB, *] <;> omega), fun _ => by first | exact hf (by omega) | (rw [firstB_at hcc (by assumption)]; assumption), rfl, rfl⟩ .nil rfl
    · have hhi := decode_hi hcc (by omega)
      simp only [go_sem, hd]
      generalize Utf8.decode t p = r at hhi ⊢
      obtain ⟨r, wd⟩ := r
      dsimp only at hhi
      have h1 : inB 97 122 (r : Int) = false := inB_hi (by omega) (by omega)
      have h2 : inB 65 90 (r : Int) = false := inB_hi (by omega) (by omega)
      have h3 : inB 48 57 (r : Int) = false := inB_hi (by omega) (by omega)
      repeat' first
        | (exfalso; omega)
        | simp only [go_sem]
        | refine brK_dec (fun _ => ?_) (fun _ => ?_)
        | refine gK_dec (fun _ => ?_) (fun _ => ?_)
        | (refine PCall.call (hg _) ?_; generalize hF : F (r : Nat) = q; cases q)
        | (refine PCall.call (small14 _) ?_; rw [h1])
        | (refine PCall.call (great16 _) ?_; rw [h2])
        | (refine PCall.call (digit20 _) ?_; rw [h3])
        | (refine finBq rfl ?_; rw [nameG_all (all_no (p := fun c => okB c.toNat) hcc (okB_hi hlo))])
  · have hd : decide (p < t.size) = false := decide_eq_false (by omega)
    simp only [go_sem, hd]
    have hall := all_yes (p := fun c => okB c.toNat) hpi hge
    repeat' first
      | (exfalso; omega)
      | simp only [go_sem]
      | refine brK_dec (fun _ => ?_) (fun _ => ?_)
      | refine gK_dec (fun _ => ?_) (fun _ => ?_)
      | (refine finBq rfl ?_; unfold nameG; rw [hall]; first | (have h0 : 0 < p := (by omega); have h1 : 1 ≤ t.size := (by omega); rw [hf h0, decide_eq_true h1]; by_cases q : t.size ≤ 12 <;> simp [q] <;> omega) | (have h1 : ¬ 1 ≤ t.size := (by omega); simp [h1]; done))

theorem word10 (t : ByteArray) : PCall Tryz.prog 94 [.s t] (.b (wordF t)) := by
  refine pcall_of_vc tabOK Tryz.func94 (by kernel_rfl) rfl pureL pureI (n := 30) rfl (rs := [.tmp 2]) rfl ?_
  unfold wordF words
  repeat' first
    | exact finB rfl
    | exact finI rfl
    | exact finP rfl
    | exact absurd rfl (by assumption)
    | simp only [go_sem]
    | (intro _)
    | refine brK_dec (fun _ => ?_) (fun _ => ?_)
    | refine brK_any ?_ ?_
    | refine gK_dec (fun _ => ?_) (fun _ => ?_)
    | refine gK_any ?_ ?_
    | refine gqK_dec (fun _ => ?_) (fun _ => ?_)
    | refine ⟨by omega, ?_⟩
    | refine elemHave (by omega) (by assumption) ?_
    | refine elemMap (by omega) (by omega) (fun x hx => ?_)
    | refine drawK mo (by kernel_rfl) ?_
    | (refine finBq rfl ?_; simp [*]; done)
theorem low6 (t : ByteArray) : PCall Tryz.prog 66 [.s t] (.b (lowF t)) := by
  refine pcall_of_vc tabOK Tryz.func66 (by kernel_rfl) rfl pureL pureI (n := 10) rfl (rs := [.tmp 2]) rfl ?_
  unfold lowF
  repeat' first
    | exact finB rfl
    | exact finI rfl
    | exact finP rfl
    | exact absurd rfl (by assumption)
    | simp only [go_sem]
    | (intro _)
    | refine brK_dec (fun _ => ?_) (fun _ => ?_)
    | refine brK_any ?_ ?_
    | refine gK_dec (fun _ => ?_) (fun _ => ?_)
    | refine gK_any ?_ ?_
    | refine gqK_dec (fun _ => ?_) (fun _ => ?_)
    | refine ⟨by omega, ?_⟩
    | refine elemHave (by omega) (by assumption) ?_
    | refine elemMap (by omega) (by omega) (fun x hx => ?_)
    | refine drawK mo (by kernel_rfl) ?_
    | (refine PCall.call (name13 _ _ _ small14) ?_; generalize nameG (inB 97 122) t = q; cases q)
    | (refine PCall.call (word10 _) ?_)
    | (exact finBq rfl (by simp))
theorem high8 (t : ByteArray) : PCall Tryz.prog 68 [.s t] (.b (highF t)) := by
  refine pcall_of_vc tabOK Tryz.func68 (by kernel_rfl) rfl pureL pureI (n := 5) rfl (rs := [.tmp 2]) rfl ?_
  unfold highF
  repeat' first
    | exact finB rfl
    | exact finI rfl
    | exact finP rfl
    | exact absurd rfl (by assumption)
    | simp only [go_sem]
    | (intro _)
    | refine brK_dec (fun _ => ?_) (fun _ => ?_)
    | refine brK_any ?_ ?_
    | refine gK_dec (fun _ => ?_) (fun _ => ?_)
    | refine gK_any ?_ ?_
    | refine gqK_dec (fun _ => ?_) (fun _ => ?_)
    | refine ⟨by omega, ?_⟩
    | refine elemHave (by omega) (by assumption) ?_
    | refine elemMap (by omega) (by omega) (fun x hx => ?_)
    | refine drawK mo (by kernel_rfl) ?_
    | (refine PCall.call (name13 _ _ _ great16) ?_)
    | (exact finBq rfl (by simp))
def layS_ren : Go.Shelf.Ren := ⟨fun | 217 => 177 | 266 => 181 | 138 => 169 | 143 => 170 | 195 => 172 | 218 => 174 | 219 => 175 | 224 => 179 | 225 => 178 | 267 => 180 | 314 => 182 | n => n,
  fun | 3 => 3 | 4 => 4 | 5 => 5 | 9 => 9 | 46 => 160 | 51 => 157 | 0 => 0 | 146 => 181 | n => n, fun | 1 => 0 | n => n⟩
theorem layS_g1 : Tryz.prog.globals.findIdx? (·.name == "internal/bytealg.MaxLen") = some 0 := by kernel_rfl
theorem layS : Go.Proofs.Lays.n138 Tryz.prog layS_ren := {
  mixed := by kernel_rfl
  f138 := Tryz.func169.trans (congrArg some (by kernel_rfl))
  f143 := Tryz.func170.trans (congrArg some (by kernel_rfl))
  f195 := Tryz.func172.trans (congrArg some (by kernel_rfl))
  f217 := Tryz.func177.trans (congrArg some (by kernel_rfl))
  f218 := Tryz.func174.trans (congrArg some (by kernel_rfl))
  f219 := Tryz.func175.trans (congrArg some (by kernel_rfl))
  f224 := Tryz.func179.trans (congrArg some (by kernel_rfl))
  f225 := Tryz.func178.trans (congrArg some (by kernel_rfl))
  f266 := Tryz.func181.trans (congrArg some (by kernel_rfl))
  f267 := Tryz.func180.trans (congrArg some (by kernel_rfl))
  f314 := Tryz.func182.trans (congrArg some (by kernel_rfl))
  t0 := Tryz.underlying0
  a0 := Tryz.isAgg0
  z0 := Tryz.sizeOf0
  v0 := Tryz.zeroValue0
  t3 := Tryz.underlying3
  a3 := Tryz.isAgg3
  z3 := Tryz.sizeOf3
  v3 := Tryz.zeroValue3
  t4 := Tryz.underlying4
  a4 := Tryz.isAgg4
  z4 := Tryz.sizeOf4
  v4 := Tryz.zeroValue4
  t5 := Tryz.underlying5
  a5 := Tryz.isAgg5
  z5 := Tryz.sizeOf5
  v5 := Tryz.zeroValue5
  t9 := Tryz.underlying9
  a9 := Tryz.isAgg9
  z9 := Tryz.sizeOf9
  v9 := Tryz.zeroValue9
  t46 := Tryz.underlying160
  a46 := Tryz.isAgg160
  z46 := Tryz.sizeOf160
  v46 := Tryz.zeroValue160
  t51 := Tryz.underlying157
  a51 := Tryz.isAgg157
  z51 := Tryz.sizeOf157
  v51 := Tryz.zeroValue157
  t146 := Tryz.underlying181
  a146 := Tryz.isAgg181
  z146 := Tryz.sizeOf181
  v146 := Tryz.zeroValue181
  g1 := layS_g1 }
theorem moL : Tryz.prog.follows .mixedOrders = true := by kernel_rfl


theorem idxByte34 (t : ByteArray) (c : UInt8) : PCall Tryz.prog 177 [.s t, .raw (.int .u8 c.toNat)] (.i (Lib.indexByte (bts t) c)) :=
  pcall_raw (vals := [.string t, .int .u8 c.toNat]) (fun vs w => run_callFunc Tryz.func177 (by kernel_rfl) rfl vs w) fun w => by
    have := Go.Proofs.Any.stringslite_IndexByte (ρ := layS_ren) { layS with } t (c.toNat : Nat) w
    rw [show ((c.toNat : Nat) : Int).toNat.toUInt8 = c by simp] at this
    exact this
theorem count26 (t : ByteArray) (c : UInt8) : PCall Tryz.prog 169 [.s t, .s ⟨#[c]⟩] (.i ((bts t).count c : Nat)) :=
  pcall_raw (vals := [.string t, .string ⟨#[c]⟩]) (fun vs w => run_callFunc Tryz.func169 (by kernel_rfl) rfl vs w) fun w => Go.Proofs.Any.strings_Count_one (ρ := layS_ren) layS t c w

theorem one_ne (c : UInt8) : ¬ (⟨#[c]⟩ : ByteArray) = ⟨#[]⟩ := fun e => by
  have := congrArg ByteArray.size e
  rw [show (⟨#[c]⟩ : ByteArray).size = 1 from rfl] at this
  exact absurd this (by decide)
theorem one_size (c : UInt8) : (⟨#[c]⟩ : ByteArray).size = 1 := rfl
theorem one_at (c : UInt8) : (⟨#[c]⟩ : ByteArray).data.toList.getD 0 0 = c := rfl
theorem idx_one {t : ByteArray} {c : UInt8} (h : (⟨#[c]⟩ : ByteArray) = t) : Lib.indexByte (bts t) c = 0 := by subst h; simp [bts, Lib.indexByte]
theorem idx32 (t : ByteArray) (c : UInt8) : PCall Tryz.prog 175 [.s t, .s ⟨#[c]⟩] (.i (Lib.indexByte (bts t) c)) := by
  refine pcall_of_vc tabOK Tryz.func175 (by kernel_rfl) rfl pureL pureI (n := 143) rfl (rs := [.tmp 4]) rfl ?_
  repeat' first
    | (exfalso; omega)
    | simp only [go_sem, one_size, one_at]
    | (intro _)
    | refine ⟨by omega, ?_⟩
    | refine brK_dec (fun _ => ?_) (fun _ => ?_)
    | refine gK_dec (fun _ => ?_) (fun _ => ?_)
    | refine drawK moL (by kernel_rfl) ?_
    | (refine PCall.call (idxByte34 _ _) ?_)
    | exact finP rfl
    | (rw [idx_one (by assumption)]; exact finP rfl)

theorem index27 (t : ByteArray) (c : UInt8) : PCall Tryz.prog 170 [.s t, .s ⟨#[c]⟩] (.i (Lib.indexByte (bts t) c)) := by
  refine pcall_of_vc tabOK Tryz.func170 (by kernel_rfl) rfl pureL pureI (n := 8) rfl (rs := [.tmp 4]) rfl ?_
  simp only [go_sem]
  refine PCall.call (idx32 _ _) ?_
  simp only [go_sem]
  exact finP rfl

abbrev cutA (t : ByteArray) (c : UInt8) : AV := .tup [.s (if c ∈ bts t then t.extract 0 (Lib.indexByte (bts t) c).toNat else t), .s (if c ∈ bts t then t.extract ((Lib.indexByte (bts t) c).toNat + 1) t.size else ⟨#[]⟩), .b (decide (c ∈ bts t))]
theorem pure_cutA (t : ByteArray) (c : UInt8) : Go.Abs.Pure (cutA t c) := .tup _ (pure_cons (.raw _) (pure_cons (.raw _) (pure_cons (.raw _) pure_nil)))

theorem cut28 (t : ByteArray) (c : UInt8) (ht : t.size ≤ 1000000000) : PCall Tryz.prog 171 [.s t, .s ⟨#[c]⟩] (cutA t c) := by
  refine pcall_of_vc tabOK Tryz.func171 (by kernel_rfl) rfl (by first | exact pureL | exact pureI) (pure_cutA _ _) (n := 23) rfl (rs := [.tmp 4, .tmp 5, .tmp 6]) rfl ?_
  simp only [go_sem]
  refine PCall.call (idx32 _ _) ?_
  by_cases hc : c ∈ bts t
  · obtain ⟨m, h1, h2, h3, h4⟩ := idx_at hc
    have hm : m < t.size := by rw [← bts_len]; exact h2
    unfold cutA
    rw [if_pos hc, if_pos hc, decide_eq_true hc, h1, Int.toNat_natCast]
    have hw : IntKind.i64.wrap ((m : Int) + ((1 : Nat) : Int)) = ((m + 1 : Nat) : Int) := by rw [wrap_in _ (by omega) (by omega)]; omega
    repeat' first
      | (exfalso; omega)
      | simp only [go_sem, one_size, hw, Int.toNat_natCast]
      | (intro _)
      | refine ⟨by omega, ?_⟩
      | refine brK_dec (fun _ => ?_) (fun _ => ?_)
      | refine drawK moL (by kernel_rfl) ?_
      | exact ⟨_, rfl, false, .refl _⟩
      | (refine ⟨by simp only [hw]; omega, ?_⟩; simp only [hw, Int.toNat_natCast])
  · unfold cutA
    rw [if_neg hc, if_neg hc, decide_eq_false hc, idx_no hc]
    repeat' first
      | (exfalso; omega)
      | simp only [go_sem]
      | (exact absurd ‹_› (by decide))
      | refine brK_dec (fun _ => ?_) (fun _ => ?_)
      | exact ⟨_, rfl, false, .refl _⟩

theorem cut23 (t : ByteArray) (c : UInt8) (ht : t.size ≤ 1000000000) : PCall Tryz.prog 166 [.s t, .s ⟨#[c]⟩] (cutA t c) := by
  refine pcall_of_vc tabOK Tryz.func166 (by kernel_rfl) rfl (by first | exact pureL | exact pureI) (pure_cutA _ _) (n := 13) rfl (rs := [.tmp 4, .tmp 5, .tmp 6]) rfl ?_
  simp only [go_sem]
  refine PCall.call (cut28 _ _ ht) ?_
  simp only [go_sem]
  exact ⟨_, rfl, false, .refl _⟩
theorem take_set {X : List AV} {i : Nat} {v : AV} (h : i < X.length) : (X.set i v).take (i + 1) = X.take i ++ [v] := by
  rw [List.take_succ_eq_append_getElem (by simpa using h), List.take_set_of_le (Nat.le_refl _)]
  simp
theorem one_set {X : List AV} {i : Nat} {v : AV} (h : X.all AV.one = true) (hv : v.one = true) : (X.set i v).all AV.one = true := by
  rw [List.all_eq_true] at h ⊢
  intro x hx
  rcases List.mem_or_eq_of_mem_set hx with q | q
  · exact h x q
  · rw [q]; exact hv

theorem split22 (t : ByteArray) (c : UInt8) (ht : t.size ≤ 1000000) : PCall Tryz.prog 165 [.s t, .s ⟨#[c]⟩, .i 0, .i (-1)] (.lst 1 ((pieces c t).map AV.s) none) := by
  refine pcall_of_vc tabOK Tryz.func165 (by kernel_rfl) rfl (by first | exact pureL | exact pureI) (pure_strs _) (n := 66) rfl (rs := [.tmp 8]) rfl ?_
  generalize hN : (bts t).count c = N
  have hNs : N ≤ t.size := by rw [← hN, ← bts_len]; exact List.count_le_length
  have hw1 : IntKind.i64.wrap ((N : Int) + 1) = ((N + 1 : Nat) : Int) := by rw [wrap_in _ (by omega) (by omega)]; omega
  have hw2 : IntKind.i64.wrap ((t.size : Int) + 1) = ((t.size + 1 : Nat) : Int) := by rw [wrap_in _ (by omega) (by omega)]; omega
  have hmin : (if ((t.size + 1 : Nat) : Int) < ((N + 1 : Nat) : Int) then ((t.size + 1 : Nat) : Int) else ((N + 1 : Nat) : Int)) = ((N + 1 : Nat) : Int) := if_neg (by omega)
  have hw3 : IntKind.i64.wrap (((N + 1 : Nat) : Int) - 1) = ((N : Nat) : Int) := by rw [wrap_in _ (by omega) (by omega)]; omega
  simp only [go_sem]
  refine brK_dec (fun h => absurd h (one_ne c)) (fun _ => ?_)
  simp only [go_sem]
  refine PCall.call (count26 t c) ?_
  rw [hN]
  simp only [go_sem, hw1, hw2, hmin, hw3, Int.toNat_natCast]
  refine ⟨by omega, ?_⟩
  refine loop_fr [0, 10, 11, 34, 35, 36, 37, 38, 39, 40, 41, 42, 43, 44, 45, 46, 47, 48, 49, 50, 51, 52, 53, 54, 55, 56, 57] (fun m C hh => ∃ (i : Nat) (s : ByteArray) (D : List ByteArray) (X : List AV), D.length = i ∧ D ++ pieces c s = pieces c t ∧ i + (bts s).count c = N ∧ s.size ≤ t.size ∧ X.length = N + 1 ∧ X.take i = D.map AV.s ∧ X.all AV.one = true ∧ m = N - i ∧ C = [(10, .raw (.int .i64 (i : Nat))), (0, .s s)] ∧ hh = [.cells 9 X])
    N _ ⟨0, t, [], _, rfl, rfl, by omega, Nat.le_refl _, by simp, rfl, by simp [AV.one, Value.oneCell'], by omega, rfl, rfl⟩ (.cons rfl (.cons rfl .nil)) ?_
  rintro m C j hh ⟨i, s, D, X, hD, hp, hc, hs, hX, hXt, hXo, rfl, rfl, rfl⟩
  simp only [go_sem]
  refine brK_dec (fun hlt => ?_) (fun hge => ?_)
  · have hcm : c ∈ bts s := List.count_pos_iff.1 (by omega)
    obtain ⟨m, h1, h2, h3, h4⟩ := idx_at hcm
    have hm : m < s.size := by rw [← bts_len]; exact h2
    have hw4 : IntKind.i64.wrap ((m : Int) + 0) = (m : Int) := by rw [wrap_in _ (by omega) (by omega)]; omega
    have hw5 : IntKind.i64.wrap ((m : Int) + ((1 : Nat) : Int)) = ((m + 1 : Nat) : Int) := by rw [wrap_in _ (by omega) (by omega)]; omega
    simp only [go_sem]
    refine PCall.call (index27 s c) ?_
    rw [h1]
    simp only [go_sem]
    refine brK_dec (fun _ => by exfalso; omega) (fun _ => ?_)
    have hd : decide (i + 1 ≤ X.length) = true := decide_eq_true (by omega)
    simp only [go_sem, hw4, hw5, one_size, Int.toNat_natCast, hd, Nat.mul_one]
    refine ⟨by omega, by omega, by omega, ?_⟩
    have hpc := pieces_at h2 h3 h4
    refine loopFr _ (by omega) ⟨i + 1, s.extract (m + 1) s.size, D ++ [s.extract 0 m], X.set i (.s (s.extract 0 m)), by simp [hD], by rw [List.append_assoc, ← hp, hpc]; rfl, ?_, by rw [ByteArray.size_extract]; omega, by simpa using hX, ?_, one_set hXo rfl, rfl, rfl, rfl⟩ (.next rfl (by omega) (.cons rfl .nil)) rfl
    · have e2 : bts (s.extract (m + 1) s.size) = (bts s).drop (m + 1) := by rw [bts_extract, List.take_of_length_le (by rw [bts_len]; exact Nat.le_refl _)]
      have e3 : (bts s).count c = ((bts s).drop (m + 1)).count c + 1 := by
        conv => lhs; rw [h3]
        rw [List.count_append, List.count_eq_zero.2 h4, List.count_cons]
        simp
      rw [e2]; omega
    · rw [take_set (by omega), hXt, List.map_append]; rfl
  · have hi : i = N := by omega
    have hz : c ∉ bts s := fun hm => by have := List.count_pos_iff.2 hm; omega
    rw [pieces_no hz] at hp
    have hw6 : IntKind.i64.wrap ((i : Int) + 1) = ((i + 1 : Nat) : Int) := by rw [wrap_in _ (by omega) (by omega)]; omega
    have hd : decide (i + 1 ≤ X.length) = true := decide_eq_true (by omega)
    simp only [go_sem, hd, Nat.mul_one, Int.toNat_natCast, hw6]
    refine ⟨by omega, by omega, ?_⟩
    refine ⟨_, rfl, true, ?_⟩
    have hlen : (X.set i (.s s)).length = i + 1 := by simp; omega
    have hall : X.set i (.s s) = (pieces c t).map AV.s := by
      rw [← hp, List.map_append, ← hXt]
      have := take_set (X := X) (i := i) (v := .s s) (by omega)
      rw [List.take_of_length_le (by rw [hlen]; exact Nat.le_refl _)] at this
      exact this
    have hone := one_set (i := i) (v := .s s) hXo rfl
    show Weak (frz [.cells 9 (X.set i (.s s))] (.sl 1 0 0 (i + 1))) _
    rw [hall] at hlen hone ⊢
    simp only [frz, List.getElem?_cons_zero, decide_true, Nat.zero_add, hlen, Nat.le_refl, hone, List.drop_zero]
    rw [List.take_of_length_le (by rw [hlen]; exact Nat.le_refl _)]
    exact .refl _

theorem split18 (t : ByteArray) (c : UInt8) (ht : t.size ≤ 1000000) : PCall Tryz.prog 161 [.s t, .s ⟨#[c]⟩] (.lst 1 ((pieces c t).map AV.s) none) := by
  refine pcall_of_vc tabOK Tryz.func161 (by kernel_rfl) rfl (by first | exact pureL | exact pureI) (pure_strs _) (n := 8) rfl (rs := [.tmp 4]) rfl ?_
  simp only [go_sem]
  refine PCall.call (split22 t c ht) ?_
  simp only [go_sem]
  exact ⟨_, rfl, false, .refl _⟩
theorem numG_all {t : ByteArray} (h : (bts t).all (fun c => inB 48 57 c.toNat) = false) : numG t = false := by unfold numG; rw [h]; simp
theorem numG_first {t : ByteArray} (h : firstNo0 (bts t) = false) : numG t = false := by unfold numG; rw [h]; simp
theorem firstNo0_at {t : ByteArray} {p : Nat} {c : UInt8} (hc : (bts t)[p]? = some c) (hp : (p : Int) = 0) : firstNo0 (bts t) = !decide (c.toNat = 48) := by
  have : p = 0 := by omega
  subst this
  obtain ⟨l, hl⟩ := bts_cons hc
  rw [hl]; rfl

theorem number24 (t : ByteArray) : PCall Tryz.prog 167 [.s t] (.b (numG t)) := by
  refine pcall_of_vc tabOK Tryz.func167 (by kernel_rfl) rfl (pure_cons (.raw _) pure_nil) (.raw _) (n := 30) rfl (rs := [.tmp 2]) rfl ?_
  simp only [go_sem]
  refine loop_fr [2, 3, 4, 7, 8, 9, 10, 11, 12, 13, 14, 15, 16, 17, 18, 19, 20, 21] (fun m C hh => ∃ p : Nat, p ≤ t.size ∧ m = t.size - p ∧ (∀ c ∈ (bts t).take p, inB 48 57 c.toNat = true) ∧ (0 < p → firstNo0 (bts t) = true) ∧ C = [] ∧ hh = [.it t p]) t.size _ ⟨0, by omega, by omega, by simp, by omega, rfl, rfl⟩ .nil ?_
  rintro m C j hh ⟨p, hp, rfl, hpi, hf, rfl, rfl⟩
  rcases Nat.lt_or_ge p t.size with hlt | hge
  · obtain ⟨c, hcc⟩ := bts_at hlt
    have hd : decide (p < t.size) = true := decide_eq_true hlt
    by_cases hlo : c.toNat < 128
    · simp only [go_sem, hd, decode_lo hcc hlo]
      repeat' first
        | (exfalso; omega)
        | simp only [go_sem]
        | refine brK_dec (fun _ => ?_) (fun _ => ?_)
        | refine gK_dec (fun _ => ?_) (fun _ => ?_)
        | (refine PCall.call (digit20 _) ?_; generalize hdi : inB 48 57 (c.toNat : Nat) = q; cases q)
        | (refine finBq rfl ?_; first
            | (rw [numG_all (all_no (p := fun c => inB 48 57 c.toNat) hcc hdi)])
            | (have hp0 : (p : Int) = 0 := (by assumption); have h48 : c.toNat = 48 := (by omega); have hno : firstNo0 (bts t) = false := (by rw [firstNo0_at hcc hp0, h48]; rfl); rw [numG_first hno]))
        | exact loopFr _ (by omega) ⟨p + 1, by omega, rfl, take_all hpi hcc hdi, fun _ => by
            rcases Nat.eq_zero_or_pos p with h0 | h0
            · have h48 : ¬ c.toNat = 48 := by omega
              rw [firstNo0_at hcc (by omega), decide_eq_false h48]; rfl
            · exact hf h0, rfl, rfl⟩ .nil rfl
    · have hhi := decode_hi hcc (by omega)
      simp only [go_sem, hd]
      generalize Utf8.decode t p = r at hhi ⊢
      obtain ⟨r, wd⟩ := r
      dsimp only at hhi
      have h3 : inB 48 57 (r : Int) = false := inB_hi (by omega) (by omega)
      have hno : inB 48 57 (c.toNat : Nat) = false := by unfold inB; simp; omega
      repeat' first
        | (exfalso; omega)
        | simp only [go_sem]
        | refine brK_dec (fun _ => ?_) (fun _ => ?_)
        | refine gK_dec (fun _ => ?_) (fun _ => ?_)
        | (refine PCall.call (digit20 _) ?_; rw [h3])
        | (refine finBq rfl ?_; rw [numG_all (all_no (p := fun c => inB 48 57 c.toNat) hcc hno)])
  · have hd : decide (p < t.size) = false := decide_eq_false (by omega)
    simp only [go_sem, hd]
    have hall := all_yes (p := fun c => inB 48 57 c.toNat) hpi hge
    repeat' first
      | (exfalso; omega)
      | simp only [go_sem]
      | refine brK_dec (fun _ => ?_) (fun _ => ?_)
      | refine gK_dec (fun _ => ?_) (fun _ => ?_)
      | (refine finBq rfl ?_; unfold numG; rw [hall]; first | (have h0 : 0 < p := (by omega); have h1 : 1 ≤ t.size := (by omega); rw [hf h0, decide_eq_true h1]; by_cases q : t.size ≤ 3 <;> simp [q] <;> omega) | (have h1 : ¬ 1 ≤ t.size := (by omega); simp [h1]; done))

theorem part19 (t : ByteArray) (ht : t.size ≤ 1000000000) : PCall Tryz.prog 162 [.s t] (.b (partF t)) := by
  refine pcall_of_vc tabOK Tryz.func162 (by kernel_rfl) rfl pureL pureI (n := 22) rfl (rs := [.tmp 2]) rfl ?_
  simp only [go_sem]
  refine PCall.call (cut23 t 46 ht) ?_
  by_cases hc : (46 : UInt8) ∈ bts t
  · obtain ⟨m, h1, h2, h3, h4⟩ := idx_at hc
    unfold cutA
    rw [if_pos hc, if_pos hc, decide_eq_true hc, h1, Int.toNat_natCast, partF_at h2 h3 h4]
    repeat' first
      | simp only [go_sem]
      | (refine PCall.call (low6 _) ?_; generalize lowF (t.extract 0 m) = q; cases q)
      | (refine PCall.call (number24 _) ?_)
      | exact finBq rfl (by simp)
      | refine gK_split (fun _ => ?_) (fun _ => ?_)
  · unfold cutA
    rw [if_neg hc, if_neg hc, decide_eq_false hc, partF_no hc]
    repeat' first
      | simp only [go_sem]
      | (refine PCall.call (low6 _) ?_; generalize lowF t = q; cases q)
      | exact finBq rfl (by simp)

theorem path12 (t : ByteArray) (ht : t.size ≤ 1000000) : PCall Tryz.prog 153 [.s t] (.b (pathF t)) := by
  refine pcall_of_vc tabOK Tryz.func153 (by kernel_rfl) rfl pureL pureI (n := 16) rfl (rs := [.tmp 2]) rfl ?_
  unfold pathF
  repeat' first
    | exact finB rfl
    | exact finI rfl
    | exact finP rfl
    | exact absurd rfl (by assumption)
    | simp only [go_sem]
    | (intro _)
    | refine brK_dec (fun _ => ?_) (fun _ => ?_)
    | refine brK_any ?_ ?_
    | refine gK_dec (fun _ => ?_) (fun _ => ?_)
    | refine gK_any ?_ ?_
    | refine gqK_dec (fun _ => ?_) (fun _ => ?_)
    | refine ⟨by omega, ?_⟩
    | refine elemHave (by omega) (by assumption) ?_
    | refine elemMap (by omega) (by omega) (fun x hx => ?_)
    | refine drawK mo (by kernel_rfl) ?_
    | (refine PCall.call (split18 t 47 ht) ?_)
    | (have hle := pieces_le (List.mem_of_getElem? hx); refine PCall.call (part19 x (by omega)) ?_; generalize hpx : partF x = q; cases q)
    | (refine finBq rfl ?_; first | (rw [List.all_eq_true.2 (take_full hpi (by omega))]) | (rw [List.all_eq_false.2 ⟨x, List.mem_of_getElem? hx, by simp [hpx]⟩]))
    | exact loopFrH _ (by omega) ⟨i + 1, by omega, rfl, take_all hpi (by simpa using hx) hpx, rfl⟩ (.next rfl (by omega) .nil) rfl
    | (refine loop_frH [2, 4, 8, 9, 10, 11, 12, 13, 14, 15] (fun mm_ CC_ => ∃ (i : Nat), i ≤ (pieces 47 t).length ∧ mm_ = (pieces 47 t).length - i ∧ (∀ x ∈ (pieces 47 t).take i, partF x = true) ∧ CC_ = [(8, .raw (.int .i64 ((i : Nat) : Int)))]) ((pieces 47 t).length) _ ⟨0, by omega, by omega, by simp, rfl⟩ (.cons rfl .nil) ?_; rintro mm_ CC_ ji ⟨i, hi, rfl, hpi, rfl⟩)


/-- slices.IndexFunc: the first place at which the function answers true; it is left where it is: memory stays. -/
theorem indexNode {l : List DNode} {p : DNode → Bool} {g : Nat} {first capt : List AV} {h : List Blk} {K : AV → List Blk → Prop} (hp : ∀ x ∈ l, ∀ K : AV → List Blk → Prop, K (.b (p x)) h → ACall Tryz.prog g (first ++ DNode.enc x :: capt) h K)
    (hK : K (.i (idxOf p l)) h) : ACall Tryz.prog 97 [.lst 5 (l.map (DNode.enc)) none, .fn (.func g) first capt] h K := by
  refine acall_of_vc tabOK Tryz.func97 (by kernel_rfl) rfl (n := 19) rfl (rs := [.tmp 4]) rfl ?_
  simp only [go_sem]
  intro hlen
  refine loop_frH [5, 8, 9, 10, 11, 12, 13, 14, 15, 16, 18] (fun n C => ∃ (i : Nat), i ≤ l.length ∧ n = l.length - i ∧ (∀ x ∈ l.take i, p x = false) ∧ C = [(8, .raw (.int .i64 (i : Nat)))]) l.length _ ⟨0, by omega, by omega, by simp, rfl⟩ (.cons rfl .nil) ?_
  rintro n C j ⟨i, hi, rfl, hp0, rfl⟩
  simp only [go_sem]
  refine brK_dec (fun hlt => ?_) (fun hge => ?_)
  · simp only [go_sem]
    refine elemMap (by omega) (by omega) (fun x hx => ?_)
    simp only [go_sem]
    refine hp x (List.mem_of_getElem? hx) _ ?_
    simp only [go_sem]
    cases hb : p x with
    | true =>
      simp only [go_sem]
      rw [idxOf_at hp0 hx hb] at hK
      exact finH1 rfl (.raw _) hK
    | false =>
      simp only [go_sem]
      exact loopFrH (l.length - (i + 1)) (by omega) ⟨i + 1, by omega, rfl, take_all hp0 (by rw [Int.toNat_natCast] at hx; exact hx) hb, rfl⟩ (.next rfl (by omega) .nil) rfl
  · simp only [go_sem]
    rw [idxOf_none (take_full hp0 (by omega))] at hK
    exact finH1 rfl (.raw _) hK


/-- slices.IndexFunc: the first place at which the function answers true; it is left where it is: memory stays. -/
theorem indexDecl {l : List DDecl} {p : DDecl → Bool} {g : Nat} {first capt : List AV} {h : List Blk} {K : AV → List Blk → Prop} (hp : ∀ x ∈ l, ∀ K : AV → List Blk → Prop, K (.b (p x)) h → ACall Tryz.prog g (first ++ DDecl.enc x :: capt) h K)
    (hK : K (.i (idxOf p l)) h) : ACall Tryz.prog 101 [.lst 6 (l.map (DDecl.enc)) none, .fn (.func g) first capt] h K := by
  refine acall_of_vc tabOK Tryz.func101 (by kernel_rfl) rfl (n := 19) rfl (rs := [.tmp 4]) rfl ?_
  simp only [go_sem]
  intro hlen
  refine loop_frH [5, 8, 9, 10, 11, 12, 13, 14, 15, 16, 18] (fun n C => ∃ (i : Nat), i ≤ l.length ∧ n = l.length - i ∧ (∀ x ∈ l.take i, p x = false) ∧ C = [(8, .raw (.int .i64 (i : Nat)))]) l.length _ ⟨0, by omega, by omega, by simp, rfl⟩ (.cons rfl .nil) ?_
  rintro n C j ⟨i, hi, rfl, hp0, rfl⟩
  simp only [go_sem]
  refine brK_dec (fun hlt => ?_) (fun hge => ?_)
  · simp only [go_sem]
    refine elemMap (by omega) (by omega) (fun x hx => ?_)
    simp only [go_sem]
    refine hp x (List.mem_of_getElem? hx) _ ?_
    simp only [go_sem]
    cases hb : p x with
    | true =>
      simp only [go_sem]
      rw [idxOf_at hp0 hx hb] at hK
      exact finH1 rfl (.raw _) hK
    | false =>
      simp only [go_sem]
      exact loopFrH (l.length - (i + 1)) (by omega) ⟨i + 1, by omega, rfl, take_all hp0 (by rw [Int.toNat_natCast] at hx; exact hx) hb, rfl⟩ (.next rfl (by omega) .nil) rfl
  · simp only [go_sem]
    rw [idxOf_none (take_full hp0 (by omega))] at hK
    exact finH1 rfl (.raw _) hK


/-- slices.IndexFunc: the first place at which the function answers true; it is left where it is: memory stays. -/
theorem indexStr {l : List ByteArray} {p : ByteArray → Bool} {g : Nat} {first capt : List AV} {h : List Blk} {K : AV → List Blk → Prop} (hp : ∀ x ∈ l, ∀ K : AV → List Blk → Prop, K (.b (p x)) h → ACall Tryz.prog g (first ++ AV.s x :: capt) h K)
    (hK : K (.i (idxOf p l)) h) : ACall Tryz.prog 127 [.lst 1 (l.map (AV.s)) none, .fn (.func g) first capt] h K := by
  refine acall_of_vc tabOK Tryz.func127 (by kernel_rfl) rfl (n := 19) rfl (rs := [.tmp 4]) rfl ?_
  simp only [go_sem]
  intro hlen
  refine loop_frH [5, 8, 9, 10, 11, 12, 13, 14, 15, 16, 18] (fun n C => ∃ (i : Nat), i ≤ l.length ∧ n = l.length - i ∧ (∀ x ∈ l.take i, p x = false) ∧ C = [(8, .raw (.int .i64 (i : Nat)))]) l.length _ ⟨0, by omega, by omega, by simp, rfl⟩ (.cons rfl .nil) ?_
  rintro n C j ⟨i, hi, rfl, hp0, rfl⟩
  simp only [go_sem]
  refine brK_dec (fun hlt => ?_) (fun hge => ?_)
  · simp only [go_sem]
    refine elemMap (by omega) (by omega) (fun x hx => ?_)
    simp only [go_sem]
    refine hp x (List.mem_of_getElem? hx) _ ?_
    simp only [go_sem]
    cases hb : p x with
    | true =>
      simp only [go_sem]
      rw [idxOf_at hp0 hx hb] at hK
      exact finH1 rfl (.raw _) hK
    | false =>
      simp only [go_sem]
      exact loopFrH (l.length - (i + 1)) (by omega) ⟨i + 1, by omega, rfl, take_all hp0 (by rw [Int.toNat_natCast] at hx; exact hx) hb, rfl⟩ (.next rfl (by omega) .nil) rfl
  · simp only [go_sem]
    rw [idxOf_none (take_full hp0 (by omega))] at hK
    exact finH1 rfl (.raw _) hK


/-- slices.IndexFunc: the first place at which the function answers true; it is left where it is: memory stays. -/
theorem indexEx {l : List Ex} {p : Ex → Bool} {g : Nat} {first capt : List AV} {h : List Blk} {K : AV → List Blk → Prop} (hp : ∀ x ∈ l, ∀ K : AV → List Blk → Prop, K (.b (p x)) h → ACall Tryz.prog g (first ++ Ex.enc x :: capt) h K)
    (hK : K (.i (idxOf p l)) h) : ACall Tryz.prog 160 [.lst 6 (l.map (Ex.enc)) none, .fn (.func g) first capt] h K := by
  refine acall_of_vc tabOK Tryz.func160 (by kernel_rfl) rfl (n := 19) rfl (rs := [.tmp 4]) rfl ?_
  simp only [go_sem]
  intro hlen
  refine loop_frH [5, 8, 9, 10, 11, 12, 13, 14, 15, 16, 18] (fun n C => ∃ (i : Nat), i ≤ l.length ∧ n = l.length - i ∧ (∀ x ∈ l.take i, p x = false) ∧ C = [(8, .raw (.int .i64 (i : Nat)))]) l.length _ ⟨0, by omega, by omega, by simp, rfl⟩ (.cons rfl .nil) ?_
  rintro n C j ⟨i, hi, rfl, hp0, rfl⟩
  simp only [go_sem]
  refine brK_dec (fun hlt => ?_) (fun hge => ?_)
  · simp only [go_sem]
    refine elemMap (by omega) (by omega) (fun x hx => ?_)
    simp only [go_sem]
    refine hp x (List.mem_of_getElem? hx) _ ?_
    simp only [go_sem]
    cases hb : p x with
    | true =>
      simp only [go_sem]
      rw [idxOf_at hp0 hx hb] at hK
      exact finH1 rfl (.raw _) hK
    | false =>
      simp only [go_sem]
      exact loopFrH (l.length - (i + 1)) (by omega) ⟨i + 1, by omega, rfl, take_all hp0 (by rw [Int.toNat_natCast] at hx; exact hx) hb, rfl⟩ (.next rfl (by omega) .nil) rfl
  · simp only [go_sem]
    rw [idxOf_none (take_full hp0 (by omega))] at hK
    exact finH1 rfl (.raw _) hK


theorem nothing88 (e : Ex) (n : Int) : PCall Tryz.prog 148 [e.enc, .i n] (nothingE e n).enc := by
  refine pcall_of_vc tabOK Tryz.func148 (by kernel_rfl) rfl (by first | exact pureL | exact pureI) (DRule.pure _) (n := 17) rfl (rs := [.cell 4 140]) rfl ?_
  repeat' first
    | simp only [go_sem]
    | (refine drawC [1] mo (by kernel_rfl) ?_)
    | exact finRule rfl rfl

theorem leaf87 (e : Ex) (hn : e.name.size ≤ 1000000) : PCall Tryz.prog 147 [e.enc] (leafE e).enc := by
  refine pcall_of_vc tabOK Tryz.func147 (by kernel_rfl) rfl (by first | exact pureL | exact pureI) (DRule.pure _) (n := 44) rfl (rs := [.cell 2 140]) rfl ?_
  simp only [go_sem]
  refine PCall.call (nothing88 e 0) ?_
  repeat' first
    | simp only [go_sem, nothingE]
    | refine brK_dec (fun _ => ?_) (fun _ => ?_)
    | refine gK_dec (fun _ => ?_) (fun _ => ?_)
    | refine PCall.call (low6 _) ?_
    | refine PCall.call (high8 _) ?_
    | refine PCall.call (path12 _ hn) ?_
    | (refine drawC [2] mo (by kernel_rfl) ?_)
    | (exact finRule rfl (by simp [leafE, nothingE, *]))
theorem of68 (e : Ex) (hn : e.name.size ≤ 1000000) : PCall Tryz.prog 130 [e.enc] (ruleA (ofE e)) := by
  refine pcall_of_vc tabOK Tryz.func130 (by kernel_rfl) rfl (by first | exact pureL | exact pureI) (pure_ruleA _) (n := 106) rfl (rs := [.cell 2 140, .tmp 3]) rfl ?_
  repeat' first
    | (exfalso; omega)
    | simp only [go_sem, nothingE]
    | (intro _)
    | refine brK_dec (fun _ => ?_) (fun _ => ?_)
    | refine gK_dec (fun _ => ?_) (fun _ => ?_)
    | refine gqK_dec (fun _ => ?_) (fun _ => ?_)
    | refine PCall.call (low6 _) ?_
    | refine pcK_of (low6 _) ?_
    | refine PCall.call (leaf87 e hn) ?_
    | refine PCall.call (nothing88 e _) ?_
    | (refine drawC [2] mo (by kernel_rfl) ?_)
    | (exact finRule2 rfl (by simp [ofE, nothingE, *]))
    | (exact finRule2 rfl (by simp [ofE, nothingE, *] <;> omega))
end Go.Proofs.YtkjfhhioomnbfaaGreatDoor

namespace Go.Proofs.YtkjfhhioomnbfaaGreatDoor
open Go.Abs
set_option maxRecDepth 20000
set_option linter.unusedSimpArgs false
set_option linter.unusedVariables false
set_option maxHeartbeats 1000000
attribute [local irreducible] vc vcOps vcStep vcGuard prK hrK gK gsK brK callK ElemK SeqK BlockK ScopeK OpsK CallK LoopK LoopGo finPost ACall PCall PCallE BCall vqOps vqStep vqGuard qrK heK pcK gqK gqsK QOpsK qcallK DrawK

theorem once12 (l : List ByteArray) : PCall Tryz.prog 47 [.lst 1 (l.map AV.s) none] (.b (onceB l)) := by
  refine pcall_of_vc tabOK Tryz.func47 (by kernel_rfl) rfl (pure_cons (pure_strs _) pure_nil) (.raw _) (n := 22) rfl (rs := [.tmp 2]) rfl ?_
  simp only [go_sem]
  intro _
  refine loop_fr [2, 5, 9, 10, 11, 12, 13, 14, 15, 16, 17, 18, 19, 20, 21] (fun m C hh => ∃ (i n : Nat) (f : Value → Option AV), i ≤ l.length ∧ m = l.length - i ∧ (l.take i).Nodup ∧ MapN f (fun s => 0 + cntL s (l.take i)) ∧ C = [(9, .raw (.int .i64 (i : Nat)))] ∧ hh = [.mp .str n f]) l.length _ ⟨0, 0, _, by omega, by omega, by simp, MapN.nil.cast (fun s => by simp [cntL]), rfl, rfl⟩ (.cons rfl .nil) ?_
  rintro m C j hh ⟨i, n, f, hi, rfl, hN, hM, rfl, rfl⟩
  simp only [go_sem]
  refine brK_dec (fun hlt => ?_) (fun hge => ?_)
  · simp only [go_sem]
    refine elemMap (by omega) (by omega) (fun x hx => ?_)
    have hx' : l[i]? = some x := by simpa using hx
    have hMx := hM x
    have hle := cntL_le x (l.take i)
    rw [List.length_take] at hle
    simp only [go_sem, hMx]
    refine brK_dec (fun hp => ?_) (fun hp => ?_)
    · simp only [go_sem]
      refine finBq rfl ?_
      rw [onceB_no]
      refine nodup_bad hx' ?_
      by_cases hm : x ∈ l.take i
      · exact hm
      · have := cntL_zero hm
        exfalso; omega
    · simp only [go_sem, hMx]
      have hm : x ∉ l.take i := fun hm => by have := cntL_mem hm; omega
      exact loopFr _ (by omega) ⟨i + 1, _, _, by omega, rfl, nodup_step hN hx' hm, (by have h := hM.upW hx (by omega); simpa only [Nat.zero_add] using h), rfl, rfl⟩ (.next rfl (by omega) .nil) rfl
  · simp only [go_sem]
    exact finBq rfl (nodup_all hN (by omega)).symm
end Go.Proofs.YtkjfhhioomnbfaaGreatDoor

/-
  A range over a function: what a call of yield does, out of a walk through the loop's body.
-/
namespace Go.Abs
open Go.RowKit

/-- The slots with a loop's variables set. -/
def setPs (s : List AV) : List Tmp → List AV → List AV
  | t :: ts, v :: vs => setPs (s.set t v) ts vs
  | _, _ => s

section
variable {P : Program} {T : TypeId → TI} {S S' : Addr → Prop} {φ φ' : Nat → Loc} {h h' : List Blk} {w w' : World}

theorem setPs_list : ∀ (ps : List Tmp) {s args : List AV} {tmps : Array Value} {vs : List Value}, CAll S w φ s tmps → CAll S w φ args vs.toArray → CAll S w φ (setPs s ps args) ((ps.zip vs).foldl (fun t p => t.setIfInBounds p.1 p.2) tmps)
  | [], s, args, tmps, vs, hs, _ => by simpa [setPs] using hs
  | t :: ps, s, [], tmps, vs, hs, ha => by
    have : vs = [] := List.length_eq_zero_iff.1 (by simpa using ha.1)
    subst this
    simpa [setPs] using hs
  | t :: ps, s, v :: args, tmps, [], hs, ha => by have := ha.1; simp at this
  | t :: ps, s, v :: args, tmps, u :: vs, hs, ha => by
    simp only [setPs, List.zip_cons_cons, List.foldl_cons]
    refine setPs_list ps (hs.set t (ha.2 0 v u rfl rfl)) ⟨by have := ha.1; simpa using this, fun i x y hx hy => ha.2 (i + 1) x y (by simpa using hx) (by simpa using hy)⟩
theorem setPs_all {ps : Array Tmp} {s args : List AV} {tmps vs : Array Value} (hs : CAll S w φ s tmps) (ha : CAll S w φ args vs) : CAll S w φ (setPs s ps.toList args) ((ps.zip vs).foldl (fun t (p, v) => t.setIfInBounds p v) tmps) := by
  have := setPs_list ps.toList (vs := vs.toList) hs (by simpa using ha)
  rw [← Array.foldl_toList, Array.toList_zip]
  exact this

/-- A loop's record is turned. -/
theorem lp_put {k l : Nat} {st : LoopState} {pe : Option Code} {ps : Array Tmp} {x y : Code} {s : List AV} (hr : R S φ h w) (hk : h[k]? = some (.lp l st pe ps x y s)) :
    ∃ rec : Loop, w.heap[l]? = some (.loop rec) ∧ rec.state = st ∧ rec.pending = pe ∧ rec.params = ps ∧ rec.assign = x ∧ rec.body = y ∧ CAll S w φ s rec.tmps ∧
      ∀ st' pe', R S (upd φ k (.obj l)) (h.set k (.lp l st' pe' ps x y s)) (w.putObj l (.loop { rec with state := st', pending := pe' })) ∧ Ext S φ h w S (upd φ k (.obj l)) (h.set k (.lp l st' pe' ps x y s)) (w.putObj l (.loop { rec with state := st', pending := pe' })) := by
  obtain ⟨g1, fn, tmps, D, g2, g3, g4⟩ := hr.blk _ _ hk
  have hlt := (Array.getElem?_eq_some_iff.1 g2).1
  have hown : blockOf (φ k) (.lp l st pe ps x y s) = some l := by rw [g1]; rfl
  have hoth : ∀ (o : Obj) b, b ≠ l → (w.putObj l o).heap[b]? = w.heap[b]? := fun o b hb => World.putObj_heap_other hb
  have hle : ∀ j, (φ j).le (upd φ k (.obj l) j) := fun j => by
    by_cases e : j = k
    · subst e; rw [upd_same, g1]; rfl
    · rw [upd_other _ e]; exact Loc.le_refl _
  refine ⟨_, g2, rfl, rfl, rfl, rfl, rfl, g3, fun st' pe' => ?_⟩
  have hcell : ∀ (o : Obj) c, S c → (w.putObj l o).cell? c = w.cell? c := fun o c hc => cell_of_heap (hoth o c.block (g4 c hc))
  exact hr.put (k := k) (x := .lp l st' pe' ps x y s) (l := .obj l) (S' := S) hk rfl rfl rfl (by simp) (fun b _ hne => hoth _ b (fun e => hne (by rw [hown, e]))) (fun _ h => h) (hcell _) (fun _ h => .inl h) (fun c hc => by have := hr.bnd c hc; simpa using this) (by rw [g1]; rfl)
    ⟨upd_same _ _ _, fn, tmps, D, World.putObj_heap_same hlt, g3.mono (fun _ h => h) (hcell _) hle, g4⟩ (fun b hb => by cases hb; exact .inr hown)

/-- Behind a round's body. -/
def roundB (l k : Nat) (ps : Array Tmp) (x y : Code) (s : List AV) (K : AV → List Blk → Prop) : Post := fun e _ h2 =>
  h2[k]? = some (.lp l .busy none ps x y s) ∧ match e with
    | .normal => K (.raw (.bool true)) (h2.set k (.lp l .ready none ps x y s))
    | .ret => K (.raw (.bool false)) (h2.set k (.lp l .done (some .ret) ps x y s))
    | .exit id => K (.raw (.bool false)) (h2.set k (.lp l .done (some (.exit id)) ps x y s))
    | .goto _ => False
/-- Behind a round's assignments. -/
def roundA (P : Program) (T : TypeId → TI) (l k : Nat) (ps : Array Tmp) (x y : Code) (s : List AV) (K : AV → List Blk → Prop) : Post := fun e s1 h1 => match e with
  | .normal => h1[k]? = some (.lp l .ready none ps x y s) ∧ vc P T y (roundB l k ps x y s K) s1 (h1.set k (.lp l .busy none ps x y s))
  | _ => False

set_option maxHeartbeats 1000000 in
/-- **What yield does.** -/
theorem ycall_of_vc (hT : TabOK P T) {l k : Nat} {ps : Array Tmp} {x y : Code} {s args : List AV} {K : AV → List Blk → Prop} (hk : h[k]? = some (.lp l .ready none ps x y s)) (hl : args.length = ps.size) (hx : noR x = true) (hy : noR y = true)
    (hv : vc P T x (roundA P T l k ps x y s K) (setPs s ps.toList args) h) : YCall P l args h K := by
  intro S φ w vs hr hargs
  obtain ⟨rec, g1, g2, g3, g4, g5, g6, g7, _⟩ := lp_put hr hk
  have hrun := run_yield (P := P) (args := vs) g1 (by rw [g4, hargs.1, hl])
  refine ⟨_, _, _, _, hrun, roundIn_of_wpIn trivial ?_⟩
  rw [g4, g5, g6]
  refine wpIn_mono (vc_soundIn (ro := some l) (n0 := w.heap.size) hT x (fun _ => hx) hv (MK.nil (Nat.le_refl _)) (setPs_all g7 hargs) hr) ?_
  rintro e a1 w1 ⟨xx, hxx, s1, h1, S1, φ1, hK1, hd1, hs1, hr1, he1⟩
  cases e <;> simp only [exitOf] at hxx <;> cases hxx
  · obtain ⟨hk1, hv1⟩ := hK1
    obtain ⟨rec1, f1, f2, f3, f4, f5, f6, f7, f8⟩ := lp_put hr1 hk1
    have hbr := run_beginRound (P := P) f1 f2
    have e1 : ({ rec1 with state := .busy } : Loop) = { rec1 with state := .busy, pending := none } := by rw [← f3]
    rw [e1] at hbr
    obtain ⟨m1, m2⟩ := f8 .busy none
    refine ⟨_, hbr, ?_⟩
    refine wpIn_mono (vc_soundIn (ro := some l) (n0 := w.heap.size) hT y (fun _ => hy) hv1 (hd1.ext m2) (m2.CAll hs1) m1) ?_
    rintro e a2 w2 ⟨xx, hxx, s2, h2, S2, φ2, hK2, hd2, hs2, hr2, he2⟩
    obtain ⟨hk2, hK2⟩ := hK2
    obtain ⟨rec2, p1, p2, p3, p4, p5, p6, p7, p8⟩ := lp_put hr2 hk2
    have hee := (he1.trans m2).trans he2
    have fin : ∀ (jump : Option Code), ∃ w3, (Instr.endRound l jump).run P w2 = .ok (.bool jump.isNone) w3 ∧ R S2 (upd φ2 k (.obj l)) (h2.set k (.lp l (if jump.isNone then .ready else .done) jump ps x y s)) w3 ∧ Ext S φ h w S2 (upd φ2 k (.obj l)) (h2.set k (.lp l (if jump.isNone then .ready else .done) jump ps x y s)) w3 := fun jump => by
      obtain ⟨n1, n2⟩ := p8 (if jump.isNone then .ready else .done) jump
      exact ⟨_, run_endRound (P := P) jump p1, n1, hee.trans n2⟩
    cases e <;> simp only [exitOf] at hxx <;> cases hxx
    · obtain ⟨w3, q1, q2, q3⟩ := fin none
      exact ⟨_, w3, q1, _, _, _, S2, _, rfl, hK2, .raw _, q2, q3⟩
    · rename_i id
      obtain ⟨w3, q1, q2, q3⟩ := fin (some (.exit id))
      exact ⟨_, w3, q1, _, _, _, S2, _, rfl, hK2, .raw _, q2, q3⟩
    · exact hK2.elim
    · obtain ⟨w3, q1, q2, q3⟩ := fin (some .ret)
      exact ⟨_, w3, q1, _, _, _, S2, _, rfl, hK2, .raw _, q2, q3⟩
  · exact hK1.elim
  · exact hK1.elim
  · exact hK1.elim
end
end Go.Abs

namespace Go.Proofs.YtkjfhhioomnbfaaGreatDoor
open Go.Abs
set_option maxRecDepth 20000
set_option linter.unusedSimpArgs false
set_option linter.unusedVariables false
set_option maxHeartbeats 1000000
attribute [local irreducible] vc vcOps vcStep vcGuard prK hrK gK gsK brK callK ElemK SeqK BlockK ScopeK OpsK CallK LoopK LoopGo finPost ACall PCall PCallE BCall vqOps vqStep vqGuard qrK heK pcK gqK gqsK QOpsK qcallK DrawK
theorem parts_sub {L : List Ex} {e : Ex} {n i : Nat} {x : Ex} (hL : ∀ (k : Nat) y, (parts e)[k]? = some y → L[n + k]? = some y) (hx : e.subs[i]? = some x) :
    ∀ (k : Nat) y, (parts x)[k]? = some y → L[n + 1 + (partsL (e.subs.take i)).length + k]? = some y := by
  obtain ⟨hi, rfl⟩ := List.getElem?_eq_some_iff.1 hx
  intro k y hy
  have h1 := partsL_take hi
  have h2 : partsL e.subs = partsL (e.subs.take i) ++ parts e.subs[i] ++ partsL (e.subs.drop (i + 1)) := by
    rw [← h1, ← partsL_append, List.take_append_drop]
  have := hL (1 + (partsL (e.subs.take i)).length + k) y (by
    rw [parts_eq, h2, show 1 + (partsL (e.subs.take i)).length + k = ((partsL (e.subs.take i)).length + k) + 1 by omega, List.getElem?_cons_succ, List.append_assoc, List.getElem?_append_right (by omega), show (partsL (e.subs.take i)).length + k - (partsL (e.subs.take i)).length = k by omega,
      List.getElem?_append_left (List.getElem?_eq_some_iff.1 hy).1]
    exact hy)
  rw [show n + 1 + (partsL (e.subs.take i)).length + k = n + (1 + (partsL (e.subs.take i)).length + k) by omega]
  exact this

theorem walk53 (yl m0 : Nat) (L : List Ex) (I : Nat → List Blk → Prop) (St : List Blk → Prop) (hlen : ∀ n h, I n h → h.length = m0) (hst : ∀ h, St h → h.length = m0)
    (hy : ∀ n x h r (K : AV → List Blk → Prop), L[n]? = some x → I n h → (∀ h' r', I (n + 1) h' → K (.b true) (h' ++ (r ++ r'))) → (∀ h' r', St h' → K (.b false) (h' ++ (r ++ r'))) → YCall Tryz.prog yl [x.enc] (h ++ r) K) :
    ∀ (e : Ex) (n : Nat) (h r : List Blk) (K : AV → List Blk → Prop), (∀ (k : Nat) y, (parts e)[k]? = some y → L[n + k]? = some y) → I n h →
      (∀ h' r', I (n + (parts e).length) h' → K (.b true) (h' ++ (r ++ r'))) → (∀ h' r', St h' → K (.b false) (h' ++ (r ++ r'))) → ACall Tryz.prog 129 [e.enc, .fn (.yield yl) [] []] (h ++ r) K := by
  intro e
  induction e using Ex.ind with
  | _ e ih =>
  intro n h r K hL hI hT hF
  refine acallK_of_vc tabOK Tryz.func129 (by kernel_rfl) rfl (n := 23) rfl (rs := [.tmp 4]) rfl ?_
  simp only [go_sem]
  have h0 : L[n]? = some e := by have := hL 0 e (by rw [parts_eq]; rfl); simpa using this
  have hm := hlen _ _ hI
  refine hy n e h (r ++ [exBx e]) _ h0 hI (fun h1 r1 hI1 => ?_) (fun h1 r1 hS1 => ?_)
  · have hm1 := hlen _ _ hI1
    have hbox : (h1 ++ (r ++ exBx e :: r1))[h.length + r.length]? = some (.cells 47 [.i e.kind, .i e.n, .s e.name, .i e.op, .lst 1 (e.arms.map AV.s) none, .lst 6 (e.subs.map Ex.enc) none]) := by
      rw [List.getElem?_append_right (by omega), List.getElem?_append_right (by omega)]
      rw [show h.length + r.length - h1.length - r.length = 0 by omega]; rfl
    simp only [go_sem, hbox]
    intro _
    refine loop_fr [4, 6, 14, 15, 16, 17, 18, 19, 20, 21, 22] (fun m C hh => ∃ (i : Nat) (h' r' : List Blk), i ≤ e.subs.length ∧ m = e.subs.length - i ∧ I (n + 1 + (partsL (e.subs.take i)).length) h' ∧ C = [(14, .raw (.int .i64 (i : Nat)))] ∧ hh = h' ++ (r ++ exBx e :: r')) e.subs.length _ ⟨0, h1, r1, by omega, by omega, by simpa [partsL] using hI1, rfl, rfl⟩ (.cons rfl .nil) ?_
    rintro m C j hh ⟨i, h', r', hi, rfl, hI', rfl, rfl⟩
    simp only [go_sem]
    refine brK_dec (fun hlt => ?_) (fun hge => ?_)
    · simp only [go_sem]
      refine elemMap (by omega) (by omega) (fun x hx => ?_)
      have hx' : e.subs[i]? = some x := by simpa using hx
      simp only [go_sem]
      refine ih x (List.mem_of_getElem? hx') (n + 1 + (partsL (e.subs.take i)).length) h' (r ++ exBx e :: (r' ++ [exBx x])) _ (parts_sub hL hx') hI' (fun h2 r2 hI2 => ?_) (fun h2 r2 hS2 => ?_)
      · simp only [go_sem]
        exact loopFr _ (by omega) ⟨i + 1, h2, r' ++ (exBx x :: r2), by omega, rfl, by rw [parts_len hx', ← Nat.add_assoc]; exact hI2, rfl, by simp⟩ (.next rfl (by omega) .nil) rfl
      · simp only [go_sem]
        exact finK (r := .b false) rfl (by have := hF h2 (exBx e :: (r' ++ (exBx x :: r2))) hS2; simpa using this)
    · simp only [go_sem]
      have hie : i = e.subs.length := by omega
      subst hie
      rw [List.take_length] at hI'
      exact finK rfl (hT h' (exBx e :: r') (by rw [parts_eq, List.length_cons, show n + ((partsL e.subs).length + 1) = n + 1 + (partsL e.subs).length by omega]; exact hI'))
  · simp only [go_sem]
    exact finK rfl (hF h1 (exBx e :: r1) hS1)


theorem each28 (e : Ex) {h : List Blk} {K : AV → List Blk → Prop} (hK : K (.fn (.func 128) [] [.ptr h.length 0]) (h ++ [exBx e])) : ACall Tryz.prog 108 [e.enc] h K := by
  refine acallK_of_vc tabOK Tryz.func108 (by kernel_rfl) rfl (n := 4) rfl (rs := [.tmp 2]) rfl ?_
  simp only [go_sem]
  exact finK rfl hK
theorem each52 (e : Ex) (yl m0 : Nat) (I : Nat → List Blk → Prop) (St : List Blk → Prop) (hlen : ∀ n h, I n h → h.length = m0) (hst : ∀ h, St h → h.length = m0)
    (hy : ∀ n x h r (K : AV → List Blk → Prop), (parts e)[n]? = some x → I n h → (∀ h' r', I (n + 1) h' → K (.b true) (h' ++ (r ++ r'))) → (∀ h' r', St h' → K (.b false) (h' ++ (r ++ r'))) → YCall Tryz.prog yl [x.enc] (h ++ r) K)
    {h : List Blk} {k : Nat} {K : AV → List Blk → Prop} (hk : h[k]? = some (exBx e)) (h0 : I 0 h) (hT : ∀ h' r', I (parts e).length h' → K (.tup []) (h' ++ r')) (hF : ∀ h' r', St h' → K (.tup []) (h' ++ r')) :
    ACall Tryz.prog 128 [.fn (.yield yl) [] [], .ptr k 0] h K := by
  have hk' : h[k]? = some (.cells 47 [.i e.kind, .i e.n, .s e.name, .i e.op, .lst 1 (e.arms.map AV.s) none, .lst 6 (e.subs.map Ex.enc) none]) := hk
  refine acallK_of_vc tabOK Tryz.func128 (by kernel_rfl) rfl (n := 6) rfl (rs := []) rfl ?_
  simp only [go_sem, hk']
  have hw := walk53 yl m0 (parts e) I St hlen hst hy e 0 h []
  rw [List.append_nil] at hw
  refine hw _ (fun k y hy => by simpa using hy) h0 (fun h' r' hI' => ?_) (fun h' r' hS' => ?_)
  · simp only [go_sem]
    rw [Nat.zero_add] at hI'
    exact ⟨[], rfl, .tup [], .refl _, hT _ _ hI'⟩
  · simp only [go_sem]
    exact ⟨[], rfl, .tup [], .refl _, hF _ _ hS'⟩
theorem acall_ghost {P : Program} {f : FuncId} {args args' : List AV} {h h' : List Blk} {K : AV → List Blk → Prop} (hg : Ghost args h args' h') (hc : ACall P f args' h' K) : ACall P f args h K := by
  unfold ACall Ghost at *
  intro S φ w vs hr ha
  obtain ⟨S1, φ1, k1, k2, k3⟩ := hg S φ w vs ha hr
  obtain ⟨h1, h2⟩ := hc S1 φ1 w vs k2 k1
  refine ⟨h1, Calls.mono h2 ?_⟩
  rintro e w' ⟨v, r, hh, S', φ', e1, e2, e3, e4, e5⟩
  exact ⟨v, r, hh, S', φ', e1, e2, e3, e4, k3.trans e5⟩
/-- A range over the parts of an expression. H: what lies ahead of the loop's record behind so many rounds, G: behind it; Inv: what holds then; Hs: where a round has returned. -/
theorem each_range (e : Ex) {ps : Array Tmp} {x y : Code} {s : List AV} {l : Nat} {Q : Post} (m k g : Nat) (Inv : Nat → Prop) (H G : Nat → List Blk) (Hs : List Blk → Prop) (hH : ∀ n, (H n).length = m) (hG : ∀ n, (G n).length = g) (hHs : ∀ h, Hs h → h.length = m) (hk : (H 0)[k]? = some (exBx e)) (hps : ps.size = 1) (hx : noR x = true) (hy : noR y = true) (h0 : Inv 0)
    (hbody : ∀ (n : Nat) (z : Ex) (r : List Blk) (K : AV → List Blk → Prop), (parts e)[n]? = some z → Inv n → (Inv (n + 1) → ∀ r', K (.b true) (H (n + 1) ++ (.lp l .ready none ps x y s :: (G (n + 1) ++ (r ++ r'))))) → (∀ h' r', Hs h' → K (.b false) (h' ++ (.lp l .done (some .ret) ps x y s :: (G n ++ (r ++ r'))))) →
      vc Tryz.prog ti x (roundA Tryz.prog ti l m ps x y s K) (setPs s ps.toList [z.enc]) (H n ++ (.lp l .ready none ps x y s :: (G n ++ r))))
    (hn : ∀ r, Inv (parts e).length → Q .normal s (H (parts e).length ++ (.dead :: (G (parts e).length ++ r)))) (hr : ∀ n h' r, Hs h' → Q .ret s (h' ++ (.dead :: (G n ++ r)))) :
    ACall Tryz.prog 128 [.fn (.yield l) [] [], .ptr k 0] (H 0 ++ (.lp l .ready none ps x y s :: G 0)) (fun _ h' => loopEnd Q s m h') := by
  refine each52 e l (m + 1 + g) (fun n h => Inv n ∧ h = H n ++ (.lp l .ready none ps x y s :: G n)) (fun h => ∃ n h', Hs h' ∧ h = h' ++ (.lp l .done (some .ret) ps x y s :: G n)) ?_ ?_ ?_ ?_ ⟨h0, rfl⟩ ?_ ?_
  · rintro n h ⟨_, rfl⟩; simp [hH, hG]; omega
  · rintro h ⟨n, h', hs, rfl⟩; simp [hHs h' hs, hG]; omega
  · rintro n z h r K hz ⟨hi, rfl⟩ hK1 hK2
    rw [List.append_assoc, List.cons_append]
    refine ycall_of_vc tabOK (k := m) (ps := ps) (x := x) (y := y) (s := s) ?_ (by simp [hps]) hx hy (hbody n z r K hz hi (fun hi' r' => ?_) (fun h' r' hs => ?_))
    · rw [List.getElem?_append_right (by rw [hH]; exact Nat.le_refl _), hH, Nat.sub_self]; rfl
    · have := hK1 _ r' ⟨hi', rfl⟩
      rwa [List.append_assoc, List.cons_append] at this
    · have := hK2 _ r' ⟨n, h', hs, rfl⟩
      rwa [List.append_assoc, List.cons_append] at this
  · rw [List.getElem?_append_left (List.getElem?_eq_some_iff.1 hk).1]; exact hk
  · rintro h' r' ⟨hi, rfl⟩
    have e1 : ((H (parts e).length ++ (Blk.lp l .ready none ps x y s :: G (parts e).length)) ++ r')[m]? = some (.lp l .ready none ps x y s) := by
      rw [List.append_assoc, List.getElem?_append_right (by rw [hH]; exact Nat.le_refl _), hH, Nat.sub_self]; rfl
    have e2 : ((H (parts e).length ++ (Blk.lp l .ready none ps x y s :: G (parts e).length)) ++ r').set m .dead = H (parts e).length ++ (.dead :: (G (parts e).length ++ r')) := by
      rw [List.append_assoc, List.set_append_right _ _ (by rw [hH]; exact Nat.le_refl _), hH, Nat.sub_self]; rfl
    unfold loopEnd
    rw [e1, e2]
    exact hn r' hi
  · rintro h r' ⟨n, h', hs, rfl⟩
    have e1 : ((h' ++ (Blk.lp l .done (some .ret) ps x y s :: G n)) ++ r')[m]? = some (.lp l .done (some .ret) ps x y s) := by
      rw [List.append_assoc, List.getElem?_append_right (by rw [hHs h' hs]; exact Nat.le_refl _), hHs h' hs, Nat.sub_self]; rfl
    have e2 : ((h' ++ (Blk.lp l .done (some .ret) ps x y s :: G n)) ++ r').set m .dead = h' ++ (.dead :: (G n ++ r')) := by
      rw [List.append_assoc, List.set_append_right _ _ (by rw [hHs h' hs]; exact Nat.le_refl _), hHs h' hs, Nat.sub_self]; rfl
    unfold loopEnd
    rw [e1, e2]
    exact hr n h' r' hs

theorem size20 (e : Ex) (hb : (parts e).length ≤ 100000) : PCall Tryz.prog 106 [e.enc] (.i ((parts e).length : Nat)) := by
  refine pcall_of_vc tabOK Tryz.func106 (by kernel_rfl) rfl pureL pureI (n := 10) rfl (rs := [.tmp 2]) rfl ?_
  simp only [go_sem]
  refine each28 e ?_
  simp only [go_sem]
  intro l
  refine each_range e 3 2 0 (fun _ => True) (fun n => [exBx e, .cells 3 [.i (n : Nat)], exBx e]) (fun _ => []) (fun _ => False) (fun _ => rfl) (fun _ => rfl) (fun _ h => h.elim) rfl rfl rfl rfl trivial (fun n z r K hz _ hK1 _ => ?_) (fun r _ => ?_) (fun _ _ _ h => h.elim)
  · have hn := (List.getElem?_eq_some_iff.1 hz).1
    simp only [go_sem, setPs, roundA]
    try refine ⟨rfl, ?_⟩
    try simp only [go_sem, roundB]
    have := hK1 trivial []
    rw [wrap_in _ (by omega) (by omega)]
    simpa using this
  · simp only [go_sem]
    exact ⟨_, rfl, false, .refl _⟩
theorem literal48 (e : Ex) : PCall Tryz.prog 149 [e.enc] (.b (litE e)) := by
  refine pcall_of_vc tabOK Tryz.func149 (by kernel_rfl) rfl pureL pureI (n := 28) rfl (rs := [.tmp 2]) rfl ?_
  repeat' first
    | (exfalso; omega)
    | simp only [go_sem]
    | (intro _)
    | refine brK_dec (fun _ => ?_) (fun _ => ?_)
    | refine gK_dec (fun _ => ?_) (fun _ => ?_)
    | refine elemMap (by omega) (by omega) (fun x hx => ?_)
    | (refine finBq rfl ?_; have hk := k0_at hx; simp [litE, *]; done)
    | (refine finBq rfl ?_; simp [litE, *]; done)
    | (refine finBq rfl ?_; have h1 : ¬ e.subs.length = 1 := (by omega); simp [litE, *]; done)
    | (refine finBq rfl ?_; have h1 : e.subs.length = 1 := (by omega); have hk := k0_at hx; simp [litE, *]; done)

theorem containsExR {l : List Ex} {p : Ex → Bool} {g : Nat} {first capt : List AV} {h : List Blk} {K : AV → List Blk → Prop} (hp : ∀ x ∈ l, ∀ K : AV → List Blk → Prop, K (.b (p x)) h → ACall Tryz.prog g (first ++ Ex.enc x :: capt) h K)
    (hK : K (.b (l.any p)) h) : ACall Tryz.prog 150 [.lst 6 (l.map Ex.enc) none, .fn (.func g) first capt] h K := by
  refine acall_of_vc tabOK Tryz.func150 (by kernel_rfl) rfl (n := 9) rfl (rs := [.tmp 4]) rfl ?_
  simp only [go_sem]
  refine indexEx hp ?_
  simp only [go_sem]
  rw [idx_any]
  exact finH1 rfl (.raw _) hK

theorem containsStrR {l : List ByteArray} {p : ByteArray → Bool} {g : Nat} {first capt : List AV} {h : List Blk} {K : AV → List Blk → Prop} (hp : ∀ x ∈ l, ∀ K : AV → List Blk → Prop, K (.b (p x)) h → ACall Tryz.prog g (first ++ AV.s x :: capt) h K)
    (hK : K (.b (l.any p)) h) : ACall Tryz.prog 102 [.lst 1 (l.map AV.s) none, .fn (.func g) first capt] h K := by
  refine acall_of_vc tabOK Tryz.func102 (by kernel_rfl) rfl (n := 9) rfl (rs := [.tmp 4]) rfl ?_
  simp only [go_sem]
  refine indexStr hp ?_
  simp only [go_sem]
  rw [idx_any]
  exact finH1 rfl (.raw _) hK

theorem const18 (e : Ex) : PCall Tryz.prog 133 [e.enc] (.b (constE e)) := by
  refine pcall_of_vc tabOK Tryz.func133 (by kernel_rfl) rfl pureL pureI (n := 12) rfl (rs := [.tmp 2]) rfl ?_
  simp only [go_sem]
  refine brK_dec (fun h14 => ?_) (fun h14 => ?_)
  · simp only [go_sem]
    refine PCall.call (literal48 e) ?_
    simp only [go_sem]
    exact finBq rfl (by simp [constE, h14])
  · have h14 : e.kind = 14 := Classical.not_not.1 h14
    simp only [go_sem]
    refine containsExR (p := fun x => !litE x) (fun x hx K hK => ?_) ?_
    · refine acall_of_vc tabOK Tryz.func151 (by kernel_rfl) rfl (n := 6) rfl (rs := [.tmp 2]) rfl ?_
      simp only [go_sem]
      refine PCall.call (literal48 x) ?_
      simp only [go_sem]
      exact finH0 _ rfl (.raw _) hK
    simp only [go_sem]
    exact finBq rfl (by simp [constE, h14, List.all_eq_not_any_not])
theorem arm71 (s : ByteArray) : PCall Tryz.prog 132 [.s s] (.b (armE s)) := by
  refine pcall_of_vc tabOK Tryz.func132 (by kernel_rfl) rfl pureL pureI (n := 13) rfl (rs := [.tmp 2]) rfl ?_
  unfold armE
  repeat' first
    | exact finB rfl
    | exact finI rfl
    | exact finP rfl
    | exact absurd rfl (by assumption)
    | simp only [go_sem]
    | (intro _)
    | refine brK_dec (fun _ => ?_) (fun _ => ?_)
    | refine brK_split (fun hb_ => ?_) (fun hb_ => ?_)
    | refine gK_dec (fun _ => ?_) (fun _ => ?_)
    | refine gK_split (fun hb_ => ?_) (fun hb_ => ?_)
    | refine gqK_dec (fun _ => ?_) (fun _ => ?_)
    | refine ⟨by omega, ?_⟩
    | refine elemHave (by omega) (by assumption) ?_
    | refine elemMap (by omega) (by omega) (fun x hx => ?_)
    | refine drawK mo (by kernel_rfl) ?_
    | (refine PCall.call (high8 s) ?_; generalize highF s = q; cases q)
    | (exact finBq rfl (by simp [*]))


theorem part46 (e : Ex) (hn : e.name.size ≤ 1000000) : PCall Tryz.prog 109 [e.enc] (.b (partP e)) := by
  refine pcall_of_vc tabOK Tryz.func109 (by kernel_rfl) rfl (by first | exact pureL | exact pureI) (.raw _) (n := 79) rfl (rs := [.tmp 2]) rfl ?_
  have h2 : 1 ≤ (ofE e).1.least ∨ ¬ e.kind = 8 := by
    by_cases h8 : e.kind = 8
    · left; simp [ofE, nothingE, h8]
    · right; exact h8
  unfold partP
  simp only [go_sem]
  refine PCall.call (of68 e hn) ?_
  generalize ofE e = R at h2 ⊢
  obtain ⟨⟨x, y, z, a, b, c⟩, ok⟩ := R
  dsimp only at h2
  cases ok <;> cases x <;> cases y <;> cases z <;>
  repeat' first
    | (exfalso; omega)
    | simp only [go_sem]
    | (intro _)
    | refine brK_dec (fun _ => ?_) (fun _ => ?_)
    | refine gK_dec (fun _ => ?_) (fun _ => ?_)
    | refine brK_split (fun hb_ => ?_) (fun hb_ => ?_)
    | refine gK_split (fun hb_ => ?_) (fun hb_ => ?_)
    | (refine PCall.call (once12 e.arms) ?_; generalize ho : onceB e.arms = o; cases o)
    | (refine containsStrR (p := fun s => !armE s) (fun s hs K hK => ?_) ?_
       · refine acall_of_vc tabOK Tryz.func131 (by kernel_rfl) rfl (n := 6) rfl (rs := [.tmp 2]) rfl ?_
         simp only [go_sem]
         refine PCall.call (arm71 s) ?_
         simp only [go_sem]
         exact finH0 _ rfl (.raw _) hK
       have hall : e.arms.all armE = !(e.arms.any fun s => !armE s) := List.all_eq_not_any_not
       rw [hall]
       generalize (e.arms.any fun s => !armE s) = q
       cases q)
    | refine elemMap (by omega) (by omega) (fun x hx => ?_)
    | (refine PCall.call (const18 _) ?_)
    | (refine finBq rfl ?_; simp [*]; done)
    | (refine finBq rfl ?_; simp [*]; omega)
    | (refine finBq rfl ?_; have hm : e.arms.length = 0 := (by omega); simp [*]; done)
    | (refine finBq rfl ?_; have f1 : a ≤ (e.subs.length : Int) := (by omega); have f2 : (e.subs.length : Int) ≤ b := (by omega); have f3 : (e.arms.length : Int) ≤ c := (by omega)
       rw [decide_eq_true f1, decide_eq_true f2, decide_eq_true f3]
       first
         | (have hm : ¬ e.arms.length = 0 := (by omega); rw [decide_eq_false hm]; first | (simp [*]; done) | (rw [head_at hx]; simp [*]; done))
         | (have hm : ¬ c > 0 := (by omega); rw [decide_eq_false hm]; first | (simp [*]; done) | (rw [head_at hx]; simp [*]; done)))





abbrev eH (e : Ex) : List Blk := [.cells 47 [.i e.kind, .i e.n, .s e.name, .i e.op, .lst 1 (e.arms.map AV.s) none, .lst 6 (e.subs.map Ex.enc) none]]




mutual
def countF : Ex → Int → Int
  | .mk _ _ _ _ _ s, left => if left ≤ 0 then 0 else countL s (left - 1)
def countL : List Ex → Int → Int
  | [], left => left
  | x :: xs, left => if left > 0 then countL xs (countF x left) else left
end
theorem countF_eq (e : Ex) (left : Int) : countF e left = if left ≤ 0 then 0 else countL e.subs (left - 1) := by cases e; simp [countF, Ex.subs]

mutual
theorem countF_le : ∀ (e : Ex) (l : Int), countF e l = 0 ∨ (0 ≤ countF e l ∧ countF e l < l)
  | .mk _ _ _ _ _ s, l => by
    rw [countF]
    split
    · left; omega
    · have := countL_le s (l - 1)
      omega
theorem countL_le : ∀ (es : List Ex) (l : Int), (l ≤ 0 ∧ countL es l = l) ∨ (0 ≤ countL es l ∧ countL es l ≤ l)
  | [], l => by rw [countL]; omega
  | x :: xs, l => by
    rw [countL]
    split
    · have h1 := countF_le x l
      have h2 := countL_le xs (countF x l)
      omega
    · omega
end

theorem count_spec : ∀ (e : Ex) (left : Int), left ≤ 200 → PCall Tryz.prog 38 [e.enc, .i left] (.i (countF e left)) := by
  intro e
  induction e using Ex.ind with
  | _ e ih =>
  intro left hl
  refine pcall_of_vc tabOK Tryz.func38 (by kernel_rfl) rfl (pure_cons (pure_enc e) (pure_cons (.raw _) pure_nil)) (.raw _) (n := 29) rfl (rs := [.tmp 4]) rfl ?_
  simp only [go_sem]
  rw [countF_eq]
  refine brK_dec (fun hb => ?_) (fun hb => ?_)
  · simp only [go_sem]
    rw [if_pos hb]
    exact ⟨_, rfl, false, .refl _⟩
  · simp only [go_sem]
    rw [if_neg hb, wrap_in _ (by omega) (by omega)]
    refine loop_rule (fun n s h => ∃ (k : Nat) (l : Int), k ≤ e.subs.length ∧ 0 ≤ l ∧ l ≤ 200 ∧ n = e.subs.length - k ∧ countL (e.subs.drop k) l = countL e.subs (left - 1) ∧ 
      Vis 29 [(1, .i l), (2, .ptr 0 0), (5, .i k)] s ∧ h = [.cells 47 [.i e.kind, .i e.n, .s e.name, .i e.op, .lst 1 (e.arms.map AV.s) none, .lst 6 (e.subs.map Ex.enc) none]]) _ ⟨0, left - 1, by omega, by omega, by omega, rfl, rfl, .cons rfl (.cons rfl (.cons rfl (.nil rfl))), rfl⟩ ?_
    rintro n s h ⟨k, l, hk, hl0, hl, rfl, hc, hv, rfl⟩
    obtain ⟨j, rfl⟩ := hv.out
    simp only [go_sem]
    intro hm
    have fin : (¬ ((k : Int) < e.subs.length) ∨ ¬ 0 < l) → countL e.subs (left - 1) = l := by
      intro hor
      rw [← hc]
      rcases hor with hor | hor
      · rw [List.drop_of_length_le (by omega), countL]
      · cases hd : e.subs.drop k with
        | nil => rw [countL]
        | cons x xs => rw [countL, if_neg hor]
    refine gK_dec (fun hlt => ?_) (fun hge => ?_)
    · simp only [go_sem]
      refine brK_dec (fun hpos => ?_) (fun hneg => ?_)
      · simp only [go_sem]
        have hlt' : k < e.subs.length := by omega
        refine elemK (e.subs[k]).enc (by omega) (map_at _ (List.getElem?_eq_getElem hlt')) ?_
        simp only [go_sem]
        have hm1 := ih e.subs[k] (List.getElem_mem _) l hl
        refine PCall.call hm1 ?_
        simp only [go_sem]
        have hle := countF_le e.subs[k] l
        rw [wrap_in _ (by omega) (by omega)]
        refine loopGo _ ?_ ⟨k + 1, countF e.subs[k] l, by omega, by omega, by omega, rfl, ?_, .cons rfl (.cons rfl (.cons rfl (.nil rfl))), rfl⟩
        · omega
        · rw [← hc, List.drop_eq_getElem_cons hlt', countL, if_pos (by omega)]
      · simp only [go_sem]
        rw [fin (.inr hneg)]
        exact ⟨_, rfl, false, .refl _⟩
    · simp only [go_sem]
      rw [fin (.inl hge)]
      exact ⟨_, rfl, false, .refl _⟩


theorem few_e (e : Ex) (he : (parts e).length ≤ 100000) : PCallE Tryz.prog 39 [e.enc] (fun r => ∃ b : Bool, r = .b b ∧ (b = true → ∀ x ∈ parts e, x.name.size ≤ 200 ∧ ∀ a ∈ x.arms, a.size ≤ 100)) := by
  refine pcallE_of_vc tabOK Tryz.func39 (by kernel_rfl) rfl (pure_cons (pure_enc e) pure_nil) (n := 50) rfl (rs := [.tmp 2]) rfl ?_
  repeat' first
    | exact finB rfl
    | exact finI rfl
    | exact finP rfl
    | exact absurd rfl (by assumption)
    | simp only [go_sem]
    | (intro _)
    | refine brK_dec (fun _ => ?_) (fun _ => ?_)
    | refine brK_any ?_ ?_
    | refine gK_dec (fun _ => ?_) (fun _ => ?_)
    | refine gK_any ?_ ?_
    | refine gqK_dec (fun _ => ?_) (fun _ => ?_)
    | refine ⟨by omega, ?_⟩
    | refine elemHave (by omega) (by assumption) ?_
    | refine elemMap (by omega) (by omega) (fun x hx => ?_)
    | refine drawK mo (by kernel_rfl) ?_
    | (exact finBk (K := fun b => b = true → ∀ x ∈ parts e, x.name.size ≤ 200 ∧ ∀ a ∈ x.arms, a.size ≤ 100) rfl (fun _ => take_full hpi (by omega)))
    | (exact finBk (K := fun b => b = true → ∀ x ∈ parts e, x.name.size ≤ 200 ∧ ∀ a ∈ x.arms, a.size ≤ 100) rfl (by intro h; cases h))
    | (refine PCall.call (parts_spec _ he) ?_)
    | exact loopGo _ (by omega) ⟨i + 1, by omega, rfl, (take_all hpi (by assumption) ⟨by omega, take_full hpk (by omega)⟩), (.next rfl (by omega) (.cons rfl (.cons rfl (.nil rfl)))), rfl⟩
    | (refine loop_rule (fun n s h => ∃ (i : Nat), i ≤ (parts e).length ∧ n = (parts e).length - i ∧ (∀ x ∈ (parts e).take i, x.name.size ≤ 200 ∧ ∀ a ∈ x.arms, a.size ≤ 100) ∧ Vis 50 [(4, .i i), (1, .ptr 0 0), (3, .lst 6 ((parts e).map Ex.enc) none)] s ∧ h = eH e) ((parts e).length) ⟨0, by omega, by omega, (by simp), (.cons rfl (.cons rfl (.cons rfl (.nil rfl)))), rfl⟩ ?_; rintro n s h ⟨i, hi, rfl, hpi, hvi, rfl⟩; obtain ⟨ji, rfl⟩ := hvi.out)
    | exact loopGo _ (by omega) ⟨k + 1, by omega, rfl, (take_all hpk (by assumption) (by omega)), (.next rfl (by omega) (.cons rfl (.cons rfl (.cons rfl (.nil rfl))))), rfl⟩
    | (refine loop_rule (fun n s h => ∃ (k : Nat), k ≤ x.arms.length ∧ n = x.arms.length - k ∧ (∀ a ∈ x.arms.take k, a.size ≤ 100) ∧ Vis 50 [(5, .i k), (1, .ptr 0 0), (3, .lst 6 ((parts e).map Ex.enc) none), (4, .i i)] s ∧ h = eH e) (x.arms.length) ⟨0, by omega, by omega, (by simp), (.cons rfl (.cons rfl (.cons rfl (.cons rfl (.nil rfl))))), rfl⟩ ?_; rintro n s h ⟨k, hk, rfl, hpk, hvk, rfl⟩; obtain ⟨jk, rfl⟩ := hvk.out)
end Go.Proofs.YtkjfhhioomnbfaaGreatDoor

namespace Go.Proofs.YtkjfhhioomnbfaaGreatDoor
open Go.Abs
set_option maxRecDepth 20000
set_option linter.unusedSimpArgs false
set_option linter.unusedVariables false
set_option maxHeartbeats 1000000
attribute [local irreducible] vc vcOps vcStep vcGuard prK hrK gK gsK brK callK ElemK SeqK BlockK ScopeK OpsK CallK LoopK LoopGo finPost ACall PCall PCallE BCall vqOps vqStep vqGuard qrK heK pcK gqK gqsK QOpsK qcallK DrawK
mutual
theorem count_size : ∀ (e : Ex) (l : Int), 0 < countF e l → countF e l = l - (parts e).length
  | .mk _ _ _ _ _ s, l => by
    rw [countF, parts]
    split
    · intro h; omega
    · intro h
      have := countL_size s (l - 1) h
      simp only [List.length_cons]
      omega
theorem countL_size : ∀ (es : List Ex) (l : Int), 0 < countL es l → countL es l = l - (partsL es).length
  | [], l => by rw [countL, partsL]; simp
  | x :: xs, l => by
    rw [countL, partsL]
    split
    · intro h
      have h1 := countL_size xs (countF x l) h
      have h3 : 0 < countF x l := by
        have := countL_le xs (countF x l)
        omega
      have h2 := count_size x l h3
      simp only [List.length_append]
      omega
    · intro h; omega
end

abbrev okE (e : Ex) : Prop := (parts e).length ≤ 200 ∧ ∀ x ∈ parts e, x.name.size ≤ 200 ∧ ∀ a ∈ x.arms, a.size ≤ 100


theorem small_e (e : Ex) : PCallE Tryz.prog 19 [e.enc] (fun r => ∃ b : Bool, r = .b b ∧ (b = true → okE e)) := by
  refine pcallE_of_vc tabOK Tryz.func19 (by kernel_rfl) rfl (pure_cons (pure_enc e) pure_nil) (n := 10) rfl (rs := [.tmp 2]) rfl ?_
  have hc := count_size e 200
  repeat' first
    | exact finB rfl
    | exact finI rfl
    | exact finP rfl
    | exact absurd rfl (by assumption)
    | simp only [go_sem]
    | (intro _)
    | refine brK_dec (fun _ => ?_) (fun _ => ?_)
    | refine brK_any ?_ ?_
    | refine gK_dec (fun _ => ?_) (fun _ => ?_)
    | refine gK_any ?_ ?_
    | refine gqK_dec (fun _ => ?_) (fun _ => ?_)
    | refine ⟨by omega, ?_⟩
    | refine elemHave (by omega) (by assumption) ?_
    | refine elemMap (by omega) (by omega) (fun x hx => ?_)
    | refine drawK mo (by kernel_rfl) ?_
    | (exact finBk (K := fun b => b = true → okE e) rfl (fun hb => ⟨by omega, hr hb⟩))
    | (exact finBk (K := fun b => b = true → okE e) rfl (by intro h; cases h))
    | (refine PCall.call (count_spec e 200 (by omega)) ?_)
    | (refine PCallE.call (few_e e (by omega)) (fun r hr => ?_); obtain ⟨b, rfl, hr⟩ := hr)

end Go.Proofs.YtkjfhhioomnbfaaGreatDoor

/-
  Fresh slices: a call's result that its caller may append to.
-/
namespace Go.Abs
open Go

section
variable {P : Program} {T : TypeId → TI} {s : List AV} {h : List Blk} {c : Code}

/-- What the end of a function must be whose result is a fresh slice, with its token at the caller's next place. -/
def FinT (T : TypeId → TI) (rs : List ResultVar) (h : List Blk) (e : TypeId) (sz : Nat) (l : List AV) (K : AV → List Blk → Prop) (s : List AV) (h' : List Blk) : Prop :=
  ∃ h1 junk k, resAV T s h' rs = some [.lst sz l (some k)] ∧ h' = h1 ++ junk ∧ Chg h.length h h1 ∧ h.length ≤ k ∧ h'[k]? = some (.tok e sz l.length) ∧ (∀ c ∈ flat l, Blw h.length c) ∧
    K (.lst sz l (some h.length)) (h1 ++ [.tok e sz l.length])

/-- A slot that holds no slice becomes an empty list with a token. -/
theorem ghost_tok (t : Nat) (e : TypeId) (sz : Nat) (ht : s[t]? = some (.raw (.slice none 0 0))) : Ghost s h (s.set t (.lst sz [] (some h.length))) (h ++ [.tok e sz 0]) := by
  intro S φ w vs hs hr
  obtain ⟨k1, k2⟩ := hr.push (l := .tok 0 (.slice none 0 0)) (x := .tok e sz 0) (S' := S) (w' := w) rfl rfl rfl (Nat.le_refl _) (fun _ _ => rfl) (fun _ h => h) (fun _ h => .inl h) hr.bnd
    ⟨_, upd_same _ _ _, .inl ⟨rfl, rfl⟩⟩ (fun b hb => by simp [blockOf] at hb)
  refine ⟨S, _, ?_, k1, k2⟩
  have hs' := k2.CAll hs
  obtain ⟨v, hv, hc⟩ := hs.at ht
  cases hc
  have := hs'.set t (C.lstnil (S := S) (w := w) sz (some h.length) ⟨_, _, upd_same _ _ _, Nat.le_refl _, fun _ => rfl⟩)
  have e : vs.setIfInBounds t (.slice none 0 0) = vs := by
    apply Array.ext
    · simp
    · intro i h1 h2
      by_cases ei : t = i
      · subst ei
        have hv' : vs[t] = .slice none 0 0 := by
          rw [Array.getElem?_eq_getElem h2] at hv
          exact Option.some.inj hv
        simp [hv']
      · simp [h2, ei]
  rw [e] at this
  exact this

theorem R.recell {S : Addr → Prop} {φ : Nat → Loc} {w : World} {k : Nat} {t : TypeId} {cs cs' : List AV} (r : R S φ h w) (hk : h[k]? = some (.cells t cs)) (hc : ∀ vs, CAll S w φ cs vs → CAll S w φ cs' vs) :
    R S φ (h.set k (.cells t cs')) w ∧ Ext S φ h w S φ (h.set k (.cells t cs')) w := by
  have hkl : k < h.length := by obtain ⟨a, _⟩ := List.getElem?_eq_some_iff.1 hk; exact a
  have hin : ∀ (j : Nat) x, (h.set k (.cells t cs'))[j]? = some x → (j = k ∧ x = .cells t cs') ∨ (j ≠ k ∧ h[j]? = some x) := by
    intro j x hj
    rw [List.getElem?_set] at hj
    split at hj
    · rename_i e
      subst e
      cases hj
      exact .inl ⟨rfl, rfl⟩
    · exact .inr ⟨fun e => by subst e; contradiction, hj⟩
  have hback : ∀ (j : Nat) x b, (h.set k (.cells t cs'))[j]? = some x → blockOf (φ j) x = some b → ∃ y, h[j]? = some y ∧ blockOf (φ j) y = some b := by
    intro j x b hj hb
    rcases hin j x hj with ⟨rfl, rfl⟩ | ⟨_, g⟩
    · refine ⟨_, hk, ?_⟩
      cases hl : φ j <;> rw [hl] at hb <;> simp [blockOf] at hb ⊢ <;> exact hb
    · exact ⟨x, g, hb⟩
  refine ⟨⟨fun j x hj => ?_, fun j j' x x' b hj hj' hb hb' => ?_, r.bnd, fun j hj => r.fresh j (by simpa using hj), fun x hx => ⟨(r.tab x hx).1, fun ⟨j, y, hj, hb⟩ => by
    obtain ⟨z, g1, g2⟩ := hback j y _ hj hb
    exact (r.tab x hx).2 ⟨j, z, g1, g2⟩⟩⟩, ⟨rfl, rfl, rfl, Nat.le_refl _, fun _ _ _ => rfl, fun _ h => h, fun _ _ => rfl, fun _ => Loc.le_refl _, fun _ h => .inl h, ?_⟩⟩
  · rcases hin j x hj with ⟨rfl, rfl⟩ | ⟨_, g⟩
    · obtain ⟨b, vs, h1, h2, h3, h4, h5⟩ := r.blk j _ hk
      exact ⟨b, vs, h1, h2, hc vs h3, h4, h5⟩
    · exact r.blk j x g
  · obtain ⟨y, g1, g2⟩ := hback j x b hj hb
    obtain ⟨y', g3, g4⟩ := hback j' x' b hj' hb'
    exact r.inj j j' y y' b g1 g3 g2 g4
  · rintro b ⟨j, x, hj, hb⟩
    obtain ⟨y, g1, g2⟩ := hback j x b hj hb
    exact .inl ⟨j, y, g1, g2⟩

theorem CAll.nil_tok {S : Addr → Prop} {φ : Nat → Loc} {w : World} {m i : Nat} {cs : List AV} {vs : Array Value} (sz : Nat) (hs : CAll S w φ cs vs) (ht : cs[i]? = some (.raw (.slice none 0 0))) (hm : TokOK φ (some m) 0 (.slice none 0 0)) : CAll S w φ (cs.set i (.lst sz [] (some m))) vs := by
  obtain ⟨v, hv, hc⟩ := hs.at ht
  cases hc
  have := hs.set i (C.lstnil (S := S) (w := w) sz (some m) hm)
  have e : vs.setIfInBounds i (.slice none 0 0) = vs := by
    apply Array.ext
    · simp
    · intro j h1 h2
      by_cases ei : i = j
      · subst ei
        have hv' : vs[i] = .slice none 0 0 := by
          rw [Array.getElem?_eq_getElem h2] at hv
          exact Option.some.inj hv
        simp [hv']
      · simp [h2, ei]
  rw [e] at this
  exact this

/-- A cell that holds no slice comes to hold an empty list with a token. -/
theorem ghost_cell (k i : Nat) (e : TypeId) (sz : Nat) {t : TypeId} {cs : List AV} (hk : h[k]? = some (.cells t cs)) (ht : cs[i]? = some (.raw (.slice none 0 0))) :
    Ghost s h s ((h ++ [Blk.tok e sz 0]).set k (Blk.cells t (cs.set i (.lst sz [] (some h.length))))) := by
  intro S φ w vs hs hr
  obtain ⟨k1, k2⟩ := hr.push (l := .tok 0 (.slice none 0 0)) (x := .tok e sz 0) (S' := S) (w' := w) rfl rfl rfl (Nat.le_refl _) (fun _ _ => rfl) (fun _ h => h) (fun _ h => .inl h) hr.bnd
    ⟨_, upd_same _ _ _, .inl ⟨rfl, rfl⟩⟩ (fun b hb => by simp [blockOf] at hb)
  obtain ⟨q1, q2⟩ := k1.recell (k := k) (t := t) (cs := cs) (cs' := cs.set i (.lst sz [] (some h.length)))
    (by rw [List.getElem?_append_left (by obtain ⟨a, _⟩ := List.getElem?_eq_some_iff.1 hk; exact a)]; exact hk)
    (fun vs hc => hc.nil_tok sz ht ⟨_, _, upd_same _ _ _, Nat.le_refl _, fun _ => rfl⟩)
  exact ⟨S, _, q2.CAll (k2.CAll hs), q1, k2.trans q2⟩

attribute [irreducible] FinT
end
end Go.Abs

namespace Go.Proofs.YtkjfhhioomnbfaaGreatDoor
open Go.Abs
set_option maxRecDepth 20000
set_option linter.unusedSimpArgs false
set_option linter.unusedVariables false
set_option maxHeartbeats 1000000
attribute [local irreducible] vc vcOps vcStep vcGuard prK hrK gK gsK brK callK ElemK SeqK BlockK ScopeK OpsK CallK LoopK LoopGo finPost ACall PCall PCallE BCall vqOps vqStep vqGuard qrK heK pcK gqK gqsK QOpsK qcallK DrawK

theorem depth22 : ∀ (e : Ex), (parts e).length ≤ 100000 → PCall Tryz.prog 107 [e.enc] (.i (depthE e : Nat)) := by
  intro e
  induction e using Ex.ind with
  | _ e ih =>
  intro hl
  refine pcall_of_vc tabOK Tryz.func107 (by kernel_rfl) rfl pureL pureI (n := 20) rfl (rs := [.tmp 2]) rfl ?_
  simp only [go_sem]
  intro _
  refine loop_frX [3, 5, 9, 10, 11, 12, 13, 14, 15, 16, 17] (fun m C => ∃ i : Nat, i ≤ e.subs.length ∧ m = e.subs.length - i ∧ C = [(9, .raw (.int .i64 (i : Nat))), (3, .raw (.int .i64 (depthL (e.subs.take i) : Nat)))]) e.subs.length _ ⟨0, by omega, by omega, rfl⟩ (.cons rfl (.cons (by simp [depthL]) .nil)) ?_
  rintro m C j r ⟨i, hi, rfl, rfl⟩
  simp only [go_sem]
  refine brK_dec (fun hlt => ?_) (fun hge => ?_)
  · simp only [go_sem]
    refine elemMap (by omega) (by omega) (fun x hx => ?_)
    have hx' : e.subs[i]? = some x := by simpa using hx
    simp only [go_sem]
    refine PCall.call (ih x (List.mem_of_getElem? hx') (sub_small (List.mem_of_getElem? hx') hl)) ?_
    simp only [go_sem, max_step hx']
    exact loopFrX _ (by omega) _ ⟨i + 1, by omega, rfl, rfl⟩ (.next rfl (by omega) (.cons rfl .nil)) rfl (by first | rfl | (simp only [List.append_assoc, List.cons_append, List.nil_append]; rfl))
  · have hie : i = e.subs.length := by omega
    subst hie
    have hd := depth_le e
    rw [depthE_eq] at hd ⊢
    rw [List.take_length]
    simp only [go_sem]
    rw [wrap_in _ (by omega) (by omega)]
    exact ⟨_, rfl, false, .refl _⟩

theorem right16 (e : Ex) (ho : okE e) : PCall Tryz.prog 77 [e.enc] (.b (rightE e)) := by
  have hb : (parts e).length ≤ 100000 := by have := ho.1; omega
  refine pcall_of_vc tabOK Tryz.func77 (by kernel_rfl) rfl (by first | exact pureL | exact pureI) (.raw _) (n := 18) rfl (rs := [.cell 2 4]) rfl ?_
  unfold rightE
  simp only [go_sem]
  refine PCall.call (size20 e hb) ?_
  by_cases h1 : (parts e).length ≤ 60 ∧ depthE e ≤ 12
  · rw [decide_eq_true h1.1, decide_eq_true h1.2]
    simp only [go_sem]
    refine gK_dec (fun _ => by exfalso; omega) (fun _ => ?_)
    simp only [go_sem]
    refine PCall.call (depth22 e hb) ?_
    simp only [go_sem]
    refine brK_dec (fun _ => by exfalso; omega) (fun _ => ?_)
    simp only [go_sem]
    refine each28 e ?_
    simp only [go_sem]
    intro l
    refine each_range e 3 2 0 (fun n => ∀ y ∈ (parts e).take n, partE y = true) (fun n => [exBx e, .cells 4 [.b false], exBx e]) (fun _ => []) (fun h => (parts e).all partE = false ∧ h = [exBx e, .cells 4 [.b false], exBx e]) (fun _ => rfl) (fun _ => rfl) (fun _ h => by rw [h.2]; rfl) rfl rfl rfl rfl (by simp) (fun n z r K hz hi hK1 hK2 => ?_) (fun r hi => ?_) (fun n h' r hs => ?_)
    · have hzm := List.mem_of_getElem? hz
      have hoz := ho.2 z hzm
      simp only [go_sem, setPs, roundA]
      try refine ⟨rfl, ?_⟩
      try simp only [go_sem]
      refine PCall.call (part46 z (by omega)) ?_
      rw [part_same]
      cases hp : partE z with
      | true =>
        have hk := hK1 (take_all hi hz hp) [exBx z]
        simp only [go_sem, roundB]
        first | exact hk | (simpa using hk) | (refine ⟨rfl, ?_⟩; simpa using hk)
      | false =>
        have hk := hK2 [exBx e, .cells 4 [.b false], exBx e] [exBx z] ⟨List.all_eq_false.2 ⟨z, hzm, by simp [hp]⟩, rfl⟩
        simp only [go_sem, roundB]
        first | exact hk | (simpa using hk) | (refine ⟨rfl, ?_⟩; simpa using hk)
    · rw [List.take_length] at hi
      rw [List.all_eq_true.2 hi]
      simp only [go_sem]
      exact ⟨_, rfl, false, .refl _⟩
    · obtain ⟨hs, rfl⟩ := hs
      simp only [go_sem]
      rw [hs]
      exact ⟨_, rfl, false, .refl _⟩
  · have hf : (decide ((parts e).length ≤ 60) && decide (depthE e ≤ 12)) = false := by
      by_cases q : (parts e).length ≤ 60
      · have : ¬ depthE e ≤ 12 := fun q' => h1 ⟨q, q'⟩
        simp [this]
      · simp [q]
    rw [hf, Bool.false_and]
    repeat' first
      | (exfalso; exact h1 ⟨by omega, by omega⟩)
      | simp only [go_sem]
      | refine brK_dec (fun _ => ?_) (fun _ => ?_)
      | refine gK_dec (fun _ => ?_) (fun _ => ?_)
      | refine PCall.call (depth22 e hb) ?_
      | exact ⟨_, rfl, false, .refl _⟩
def catB (l : List ByteArray) : ByteArray := ⟨(l.map (·.data.toList)).flatten.toArray⟩
theorem catB_nil : catB [] = ⟨#[]⟩ := rfl
theorem bytes_ext {a b : ByteArray} (h : a.data.toList = b.data.toList) : a = b := by
  cases a; cases b
  congr
  exact Array.toList_inj.1 h
theorem catB_list (l : List ByteArray) : (catB l).data.toList = (l.map (·.data.toList)).flatten := by unfold catB; simp
theorem app_list (a b : ByteArray) : (a ++ b).data.toList = a.data.toList ++ b.data.toList := by
  rw [ByteArray.data_append]
  simp
theorem catB_cons (a : ByteArray) (l : List ByteArray) : catB (a :: l) = a ++ catB l := bytes_ext (by rw [catB_list, app_list, catB_list]; simp)
theorem catB_append (l m : List ByteArray) : catB (l ++ m) = catB l ++ catB m := bytes_ext (by rw [catB_list, app_list, catB_list, catB_list]; simp)
theorem app_assoc (a b c : ByteArray) : a ++ b ++ c = a ++ (b ++ c) := bytes_ext (by rw [app_list, app_list, app_list, app_list, List.append_assoc])
theorem app_nil (a : ByteArray) : a ++ (⟨#[]⟩ : ByteArray) = a := bytes_ext (by rw [app_list]; simp)
theorem nil_app (a : ByteArray) : (⟨#[]⟩ : ByteArray) ++ a = a := bytes_ext (by rw [app_list]; simp)
theorem size_list (a : ByteArray) : a.size = a.data.toList.length := by unfold ByteArray.size; simp
def sumS (l : List ByteArray) : Nat := (l.map ByteArray.size).sum
theorem sumS_cons (a : ByteArray) (l : List ByteArray) : sumS (a :: l) = a.size + sumS l := by simp [sumS]
theorem sumS_append (l m : List ByteArray) : sumS (l ++ m) = sumS l + sumS m := by simp [sumS]
theorem catB_size (l : List ByteArray) : (catB l).size = sumS l := by
  rw [size_list, catB_list]
  induction l with
  | nil => rfl
  | cons a l ih => rw [sumS_cons, List.map_cons, List.flatten_cons, List.length_append, ih, ← size_list]
theorem joinB_cat (l : List ByteArray) : joinB l ⟨#[]⟩ = catB l := by
  apply bytes_ext
  rw [catB_list]
  unfold joinB Lib.join
  simp only [List.toList_toArray]
  generalize l.map (fun x : ByteArray => x.data.toList) = m
  have : ([] : List UInt8).intercalate m = m.flatten := by
    induction m with
    | nil => rfl
    | cons x m ih =>
      cases m with
      | nil => simp [List.intercalate]
      | cons y m => simp only [List.intercalate, List.intersperse, List.flatten_cons, List.nil_append] at ih ⊢; rw [ih]
  exact this
theorem joinB_cons (x y : ByteArray) (l : List ByteArray) (sep : ByteArray) : joinB (x :: y :: l) sep = x ++ (sep ++ joinB (y :: l) sep) := by
  apply bytes_ext
  rw [app_list, app_list]
  unfold joinB Lib.join
  simp [List.intercalate]
theorem joinB_snoc (l : List ByteArray) (x sep : ByteArray) : joinB (l ++ [x]) sep = (if l = [] then ⟨#[]⟩ else joinB l sep ++ sep) ++ x := by
  induction l with
  | nil => rw [if_pos rfl, nil_app]; exact joinB_one x sep
  | cons a l ih =>
    rw [if_neg (by simp)]
    cases l with
    | nil => rw [List.cons_append, List.nil_append, joinB_cons, joinB_one, joinB_one, app_assoc]
    | cons b l =>
      rw [if_neg (by simp)] at ih
      rw [List.cons_append, List.cons_append, joinB_cons, joinB_cons, ← List.cons_append, ih]
      simp only [app_assoc]
theorem joinB_size (l : List ByteArray) (sep : ByteArray) : (joinB l sep).size ≤ sumS l + l.length * sep.size := by
  induction l with
  | nil => rw [joinB_nil]; exact Nat.zero_le _
  | cons x l ih =>
    cases l with
    | nil => rw [joinB_one, sumS_cons]; omega
    | cons y l =>
      rw [joinB_cons, ByteArray.size_append, ByteArray.size_append, sumS_cons, List.length_cons, Nat.add_mul]
      omega
def onT (name arm : ByteArray) : ByteArray := if arm = ⟨#[116, 114, 117, 101]⟩ then name else if arm = ⟨#[102, 97, 108, 115, 101]⟩ then ⟨#[110, 111, 116, 32]⟩ ++ name else arm ++ (⟨#[40]⟩ ++ (name ++ ⟨#[41]⟩))
theorem onT_size (name arm : ByteArray) : (onT name arm).size ≤ name.size + arm.size + 10 := by
  unfold onT
  split
  · omega
  · split
    · rw [ByteArray.size_append]
      show 4 + name.size ≤ _
      omega
    · rw [ByteArray.size_append, ByteArray.size_append, ByteArray.size_append]
      show arm.size + (1 + (name.size + 1)) ≤ _
      omega
def signT (op : Int) : ByteArray :=
  if op = 1 ∨ op = 4 then ⟨#[45]⟩ else if op = 2 then ⟨#[110, 111, 116]⟩ else if op = 3 then ⟨#[43]⟩ else if op = 5 then ⟨#[42]⟩ else if op = 6 then ⟨#[47]⟩ else if op = 7 then ⟨#[109, 111, 100]⟩
  else if op = 8 then ⟨#[97, 110, 100]⟩ else if op = 9 then ⟨#[111, 114]⟩ else if op = 10 then ⟨#[120, 111, 114]⟩ else if op = 11 then ⟨#[61]⟩ else if op = 12 then ⟨#[60, 62]⟩ else if op = 13 then ⟨#[60]⟩ else if op = 14 then ⟨#[60, 61]⟩ else if op = 15 then ⟨#[62]⟩ else if op = 16 then ⟨#[62, 61]⟩ else ⟨#[]⟩
theorem signT_size (op : Int) : (signT op).size ≤ 3 := by
  have key : ∀ (c : Prop) [Decidable c] (a b : ByteArray), a.size ≤ 3 → b.size ≤ 3 → (if c then a else b).size ≤ 3 := by
    intro c _ a b h1 h2
    split
    · exact h1
    · exact h2
  unfold signT
  repeat' first
    | exact (by decide : (⟨#[]⟩ : ByteArray).size ≤ 3)
    | refine key _ _ _ (by decide) ?_
def armsT2 : List ByteArray → List ByteArray → List ByteArray
  | _, [] => []
  | [], _ :: _ => []
  | c :: cs, t :: ts => ⟨#[32]⟩ :: catB [⟨#[40]⟩, c, ⟨#[32, 45, 62, 32]⟩, t, ⟨#[41]⟩] :: armsT2 cs ts
def leafT (e : Ex) : ByteArray :=
  if e.kind = 1 then digB e.n else if e.kind = 2 then (if e.n = 0 then ⟨#[102, 97, 108, 115, 101]⟩ else ⟨#[116, 114, 117, 101]⟩) else if e.kind = 17 then catB [⟨#[39]⟩, e.name, ⟨#[39]⟩] else e.name
def callTx (e : Ex) (ts : List ByteArray) : ByteArray :=
  let s := catB [e.name, ⟨#[40]⟩, joinB (ts.take (ts.length - e.n.toNat)) ⟨#[44, 32]⟩, ⟨#[41]⟩]
  if e.n = 0 then s else catB [⟨#[40]⟩, s, ⟨#[32, 101, 118, 101, 114, 121, 32]⟩, ts.getD (ts.length - e.n.toNat) ⟨#[]⟩, ⟨#[41]⟩]
def headT (e : Ex) (ts : List ByteArray) : ByteArray :=
  let t := fun i => ts.getD i ⟨#[]⟩
  if e.kind = 5 then catB [⟨#[40]⟩, if e.op = 1 then ⟨#[45]⟩ else ⟨#[110, 111, 116, 32]⟩, t 0, ⟨#[41]⟩]
  else if e.kind = 6 then catB [⟨#[40]⟩, t 0, ⟨#[32]⟩, signT e.op, ⟨#[32]⟩, t 1, ⟨#[41]⟩]
  else if e.kind = 7 then catB [⟨#[40]⟩, ⟨#[105, 102, 32]⟩, t 0, ⟨#[32, 116, 104, 101, 110, 32]⟩, t 1, ⟨#[32, 101, 108, 115, 101, 32]⟩, t 2, ⟨#[41]⟩]
  else if e.kind = 8 then catB [⟨#[40]⟩, t 0, ⟨#[32, 102, 98, 121, 32]⟩, t 1, ⟨#[41]⟩]
  else if e.kind = 9 then catB [⟨#[40]⟩, t 0, ⟨#[32, 45, 62, 32]⟩, t 1, ⟨#[41]⟩]
  else if e.kind = 10 then catB [⟨#[40]⟩, ⟨#[112, 114, 101, 32]⟩, t 0, ⟨#[41]⟩]
  else if e.kind = 11 then catB [⟨#[40]⟩, t 0, ⟨#[32, 119, 104, 101, 110, 32]⟩, onT e.name (e.arms.headD ⟨#[]⟩), ⟨#[41]⟩]
  else if e.kind = 12 then catB ([⟨#[40]⟩, ⟨#[109, 101, 114, 103, 101, 32]⟩, e.name] ++ armsT2 e.arms ts ++ [⟨#[41]⟩])
  else if e.kind = 13 then callTx e ts
  else if e.kind = 14 then catB [⟨#[91]⟩, joinB ts ⟨#[44, 32]⟩, ⟨#[93]⟩]
  else if e.kind = 15 then catB [t 0, ⟨#[91]⟩, t 1, ⟨#[93]⟩]
  else if e.kind = 16 then catB [⟨#[40]⟩, t 0, ⟨#[32, 119, 105, 116, 104, 32, 91]⟩, t 1, ⟨#[93, 32, 61, 32]⟩, t 2, ⟨#[41]⟩]
  else leafT e
mutual
def showT : Ex → ByteArray
  | .mk k n m op arms subs => headT (.mk k n m op arms subs) (showL subs)
def showL : List Ex → List ByteArray
  | [] => []
  | x :: l => showT x :: showL l
end
theorem showT_eq (e : Ex) : showT e = headT e (showL e.subs) := by cases e; rw [showT]; rfl
theorem showL_map (l : List Ex) : showL l = l.map showT := by
  induction l with
  | nil => rw [showL]; rfl
  | cons x l ih => rw [showL, ih]; rfl
theorem dig_size (n : Int) (h : I64 n) : (digB n).size ≤ 21 := by
  rw [size_list]
  unfold digB
  simp only [List.toList_toArray]
  exact Lib.itoa_length_le n h.1 h.2
theorem finSq {T : TypeId → TI} {rs : List ResultVar} {s : List AV} {h : List Blk} {a b : ByteArray} (hr : resAV T s h rs = some [.s a]) (he : a = b) : Go.Abs.Fin T rs (.s b) s h := he ▸ ⟨_, hr, false, .refl _⟩
theorem on6 (name arm : ByteArray) (h1 : name.size ≤ 10000000) (h2 : arm.size ≤ 10000000) : PCall Tryz.prog 33 [.s name, .s arm] (.s (onT name arm)) := by
  refine pcall_of_vc tabOK Tryz.func33 (by kernel_rfl) rfl pureL pureI (n := 18) rfl (rs := [.tmp 4]) rfl ?_
  unfold onT
  repeat' first
    | exact finB rfl
    | exact finI rfl
    | exact finP rfl
    | exact absurd rfl (by assumption)
    | simp only [go_sem]
    | (intro _)
    | refine brK_dec (fun _ => ?_) (fun _ => ?_)
    | refine brK_any ?_ ?_
    | refine gK_dec (fun _ => ?_) (fun _ => ?_)
    | refine gK_any ?_ ?_
    | refine gqK_dec (fun _ => ?_) (fun _ => ?_)
    | refine ⟨by omega, ?_⟩
    | refine elemHave (by omega) (by assumption) ?_
    | refine elemMap (by omega) (by omega) (fun x hx => ?_)
    | refine drawK mo (by kernel_rfl) ?_
    | (refine ⟨by first | omega | (simp; omega), ?_⟩)
    | (exact finSq rfl (by simp [app_assoc, *]))
theorem on7 (name arm : ByteArray) (h1 : name.size ≤ 10000000) (h2 : arm.size ≤ 10000000) : PCall Tryz.prog 35 [.s name, .s arm] (.s (onT name arm)) := by
  refine pcall_of_vc tabOK Tryz.func35 (by kernel_rfl) rfl pureL pureI (n := 17) rfl (rs := [.tmp 4]) rfl ?_
  unfold onT
  repeat' first
    | exact finB rfl
    | exact finI rfl
    | exact finP rfl
    | exact absurd rfl (by assumption)
    | simp only [go_sem]
    | (intro _)
    | refine brK_dec (fun _ => ?_) (fun _ => ?_)
    | refine brK_any ?_ ?_
    | refine gK_dec (fun _ => ?_) (fun _ => ?_)
    | refine gK_any ?_ ?_
    | refine gqK_dec (fun _ => ?_) (fun _ => ?_)
    | refine ⟨by omega, ?_⟩
    | refine elemHave (by omega) (by assumption) ?_
    | refine elemMap (by omega) (by omega) (fun x hx => ?_)
    | refine drawK mo (by kernel_rfl) ?_
    | (refine ⟨by first | omega | (simp; omega), ?_⟩)
    | (exact finSq rfl (by simp [app_assoc, *]))
theorem round38 (l : List ByteArray) (h1 : l.length ≤ 100000) (h2 : sumS l ≤ 10000000) : PCall Tryz.prog 111 [.lst 1 (l.map AV.s) none] (.s (catB (⟨#[40]⟩ :: (l ++ [⟨#[41]⟩])))) := by
  refine pcall_of_vc tabOK Tryz.func111 (by kernel_rfl) rfl pureL pureI (n := 7) rfl (rs := [.tmp 2]) rfl ?_
  have hj : (joinB l ⟨#[]⟩).size ≤ 10000000 := by rw [joinB_cat, catB_size]; omega
  simp only [go_sem]
  refine PCall.call (join18 l ⟨#[]⟩ (by omega) (by omega)) ?_
  repeat' first
    | exact finB rfl
    | exact finI rfl
    | exact finP rfl
    | exact absurd rfl (by assumption)
    | simp only [go_sem]
    | (intro _)
    | refine brK_dec (fun _ => ?_) (fun _ => ?_)
    | refine brK_any ?_ ?_
    | refine gK_dec (fun _ => ?_) (fun _ => ?_)
    | refine gK_any ?_ ?_
    | refine gqK_dec (fun _ => ?_) (fun _ => ?_)
    | refine ⟨by omega, ?_⟩
    | refine elemHave (by omega) (by assumption) ?_
    | refine elemMap (by omega) (by omega) (fun x hx => ?_)
    | refine drawK mo (by kernel_rfl) ?_
    | (refine ⟨by first | omega | (simp; omega), ?_⟩)
    | (refine finSq rfl ?_; rw [joinB_cat, catB_cons, catB_append, catB_cons, catB_nil, app_nil, app_assoc])
theorem cmp60 (op : Int) : PCall Tryz.prog 134 [.i op] (.s (if op = 11 then ⟨#[61]⟩ else if op = 12 then ⟨#[60, 62]⟩ else if op = 13 then ⟨#[60]⟩ else if op = 14 then ⟨#[60, 61]⟩ else if op = 15 then ⟨#[62]⟩ else if op = 16 then ⟨#[62, 61]⟩ else ⟨#[]⟩)) := by
  refine pcall_of_vc tabOK Tryz.func134 (by kernel_rfl) rfl pureL pureI (n := 16) rfl (rs := [.tmp 2]) rfl ?_
  repeat' first
    | exact finB rfl
    | exact finI rfl
    | exact finP rfl
    | exact absurd rfl (by assumption)
    | simp only [go_sem]
    | (intro _)
    | refine brK_dec (fun _ => ?_) (fun _ => ?_)
    | refine brK_any ?_ ?_
    | refine gK_dec (fun _ => ?_) (fun _ => ?_)
    | refine gK_any ?_ ?_
    | refine gqK_dec (fun _ => ?_) (fun _ => ?_)
    | refine ⟨by omega, ?_⟩
    | refine elemHave (by omega) (by assumption) ?_
    | refine elemMap (by omega) (by omega) (fun x hx => ?_)
    | refine drawK mo (by kernel_rfl) ?_
    | (exact finSq rfl (by simp [*]))
theorem sign39 (op : Int) : PCall Tryz.prog 112 [.i op] (.s (signT op)) := by
  refine pcall_of_vc tabOK Tryz.func112 (by kernel_rfl) rfl pureL pureI (n := 25) rfl (rs := [.tmp 2]) rfl ?_
  unfold signT
  repeat' first
    | exact finB rfl
    | exact finI rfl
    | exact finP rfl
    | exact absurd rfl (by assumption)
    | simp only [go_sem]
    | (intro _)
    | refine brK_dec (fun _ => ?_) (fun _ => ?_)
    | refine brK_any ?_ ?_
    | refine gK_dec (fun _ => ?_) (fun _ => ?_)
    | refine gK_any ?_ ?_
    | refine gqK_dec (fun _ => ?_) (fun _ => ?_)
    | refine ⟨by omega, ?_⟩
    | refine elemHave (by omega) (by assumption) ?_
    | refine elemMap (by omega) (by omega) (fun x hx => ?_)
    | refine drawK mo (by kernel_rfl) ?_
    | (refine PCall.call (cmp60 op) ?_)
    | (exact finSq rfl (by simp [*]))
theorem bool84 (b : Bool) : PCall Tryz.prog 152 [.b b] (.s (if b = true then ⟨#[116, 114, 117, 101]⟩ else ⟨#[102, 97, 108, 115, 101]⟩)) := by
  refine pcall_of_vc tabOK Tryz.func152 (by kernel_rfl) rfl pureL pureI (n := 4) rfl (rs := [.tmp 2]) rfl ?_
  cases b <;> repeat' first
    | exact finB rfl
    | exact finI rfl
    | exact finP rfl
    | exact absurd rfl (by assumption)
    | simp only [go_sem]
    | (intro _)
    | refine brK_dec (fun _ => ?_) (fun _ => ?_)
    | refine brK_any ?_ ?_
    | refine gK_dec (fun _ => ?_) (fun _ => ?_)
    | refine gK_any ?_ ?_
    | refine gqK_dec (fun _ => ?_) (fun _ => ?_)
    | refine ⟨by omega, ?_⟩
    | refine elemHave (by omega) (by assumption) ?_
    | refine elemMap (by omega) (by omega) (fun x hx => ?_)
    | refine drawK mo (by kernel_rfl) ?_
    | (exact finSq rfl (by simp))
theorem bool63 (b : Bool) : PCall Tryz.prog 138 [.b b] (.s (if b = true then ⟨#[116, 114, 117, 101]⟩ else ⟨#[102, 97, 108, 115, 101]⟩)) := by
  refine pcall_of_vc tabOK Tryz.func138 (by kernel_rfl) rfl pureL pureI (n := 5) rfl (rs := [.tmp 2]) rfl ?_
  simp only [go_sem]
  refine PCall.call (bool84 b) ?_
  simp only [go_sem]
  exact finSq rfl rfl
theorem quote64 (s : ByteArray) (h : s.size ≤ 10000) (hp : pathF s = true) : PCall Tryz.prog 139 [.s s] (.s (catB [⟨#[39]⟩, s, ⟨#[39]⟩])) := by
  refine pcall_of_vc tabOK Tryz.func139 (by kernel_rfl) rfl pureL pureI (n := 9) rfl (rs := [.tmp 2]) rfl ?_
  simp only [go_sem]
  refine PCall.call (path12 s (by omega)) ?_
  rw [hp]
  repeat' first
    | exact finB rfl
    | exact finI rfl
    | exact finP rfl
    | exact absurd rfl (by assumption)
    | simp only [go_sem]
    | (intro _)
    | refine brK_dec (fun _ => ?_) (fun _ => ?_)
    | refine brK_any ?_ ?_
    | refine gK_dec (fun _ => ?_) (fun _ => ?_)
    | refine gK_any ?_ ?_
    | refine gqK_dec (fun _ => ?_) (fun _ => ?_)
    | refine ⟨by omega, ?_⟩
    | refine elemHave (by omega) (by assumption) ?_
    | refine elemMap (by omega) (by omega) (fun x hx => ?_)
    | refine drawK mo (by kernel_rfl) ?_
    | (refine ⟨by first | omega | (simp; omega), ?_⟩)
    | (refine finSq rfl ?_; rw [catB_cons, catB_cons, catB_cons, catB_nil, app_nil, app_assoc])
theorem sumS_getD (l : List ByteArray) (i : Nat) : (l.getD i ⟨#[]⟩).size ≤ sumS l := by
  induction l generalizing i with
  | nil => exact Nat.zero_le _
  | cons a l ih =>
    rw [sumS_cons]
    cases i with
    | zero => show a.size ≤ _; omega
    | succ i => have := ih i; show (l.getD i ⟨#[]⟩).size ≤ _; omega
theorem sumS_take (l : List ByteArray) (i : Nat) : sumS (l.take i) ≤ sumS l := by
  have := sumS_append (l.take i) (l.drop i)
  rw [List.take_append_drop] at this
  omega
theorem leaf41 (e : Ex) (hk : e.kind ≤ 4 ∨ 17 ≤ e.kind) (hn : I64 e.n) (hs : e.name.size ≤ 200) (hp : e.kind = 17 → pathF e.name = true) : PCall Tryz.prog 114 [e.enc] (.s (leafT e)) := by
  refine pcall_of_vc tabOK Tryz.func114 (by kernel_rfl) rfl pureL pureI (n := 23) rfl (rs := [.tmp 2]) rfl ?_
  unfold leafT
  repeat' first
    | exact finB rfl
    | exact finI rfl
    | exact finP rfl
    | exact absurd rfl (by assumption)
    | simp only [go_sem]
    | (intro _)
    | refine brK_dec (fun _ => ?_) (fun _ => ?_)
    | refine brK_any ?_ ?_
    | refine gK_dec (fun _ => ?_) (fun _ => ?_)
    | refine gK_any ?_ ?_
    | refine gqK_dec (fun _ => ?_) (fun _ => ?_)
    | refine ⟨by omega, ?_⟩
    | refine elemHave (by omega) (by assumption) ?_
    | refine elemMap (by omega) (by omega) (fun x hx => ?_)
    | refine drawK mo (by kernel_rfl) ?_
    | (refine PCall.call (fmt29 e.n hn) ?_)
    | (refine PCall.call (bool63 (decide (¬ e.n = 0))) ?_)
    | (refine PCall.call (quote64 e.name (by omega) (hp (by assumption))) ?_)
    | (refine finSq rfl ?_; simp [*]; done)
    | (refine finSq rfl ?_; by_cases hz : e.n = 0 <;> simp [*]; done)
theorem armsT2_next : ∀ {cs ts : List ByteArray} {i : Nat} {c t : ByteArray}, cs[i]? = some c → ts[i]? = some t → armsT2 (cs.take (i + 1)) (ts.take (i + 1)) = armsT2 (cs.take i) (ts.take i) ++ [⟨#[32]⟩, catB [⟨#[40]⟩, c, ⟨#[32, 45, 62, 32]⟩, t, ⟨#[41]⟩]]
  | [], _, _, _, _, h, _ => by simp at h
  | _ :: _, [], _, _, _, _, h => by simp at h
  | x :: cs, y :: ts, 0, c, t, hc, ht => by
    simp at hc ht
    subst hc ht
    simp [armsT2]
  | x :: cs, y :: ts, i + 1, c, t, hc, ht => by
    have := armsT2_next (cs := cs) (ts := ts) (i := i) (c := c) (t := t) (by simpa using hc) (by simpa using ht)
    rw [List.take_succ_cons, List.take_succ_cons, armsT2, this, List.take_succ_cons, List.take_succ_cons, armsT2]
    rfl
theorem armsT2_sum : ∀ {cs ts : List ByteArray}, (∀ a ∈ cs, a.size ≤ 100) → sumS (armsT2 cs ts) ≤ 110 * ts.length + sumS ts ∧ (armsT2 cs ts).length ≤ 2 * ts.length
  | _, [], _ => by simp [armsT2, sumS]
  | [], _ :: _, _ => by simp [armsT2, sumS]
  | c :: cs, t :: ts, h => by
    obtain ⟨h1, h2⟩ := armsT2_sum (cs := cs) (ts := ts) fun a ha => h a (List.mem_cons_of_mem _ ha)
    have h3 := h c List.mem_cons_self
    rw [armsT2, sumS_cons, sumS_cons, catB_size, sumS_cons, sumS_cons, sumS_cons, sumS_cons, sumS_cons, sumS_cons, List.length_cons, List.length_cons, List.length_cons]
    have e1 : (⟨#[32]⟩ : ByteArray).size = 1 := rfl
    have e2 : (⟨#[40]⟩ : ByteArray).size = 1 := rfl
    have e3 : (⟨#[32, 45, 62, 32]⟩ : ByteArray).size = 4 := rfl
    have e4 : (⟨#[41]⟩ : ByteArray).size = 1 := rfl
    have e5 : sumS [] = 0 := rfl
    omega
abbrev exBs (e : Ex) : Blk := .cells 47 [.i e.kind, .i e.n, .s e.name, .i e.op, .lst 1 (e.arms.map AV.s) none, .lst 6 (e.subs.map Ex.enc) none]
def mergeL (e : Ex) (ts : List ByteArray) (i : Nat) : List ByteArray := [⟨#[109, 101, 114, 103, 101, 32]⟩, e.name] ++ armsT2 (e.arms.take i) (ts.take i)

theorem merge61 (e : Ex) (ts : List ByteArray) (hl : ts.length = e.arms.length) (hb : ts.length ≤ 1000) (hs : e.name.size ≤ 200) (ha : ∀ a ∈ e.arms, a.size ≤ 100) (ht : sumS ts ≤ 1000000) : PCall Tryz.prog 135 [e.enc, .lst 1 (ts.map AV.s) none] (.s (catB ([⟨#[40]⟩, ⟨#[109, 101, 114, 103, 101, 32]⟩, e.name] ++ armsT2 e.arms ts ++ [⟨#[41]⟩]))) := by
  refine pcall_of_vc tabOK Tryz.func135 (by kernel_rfl) rfl pureL pureI (n := 32) rfl (rs := [.tmp 4]) rfl ?_
  have hbig : ∀ i, (mergeL e ts i).length ≤ 10000 ∧ sumS (mergeL e ts i) ≤ 9000000 := fun i => by
    have h1 := armsT2_sum (cs := e.arms.take i) (ts := ts.take i) fun a h => ha a (List.mem_of_mem_take h)
    have h2 := sumS_take ts i
    have h3 : (ts.take i).length ≤ ts.length := by rw [List.length_take]; omega
    unfold mergeL
    rw [sumS_append, sumS_cons, sumS_cons, List.length_append]
    have e1 : (⟨#[109, 101, 114, 103, 101, 32]⟩ : ByteArray).size = 6 := rfl
    have e2 : sumS [] = 0 := rfl
    simp only [List.length_cons, List.length_nil]
    omega
  simp only [go_sem]
  intro _
  refine loop_fr [5, 6, 7, 13, 14, 15, 16, 17, 18, 19, 20, 21, 22, 23, 24, 25, 26, 27, 28, 29] (fun m C hh => ∃ (i : Nat) (r : List Blk), i ≤ ts.length ∧ m = ts.length - i ∧ C = [(13, .raw (.int .i64 (i : Nat))), (5, .lst 1 ((mergeL e ts i).map AV.s) (some 1))] ∧ hh = exBs e :: .tok 9 1 (mergeL e ts i).length :: r) ts.length _ ⟨0, [], by omega, by omega, rfl, by simp [mergeL, armsT2]⟩ (.cons rfl (.cons (by simp [mergeL, armsT2]) .nil)) ?_
  rintro m C ja hh ⟨i, r, hi, rfl, rfl, rfl⟩
  simp only [go_sem]
  refine brK_dec (fun hlt => ?_) (fun hge => ?_)
  · obtain ⟨t, htt⟩ : ∃ t, ts[i]? = some t := ⟨_, List.getElem?_eq_getElem (by omega)⟩
    obtain ⟨c, hc⟩ : ∃ c, e.arms[i]? = some c := ⟨_, List.getElem?_eq_getElem (by omega)⟩
    have hnx : mergeL e ts (i + 1) = mergeL e ts i ++ [⟨#[32]⟩, catB [⟨#[40]⟩, c, ⟨#[32, 45, 62, 32]⟩, t, ⟨#[41]⟩]] := by
      unfold mergeL
      rw [armsT2_next hc htt, List.append_assoc]
    have hcs := ha c (List.mem_of_getElem? hc)
    have hts : t.size ≤ sumS ts := by
      have := sumS_getD ts i
      rw [List.getD_eq_getElem?_getD, htt] at this
      exact this
    have hr := round38 [c, ⟨#[32, 45, 62, 32]⟩, t] (by simp) (by
      rw [sumS_cons, sumS_cons, sumS_cons]
      have e3 : (⟨#[32, 45, 62, 32]⟩ : ByteArray).size = 4 := rfl
      have e5 : sumS [] = 0 := rfl
      omega)
    have hlen := hbig i
    simp only [go_sem]
    refine elemHave (x := t) (by omega) (by simpa using htt) ?_
    simp only [go_sem]
    refine elemHave (x := c) (by omega) (by simpa using hc) ?_
    simp only [go_sem]
    refine PCall.callW hr ⟨.tok _ _ _, trivial⟩ ?_
    simp only [go_sem]
    refine ⟨by first | omega | (simp; omega), ?_⟩
    exact loopFr _ (by omega) ⟨i + 1, _, by omega, rfl, rfl, by rw [hnx, List.length_append]; rfl⟩ (.next rfl (by omega) (.cons (by rw [hnx]; simp) .nil)) rfl
  · have hfin : mergeL e ts i = [⟨#[109, 101, 114, 103, 101, 32]⟩, e.name] ++ armsT2 e.arms ts := by
      unfold mergeL
      rw [List.take_of_length_le (by omega), List.take_of_length_le (by omega)]
    simp only [go_sem]
    have hb2 := hbig i
    refine PCall.callW (round38 (mergeL e ts i) (by omega) (by omega)) ⟨.tok _ _ _, trivial⟩ ?_
    simp only [go_sem]
    exact finSq rfl (by rw [hfin]; rfl)
theorem r2 (a b : ByteArray) : (⟨#[40]⟩ : ByteArray) :: ([a, b] ++ [⟨#[41]⟩]) = [⟨#[40]⟩, a, b, ⟨#[41]⟩] := rfl
theorem at_getD {l : List ByteArray} {i : Nat} (h : i < l.length) : l[i]? = some (l.getD i ⟨#[]⟩) := by
  rw [List.getD_eq_getElem?_getD, List.getElem?_eq_getElem h]
  rfl
theorem sumS_two (a b : ByteArray) : sumS [a, b] = a.size + b.size := by simp [sumS]
theorem sumS_three (a b c : ByteArray) : sumS [a, b, c] = a.size + (b.size + c.size) := by simp [sumS]

theorem call62 (e : Ex) (ts : List ByteArray) (hb : ts.length ≤ 1000) (hn : e.n = 0 ∨ e.n = 1) (hlen : e.n ≤ (ts.length : Int)) (hs : e.name.size ≤ 200) (ht : sumS ts ≤ 1000000) : PCall Tryz.prog 136 [e.enc, .lst 1 (ts.map AV.s) none] (.s (callTx e ts)) := by
  refine pcall_of_vc tabOK Tryz.func136 (by kernel_rfl) rfl pureL pureI (n := 32) rfl (rs := [.tmp 4]) rfl ?_
  obtain ⟨N, hN⟩ : ∃ N : Nat, N = ts.length - e.n.toNat := ⟨_, rfl⟩
  have hw : IntKind.i64.wrap ((ts.length : Int) - e.n) = (N : Int) := by rw [wrap_in _ (by omega) (by omega)]; omega
  have hj : (joinB (ts.take N) ⟨#[44, 32]⟩).size ≤ 1010000 := by
    have h1 := joinB_size (ts.take N) ⟨#[44, 32]⟩
    have h2 := sumS_take ts N
    have h3 : (ts.take N).length ≤ 1000 := by rw [List.length_take]; omega
    have e1 : (⟨#[44, 32]⟩ : ByteArray).size = 2 := rfl
    rw [e1] at h1
    omega
  have hlt : (ts.take N).length ≤ 1000 := by rw [List.length_take]; omega
  have hr1 := round38 [joinB (ts.take N) ⟨#[44, 32]⟩] (by simp) (by simp only [sumS, List.map_cons, List.map_nil, List.sum_cons, List.sum_nil]; omega)
  unfold callTx
  rw [← hN]
  have hs0 : (catB [e.name, ⟨#[40]⟩, joinB (ts.take N) ⟨#[44, 32]⟩, ⟨#[41]⟩]) = e.name ++ catB [⟨#[40]⟩, joinB (ts.take N) ⟨#[44, 32]⟩, ⟨#[41]⟩] := by rw [catB_cons]
  have hsz : (catB [e.name, ⟨#[40]⟩, joinB (ts.take N) ⟨#[44, 32]⟩, ⟨#[41]⟩]).size ≤ 1020000 := by
    rw [catB_size]
    simp only [sumS, List.map_cons, List.map_nil, List.sum_cons, List.sum_nil]
    have e1 : (⟨#[40]⟩ : ByteArray).size = 1 := rfl
    have e2 : (⟨#[41]⟩ : ByteArray).size = 1 := rfl
    omega
  have hsz2 : (catB [⟨#[40]⟩, joinB (ts.take N) ⟨#[44, 32]⟩, ⟨#[41]⟩]).size ≤ 1020000 := by
    have := hsz
    rw [hs0, ByteArray.size_append] at this
    omega
  have htN := sumS_getD ts N
  have hr2 := round38 [catB [e.name, ⟨#[40]⟩, joinB (ts.take N) ⟨#[44, 32]⟩, ⟨#[41]⟩], ⟨#[32, 101, 118, 101, 114, 121, 32]⟩, ts.getD N ⟨#[]⟩] (by simp) (by
    rw [sumS_three]
    have e1 : (⟨#[32, 101, 118, 101, 114, 121, 32]⟩ : ByteArray).size = 7 := rfl
    omega)
  dsimp only
  simp only [go_sem]
  intro _
  rw [hw]
  repeat' first
    | (exfalso; omega)
    | simp only [go_sem]
    | (intro _)
    | refine drawK mo (by kernel_rfl) ?_
    | refine ⟨by omega, ?_⟩
    | (refine pcK_of (join18 (ts.take N) ⟨#[44, 32]⟩ (by omega) (by omega)) ?_)
    | (refine pcK_ofW hr1 ⟨.tok _ _ _, trivial⟩ ?_)
    | refine brK_dec (fun _ => ?_) (fun _ => ?_)
  · refine finSq rfl ?_
    rw [if_pos (by assumption), hs0]
  · have h1 : e.n = 1 := by omega
    have hNl : N < ts.length := by rw [h1] at hN hlen; simp at hN; omega
    refine elemHave (x := ts.getD N ⟨#[]⟩) (by omega) (by simpa using at_getD hNl) ?_
    simp only [go_sem]
    rw [← hs0]
    refine PCall.callW hr2 ⟨.tok _ _ _, trivial⟩ ?_
    simp only [go_sem]
    refine finSq rfl ?_
    rw [if_neg (by assumption)]
/-- What a head takes of its parts' texts. -/
theorem headD_at1 {l : List ByteArray} {s : ByteArray} (h : l[0]? = some s) : l.headD ⟨#[]⟩ = s := by
  match l with
  | y :: l => simp at h; rw [h]; rfl
theorem flows40 (e : Ex) (ts : List ByteArray) (hk : 8 ≤ e.kind ∧ e.kind ≤ 13) (hb : ts.length ≤ 200) (hs : e.name.size ≤ 200) (ha : ∀ a ∈ e.arms, a.size ≤ 100) (ht : sumS ts ≤ 1000000)
    (h2 : e.kind = 8 ∨ e.kind = 9 → ts.length = 2) (h1 : e.kind = 10 ∨ e.kind = 11 → ts.length = 1) (h11 : e.kind = 11 → e.arms.length = 1) (h12 : e.kind = 12 → ts.length = e.arms.length) (h13 : e.kind = 13 → (e.n = 0 ∨ e.n = 1) ∧ e.n ≤ (ts.length : Int)) :
    PCall Tryz.prog 113 [e.enc, .lst 1 (ts.map AV.s) none] (.s (headT e ts)) := by
  refine pcall_of_vc tabOK Tryz.func113 (by kernel_rfl) rfl pureL pureI (n := 56) rfl (rs := [.tmp 4]) rfl ?_
  have hg := fun i => sumS_getD ts i
  rcases (show e.kind = 8 ∨ e.kind = 9 ∨ e.kind = 10 ∨ e.kind = 11 ∨ e.kind = 12 ∨ e.kind = 13 by omega) with k | k | k | k | k | k
  · have hl := h2 (.inl k)
    have hf : headT e ts = catB [⟨#[40]⟩, ts.getD 0 ⟨#[]⟩, ⟨#[32, 102, 98, 121, 32]⟩, ts.getD 1 ⟨#[]⟩, ⟨#[41]⟩] := by unfold headT; simp [k]
    have hr := round38 [ts.getD 0 ⟨#[]⟩, ⟨#[32, 102, 98, 121, 32]⟩, ts.getD 1 ⟨#[]⟩] (by simp) (by rw [sumS_three]; have := hg 0; have := hg 1; have e1 : (⟨#[32, 102, 98, 121, 32]⟩ : ByteArray).size = 5 := rfl; omega)
    rw [hf]
    repeat' first
      | simp only [go_sem, k]
      | refine drawK mo (by kernel_rfl) ?_
      | refine elemHave (x := ts.getD 0 ⟨#[]⟩) (by omega) (by simpa using at_getD (l := ts) (i := 0) (by omega)) ?_
      | refine elemHave (x := ts.getD 1 ⟨#[]⟩) (by omega) (by simpa using at_getD (l := ts) (i := 1) (by omega)) ?_
      | (refine pcK_ofW hr ⟨.tok _ _ _, trivial⟩ ?_)
      | exact finSq rfl rfl
  · have hl := h2 (.inr k)
    have hf : headT e ts = catB [⟨#[40]⟩, ts.getD 0 ⟨#[]⟩, ⟨#[32, 45, 62, 32]⟩, ts.getD 1 ⟨#[]⟩, ⟨#[41]⟩] := by unfold headT; simp [k]
    have hr := round38 [ts.getD 0 ⟨#[]⟩, ⟨#[32, 45, 62, 32]⟩, ts.getD 1 ⟨#[]⟩] (by simp) (by rw [sumS_three]; have := hg 0; have := hg 1; have e1 : (⟨#[32, 45, 62, 32]⟩ : ByteArray).size = 4 := rfl; omega)
    rw [hf]
    repeat' first
      | simp only [go_sem, k]
      | refine drawK mo (by kernel_rfl) ?_
      | refine elemHave (x := ts.getD 0 ⟨#[]⟩) (by omega) (by simpa using at_getD (l := ts) (i := 0) (by omega)) ?_
      | refine elemHave (x := ts.getD 1 ⟨#[]⟩) (by omega) (by simpa using at_getD (l := ts) (i := 1) (by omega)) ?_
      | (refine pcK_ofW hr ⟨.tok _ _ _, trivial⟩ ?_)
      | exact finSq rfl rfl
  · have hl := h1 (.inl k)
    have hf : headT e ts = catB [⟨#[40]⟩, ⟨#[112, 114, 101, 32]⟩, ts.getD 0 ⟨#[]⟩, ⟨#[41]⟩] := by unfold headT; simp [k]
    have hr := round38 [⟨#[112, 114, 101, 32]⟩, ts.getD 0 ⟨#[]⟩] (by simp) (by rw [sumS_two]; have := hg 0; have e1 : (⟨#[112, 114, 101, 32]⟩ : ByteArray).size = 4 := rfl; omega)
    rw [hf]
    repeat' first
      | simp only [go_sem, k]
      | refine drawK mo (by kernel_rfl) ?_
      | refine elemHave (x := ts.getD 0 ⟨#[]⟩) (by omega) (by simpa using at_getD (l := ts) (i := 0) (by omega)) ?_
      | (refine PCall.callW hr ⟨.tok _ _ _, trivial⟩ ?_)
      | exact finSq rfl rfl
  · have hl := h1 (.inr k)
    obtain ⟨a, haa⟩ : ∃ a, e.arms[0]? = some a := ⟨_, List.getElem?_eq_getElem (by have := h11 k; omega)⟩
    have has := ha a (List.mem_of_getElem? haa)
    have hf : headT e ts = catB [⟨#[40]⟩, ts.getD 0 ⟨#[]⟩, ⟨#[32, 119, 104, 101, 110, 32]⟩, onT e.name a, ⟨#[41]⟩] := by unfold headT; rw [headD_at1 haa]; simp [k]
    have hr := round38 [ts.getD 0 ⟨#[]⟩, ⟨#[32, 119, 104, 101, 110, 32]⟩, onT e.name a] (by simp) (by rw [sumS_three]; have := hg 0; have := onT_size e.name a; have e1 : (⟨#[32, 119, 104, 101, 110, 32]⟩ : ByteArray).size = 6 := rfl; omega)
    rw [hf]
    repeat' first
      | simp only [go_sem, k]
      | refine drawK mo (by kernel_rfl) ?_
      | refine elemHave (x := ts.getD 0 ⟨#[]⟩) (by omega) (by simpa using at_getD (l := ts) (i := 0) (by omega)) ?_
      | refine elemHave (x := a) (by omega) (by simpa using haa) ?_
      | (refine pcK_of (on6 e.name a (by omega) (by omega)) ?_)
      | (refine pcK_ofW hr ⟨.tok _ _ _, trivial⟩ ?_)
      | exact finSq rfl rfl
  · have hf : headT e ts = catB ([⟨#[40]⟩, ⟨#[109, 101, 114, 103, 101, 32]⟩, e.name] ++ armsT2 e.arms ts ++ [⟨#[41]⟩]) := by unfold headT; simp [k]
    have hm := merge61 e ts (h12 k) (by omega) hs ha ht
    rw [hf]
    generalize catB ([⟨#[40]⟩, ⟨#[109, 101, 114, 103, 101, 32]⟩, e.name] ++ armsT2 e.arms ts ++ [⟨#[41]⟩]) = R at hm
    repeat' first
      | (exfalso; omega)
      | simp only [go_sem]
      | refine brK_dec (fun _ => ?_) (fun _ => ?_)
      | (refine PCall.call hm ?_)
      | exact finSq rfl rfl
  · have hf : headT e ts = callTx e ts := by unfold headT; simp [k]
    have hm := call62 e ts (by omega) (h13 k).1 (h13 k).2 hs ht
    rw [hf]
    generalize callTx e ts = R at hm
    repeat' first
      | (exfalso; omega)
      | simp only [go_sem]
      | refine brK_dec (fun _ => ?_) (fun _ => ?_)
      | (refine PCall.call hm ?_)
      | exact finSq rfl rfl
abbrev TextC (x : Ex) : Prop := PCall Tryz.prog 78 [x.enc] (.s (showT x))

theorem all37 (l : List Ex) (hb : l.length ≤ 1000) (ih : ∀ x ∈ l, TextC x) : PCall Tryz.prog 110 [.lst 6 (l.map Ex.enc) none] (.lst 1 ((showL l).map AV.s) none) := by
  refine pcall_of_vc tabOK Tryz.func110 (by kernel_rfl) rfl pureL pureI (n := 19) rfl (rs := [.tmp 2]) rfl ?_
  rw [showL_map]
  simp only [go_sem]
  intro _
  refine loop_ghost (ghost_tok 3 9 1 rfl) ?_
  refine loop_fr [3, 5, 8, 9, 10, 11, 12, 13, 14, 15, 16, 17] (fun m C hh => ∃ (i : Nat) (r : List Blk), i ≤ l.length ∧ m = l.length - i ∧ C = [(8, .raw (.int .i64 (i : Nat))), (3, .lst 1 (((l.take i).map showT).map AV.s) (some 0))] ∧ hh = .tok 9 1 i :: r) l.length _ ⟨0, [], by omega, by omega, rfl, rfl⟩ (.cons rfl (.cons rfl .nil)) ?_
  rintro m C ja hh ⟨i, r, hi, rfl, rfl, rfl⟩
  simp only [go_sem]
  refine brK_dec (fun hlt => ?_) (fun hge => ?_)
  · obtain ⟨x, hx⟩ : ∃ x, l[i]? = some x := ⟨_, List.getElem?_eq_getElem (by omega)⟩
    have hti : (l.take i).length = i := by rw [List.length_take]; omega
    simp only [go_sem]
    refine elemHave (x := x) (by omega) (by simpa using hx) ?_
    simp only [go_sem]
    refine PCall.call (ih x (List.mem_of_getElem? hx)) ?_
    simp only [go_sem]
    refine ⟨by omega, ?_⟩
    exact loopFr _ (by omega) ⟨i + 1, _, by omega, rfl, rfl, by rw [hti]⟩ (.next rfl (by omega) (.cons (by rw [take_mapS (f := showT) (by simpa using hx)]; simp) .nil)) rfl
  · rw [List.take_of_length_le (by omega)]
    simp only [go_sem]
    exact ⟨_, rfl, false, .tok _ _ _⟩
theorem mem_partsL {l : List Ex} {y : Ex} (h : y ∈ partsL l) : ∃ x ∈ l, y ∈ parts x := by
  induction l with
  | nil => simp [partsL] at h
  | cons x l ih =>
    simp only [partsL, List.mem_append] at h
    rcases h with h | h
    · exact ⟨x, by simp, h⟩
    · obtain ⟨z, hz, hy⟩ := ih h
      exact ⟨z, by simp [hz], hy⟩
theorem sub_partsL {l : List Ex} {x y : Ex} (hx : x ∈ l) (h : y ∈ parts x) : y ∈ partsL l := by
  induction l with
  | nil => simp at hx
  | cons z l ih =>
    simp only [partsL, List.mem_append]
    rcases List.mem_cons.1 hx with rfl | hx
    · exact .inl h
    · exact .inr (ih hx)
theorem sub_parts {e x y : Ex} (hx : x ∈ e.subs) (h : y ∈ parts x) : y ∈ parts e := by
  rw [parts_eq]
  exact List.mem_cons_of_mem _ (sub_partsL hx h)
theorem self_parts (e : Ex) : e ∈ parts e := by rw [parts_eq]; simp
theorem partE_len {e : Ex} (h : partE e = true) : (subsE e).1 ≤ e.subs.length ∧ (e.subs.length : Int) ≤ (subsE e).2 ∧ (e.kind = 8 → constE (e.subs.headD e) = true) := by
  unfold partE at h
  simp only [Bool.and_eq_true, Bool.or_eq_true, decide_eq_true_eq] at h
  refine ⟨h.1.1.2, h.1.2, fun hk => ?_⟩
  rcases h.2 with h2 | h2
  · exact absurd hk h2
  · exact h2
theorem depth_mem {l : List Ex} {x : Ex} (hx : x ∈ l) : depthE x ≤ depthL l := by
  induction l with
  | nil => simp at hx
  | cons y l ih =>
    simp only [depthL]
    rcases List.mem_cons.1 hx with rfl | hx
    · omega
    · have := ih hx; omega
theorem len_mem {l : List Ex} {x : Ex} (hx : x ∈ l) : (parts x).length ≤ (partsL l).length := by
  obtain ⟨k, hk, rfl⟩ := List.getElem_of_mem hx
  exact parts_le hk
theorem part_in : ∀ (e x : Ex), x ∈ parts e → (∀ y ∈ parts x, y ∈ parts e) ∧ (parts x).length ≤ (parts e).length ∧ depthE x ≤ depthE e := by
  intro e
  induction e using Ex.ind with
  | _ e ih =>
  intro x hx
  rw [parts_eq] at hx
  rcases List.mem_cons.1 hx with rfl | hx
  · exact ⟨fun y h => h, Nat.le_refl _, Nat.le_refl _⟩
  · obtain ⟨z, hz, hxz⟩ := mem_partsL hx
    obtain ⟨h1, h2, h3⟩ := ih z hz x hxz
    have h4 := len_mem hz
    have h5 := depth_mem hz
    refine ⟨fun y hy => sub_parts hz (h1 y hy), ?_, ?_⟩
    · rw [parts_eq e, List.length_cons]; omega
    · rw [depthE_eq e]; omega
theorem ok_part {e x : Ex} (h : okE e) (hx : x ∈ parts e) : okE x := by
  obtain ⟨h1, h2, h3⟩ := part_in e x hx
  exact ⟨Nat.le_trans h2 h.1, fun y hy => h.2 y (h1 y hy)⟩
theorem part_more {e : Ex} (h : partE e = true) : (1 ≤ e.kind ∧ e.kind ≤ 17) ∧ (subsE e).1 ≤ e.subs.length ∧ (e.subs.length : Int) ≤ (subsE e).2 ∧ (e.kind = 11 → e.arms.length = 1) ∧ (e.kind = 12 → 1 ≤ e.arms.length ∧ e.arms.length ≤ 6) ∧ (¬ e.kind = 11 → ¬ e.kind = 12 → e.arms.length = 0) ∧ (e.kind = 13 → e.n = 0 ∨ e.n = 1) ∧ (e.kind = 17 → pathF e.name = true) ∧ (e.kind = 2 → e.n = 0 ∨ e.n = 1) ∧ (e.kind = 5 → e.op = 1 ∨ e.op = 2) := by
  obtain ⟨h1, h2, _⟩ := partE_len h
  unfold partE at h
  simp only [Bool.and_eq_true, decide_eq_true_eq] at h
  obtain ⟨⟨⟨⟨⟨⟨hk, hn⟩, hnm⟩, ha⟩, _⟩, _⟩, _⟩ := h
  refine ⟨hk, h1, h2, fun k => ?_, fun k => ?_, fun k1 k2 => ?_, fun k => ?_, fun k => ?_, fun k => ?_, fun k => ?_⟩
  · unfold armsE at ha
    rw [if_pos k] at ha
    simp only [Bool.and_eq_true, decide_eq_true_eq] at ha
    exact ha.2
  · unfold armsE at ha
    rw [if_neg (by omega), if_pos k] at ha
    simp only [Bool.and_eq_true, decide_eq_true_eq] at ha
    exact ha.2.1
  · unfold armsE at ha
    rw [if_neg k1, if_neg k2] at ha
    simp only [Bool.and_eq_true, decide_eq_true_eq] at ha
    exact ha.2
  · unfold numbersE at hn
    rw [if_neg (by omega), if_neg (by omega), if_neg (by omega), if_pos (.inr k)] at hn
    simp only [Bool.and_eq_true, decide_eq_true_eq] at hn
    exact hn.2
  · unfold namedE at hnm
    rw [if_neg (by omega), if_neg (by omega), if_pos k] at hnm
    exact hnm
  · unfold numbersE at hn
    rw [if_neg (by omega), if_neg (by omega), if_neg (by omega), if_pos (.inl k)] at hn
    simp only [Bool.and_eq_true, decide_eq_true_eq] at hn
    exact hn.2
  · unfold numbersE at hn
    rw [if_pos k] at hn
    simp only [Bool.and_eq_true, decide_eq_true_eq] at hn
    omega
/-- What is known of the part that is shown. -/
structure ShowOK (e : Ex) : Prop where
  part : ∀ y ∈ parts e, partE y = true
  ok : okE e
  num : ∀ y ∈ parts e, I64 y.n
theorem ShowOK.sub {e x : Ex} (h : ShowOK e) (hx : x ∈ e.subs) : ShowOK x :=
  ⟨fun y hy => h.part y (sub_parts hx hy), ok_part h.ok (sub_parts hx (self_parts x)), fun y hy => h.num y (sub_parts hx hy)⟩
theorem leafT_size {e : Ex} (hn : I64 e.n) (hs : e.name.size ≤ 200) : (leafT e).size ≤ 250 := by
  unfold leafT
  split
  · have := dig_size e.n hn; omega
  · split
    · split <;> decide
    · split
      · rw [catB_size, sumS_three]
        show 1 + (e.name.size + 1) ≤ 250
        omega
      · omega
theorem take_one {l : List ByteArray} {n : Nat} (h : n < l.length) : sumS (l.take n) + (l.getD n ⟨#[]⟩).size ≤ sumS l := by
  have h1 := sumS_append (l.take n) (l.drop n)
  rw [List.take_append_drop, List.drop_eq_getElem_cons h, sumS_cons] at h1
  rw [List.getD_eq_getElem?_getD, List.getElem?_eq_getElem h]
  show _ + (l[n]).size ≤ _
  omega
theorem zs1 (a : UInt8) : (⟨#[a]⟩ : ByteArray).size = 1 := rfl
theorem zs2 (a b : UInt8) : (⟨#[a, b]⟩ : ByteArray).size = 2 := rfl
theorem zs3 (a b c : UInt8) : (⟨#[a, b, c]⟩ : ByteArray).size = 3 := rfl
theorem zs4 (a b c d : UInt8) : (⟨#[a, b, c, d]⟩ : ByteArray).size = 4 := rfl
theorem zs5 (a b c d e : UInt8) : (⟨#[a, b, c, d, e]⟩ : ByteArray).size = 5 := rfl
theorem zs6 (a b c d e f : UInt8) : (⟨#[a, b, c, d, e, f]⟩ : ByteArray).size = 6 := rfl
theorem zs7 (a b c d e f g : UInt8) : (⟨#[a, b, c, d, e, f, g]⟩ : ByteArray).size = 7 := rfl
theorem zs8 (a b c d e f g h : UInt8) : (⟨#[a, b, c, d, e, f, g, h]⟩ : ByteArray).size = 8 := rfl
theorem headT_size {e : Ex} {ts : List ByteArray} (h : ShowOK e) (hl : ts.length = e.subs.length) : (headT e ts).size ≤ 600 + sumS ts + 120 * ts.length := by
  obtain ⟨hk, hlo, hhi, h11, h12, h0, h13, h17, _, _⟩ := part_more (h.part e (self_parts e))
  have hnm := (h.ok.2 e (self_parts e)).1
  have harm := (h.ok.2 e (self_parts e)).2
  have g := fun i => sumS_getD ts i
  have g2 : 2 ≤ ts.length → (ts.getD 0 ⟨#[]⟩).size + (ts.getD 1 ⟨#[]⟩).size ≤ sumS ts := fun hh => by
    match ts, hh with
    | a :: b :: r, _ => simp [sumS]
  have g3 : 3 ≤ ts.length → (ts.getD 0 ⟨#[]⟩).size + (ts.getD 1 ⟨#[]⟩).size + (ts.getD 2 ⟨#[]⟩).size ≤ sumS ts := fun hh => by
    match ts, hh with
    | a :: b :: c :: r, _ => simp [sumS]; omega
  have sg := signT_size e.op
  have L : ∀ l : List ByteArray, sumS l = (l.map ByteArray.size).sum := fun _ => rfl
  rcases (show e.kind = 5 ∨ e.kind = 6 ∨ e.kind = 7 ∨ e.kind = 8 ∨ e.kind = 9 ∨ e.kind = 10 ∨ e.kind = 11 ∨ e.kind = 12 ∨ e.kind = 13 ∨ e.kind = 14 ∨ e.kind = 15 ∨ e.kind = 16 ∨ (e.kind ≤ 4 ∨ 17 ≤ e.kind) by omega) with k | k | k | k | k | k | k | k | k | k | k | k | k
  · have hf : headT e ts = catB [⟨#[40]⟩, if e.op = 1 then ⟨#[45]⟩ else ⟨#[110, 111, 116, 32]⟩, ts.getD 0 ⟨#[]⟩, ⟨#[41]⟩] := by unfold headT; simp [k]
    have h1 : (if e.op = 1 then (⟨#[45]⟩ : ByteArray) else ⟨#[110, 111, 116, 32]⟩).size ≤ 4 := by split <;> decide
    have := g 0
    rw [hf, catB_size]
    simp only [sumS_cons, zs1, zs2, zs3, zs4, zs5, zs6, zs7, zs8]
    rw [show sumS [] = 0 from rfl]
    omega
  · have hf : headT e ts = catB [⟨#[40]⟩, ts.getD 0 ⟨#[]⟩, ⟨#[32]⟩, signT e.op, ⟨#[32]⟩, ts.getD 1 ⟨#[]⟩, ⟨#[41]⟩] := by unfold headT; simp [k]
    have hl2 : (subsE e).1 = 2 := by simp [subsE, k]
    have := g2 (by omega)
    rw [hf, catB_size]
    simp only [sumS_cons, zs1, zs2, zs3, zs4, zs5, zs6, zs7, zs8]
    rw [show sumS [] = 0 from rfl]
    omega
  · have hf : headT e ts = catB [⟨#[40]⟩, ⟨#[105, 102, 32]⟩, ts.getD 0 ⟨#[]⟩, ⟨#[32, 116, 104, 101, 110, 32]⟩, ts.getD 1 ⟨#[]⟩, ⟨#[32, 101, 108, 115, 101, 32]⟩, ts.getD 2 ⟨#[]⟩, ⟨#[41]⟩] := by unfold headT; simp [k]
    have hl2 : (subsE e).1 = 3 := by simp [subsE, k]
    have := g3 (by omega)
    rw [hf, catB_size]
    simp only [sumS_cons, zs1, zs2, zs3, zs4, zs5, zs6, zs7, zs8]
    rw [show sumS [] = 0 from rfl]
    omega
  · have hf : headT e ts = catB [⟨#[40]⟩, ts.getD 0 ⟨#[]⟩, ⟨#[32, 102, 98, 121, 32]⟩, ts.getD 1 ⟨#[]⟩, ⟨#[41]⟩] := by unfold headT; simp [k]
    have hl2 : (subsE e).1 = 2 := by simp [subsE, k]
    have := g2 (by omega)
    rw [hf, catB_size]
    simp only [sumS_cons, zs1, zs2, zs3, zs4, zs5, zs6, zs7, zs8]
    rw [show sumS [] = 0 from rfl]
    omega
  · have hf : headT e ts = catB [⟨#[40]⟩, ts.getD 0 ⟨#[]⟩, ⟨#[32, 45, 62, 32]⟩, ts.getD 1 ⟨#[]⟩, ⟨#[41]⟩] := by unfold headT; simp [k]
    have hl2 : (subsE e).1 = 2 := by simp [subsE, k]
    have := g2 (by omega)
    rw [hf, catB_size]
    simp only [sumS_cons, zs1, zs2, zs3, zs4, zs5, zs6, zs7, zs8]
    rw [show sumS [] = 0 from rfl]
    omega
  · have hf : headT e ts = catB [⟨#[40]⟩, ⟨#[112, 114, 101, 32]⟩, ts.getD 0 ⟨#[]⟩, ⟨#[41]⟩] := by unfold headT; simp [k]
    have := g 0
    rw [hf, catB_size]
    simp only [sumS_cons, zs1, zs2, zs3, zs4, zs5, zs6, zs7, zs8]
    rw [show sumS [] = 0 from rfl]
    omega
  · obtain ⟨a, haa⟩ : ∃ a, e.arms[0]? = some a := ⟨_, List.getElem?_eq_getElem (by have := h11 k; omega)⟩
    have has := harm a (List.mem_of_getElem? haa)
    have hf : headT e ts = catB [⟨#[40]⟩, ts.getD 0 ⟨#[]⟩, ⟨#[32, 119, 104, 101, 110, 32]⟩, onT e.name a, ⟨#[41]⟩] := by unfold headT; rw [headD_at1 haa]; simp [k]
    have := g 0
    have := onT_size e.name a
    rw [hf, catB_size]
    simp only [sumS_cons, zs1, zs2, zs3, zs4, zs5, zs6, zs7, zs8]
    rw [show sumS [] = 0 from rfl]
    omega
  · have hf : headT e ts = catB ([⟨#[40]⟩, ⟨#[109, 101, 114, 103, 101, 32]⟩, e.name] ++ armsT2 e.arms ts ++ [⟨#[41]⟩]) := by unfold headT; simp [k]
    have := (armsT2_sum (cs := e.arms) (ts := ts) harm).1
    rw [hf, catB_size, sumS_append, sumS_append]
    simp only [sumS_cons, zs1, zs2, zs3, zs4, zs5, zs6, zs7, zs8]
    rw [show sumS [] = 0 from rfl]
    omega
  · have hf : headT e ts = callTx e ts := by unfold headT; simp [k]
    have hn := h13 k
    have hl2 : (subsE e).1 = e.n := by simp [subsE, k]
    obtain ⟨N, hN⟩ : ∃ N : Nat, N = ts.length - e.n.toNat := ⟨_, rfl⟩
    have hj := joinB_size (ts.take N) ⟨#[44, 32]⟩
    rw [show (⟨#[44, 32]⟩ : ByteArray).size = 2 from rfl] at hj
    have h3 : (ts.take N).length ≤ ts.length := by rw [List.length_take]; omega
    have h4 := sumS_take ts N
    have hsum : sumS [e.name, ⟨#[40]⟩, joinB (ts.take N) ⟨#[44, 32]⟩, ⟨#[41]⟩] = e.name.size + (1 + ((joinB (ts.take N) ⟨#[44, 32]⟩).size + 1)) := by
      simp only [sumS_cons, zs1]
      rfl
    rw [hf]
    unfold callTx
    rw [← hN]
    dsimp only
    split
    · rw [catB_size, hsum]
      omega
    · have h5 := take_one (l := ts) (n := N) (by omega)
      rw [catB_size]
      simp only [sumS_cons, zs1, zs2, zs3, zs4, zs5, zs6, zs7, zs8]
      rw [catB_size, hsum, show sumS [] = 0 from rfl]
      omega
  · have hf : headT e ts = catB [⟨#[91]⟩, joinB ts ⟨#[44, 32]⟩, ⟨#[93]⟩] := by unfold headT; simp [k]
    have hj := joinB_size ts ⟨#[44, 32]⟩
    rw [show (⟨#[44, 32]⟩ : ByteArray).size = 2 from rfl] at hj
    rw [hf, catB_size]
    simp only [sumS_cons, zs1, zs2, zs3, zs4, zs5, zs6, zs7, zs8]
    rw [show sumS [] = 0 from rfl]
    omega
  · have hf : headT e ts = catB [ts.getD 0 ⟨#[]⟩, ⟨#[91]⟩, ts.getD 1 ⟨#[]⟩, ⟨#[93]⟩] := by unfold headT; simp [k]
    have hl2 : (subsE e).1 = 2 := by simp [subsE, k]
    have := g2 (by omega)
    rw [hf, catB_size]
    simp only [sumS_cons, zs1, zs2, zs3, zs4, zs5, zs6, zs7, zs8]
    rw [show sumS [] = 0 from rfl]
    omega
  · have hf : headT e ts = catB [⟨#[40]⟩, ts.getD 0 ⟨#[]⟩, ⟨#[32, 119, 105, 116, 104, 32, 91]⟩, ts.getD 1 ⟨#[]⟩, ⟨#[93, 32, 61, 32]⟩, ts.getD 2 ⟨#[]⟩, ⟨#[41]⟩] := by unfold headT; simp [k]
    have hl2 : (subsE e).1 = 3 := by simp [subsE, k]
    have := g3 (by omega)
    rw [hf, catB_size]
    simp only [sumS_cons, zs1, zs2, zs3, zs4, zs5, zs6, zs7, zs8]
    rw [show sumS [] = 0 from rfl]
    omega
  · have hf : headT e ts = leafT e := by
      unfold headT
      rw [if_neg (by omega), if_neg (by omega), if_neg (by omega), if_neg (by omega), if_neg (by omega), if_neg (by omega), if_neg (by omega), if_neg (by omega), if_neg (by omega), if_neg (by omega), if_neg (by omega), if_neg (by omega)]
    have := leafT_size (h.num e (self_parts e)) hnm
    rw [hf]
    omega
theorem showL_sum : ∀ {l : List Ex}, (∀ x ∈ l, (showT x).size + 300 ≤ 1000 * (parts x).length) → sumS (showL l) + 300 * l.length ≤ 1000 * (partsL l).length
  | [], _ => by simp [showL, partsL, sumS]
  | x :: l, h => by
    have h1 := h x List.mem_cons_self
    have h2 := showL_sum (l := l) fun y hy => h y (List.mem_cons_of_mem _ hy)
    rw [showL, sumS_cons, partsL, List.length_append, List.length_cons]
    omega
theorem showT_size (e : Ex) : ShowOK e → (showT e).size + 300 ≤ 1000 * (parts e).length := by
  induction e using Ex.ind with
  | _ e ih =>
  intro h
  have h1 := showL_sum (l := e.subs) fun x hx => ih x hx (h.sub hx)
  have h2 := headT_size (ts := showL e.subs) h (by rw [showL_map, List.length_map])
  have h3 : (showL e.subs).length = e.subs.length := by rw [showL_map, List.length_map]
  rw [showT_eq, parts_eq, List.length_cons]
  omega
end Go.Proofs.YtkjfhhioomnbfaaGreatDoor

namespace Go.Proofs.YtkjfhhioomnbfaaGreatDoor
open Go.Abs
set_option maxRecDepth 20000
set_option linter.unusedSimpArgs false
set_option linter.unusedVariables false
set_option maxHeartbeats 1000000
attribute [local irreducible] vc vcOps vcStep vcGuard prK hrK gK gsK brK callK ElemK SeqK BlockK ScopeK OpsK CallK LoopK LoopGo finPost ACall PCall PCallE BCall vqOps vqStep vqGuard qrK heK pcK gqK gqsK QOpsK qcallK DrawK
theorem partsL_geS : ∀ l : List Ex, l.length ≤ (partsL l).length
  | [] => Nat.zero_le _
  | x :: l => by
    have := partsL_geS l
    rw [partsL, List.length_append, List.length_cons, parts_eq, List.length_cons]
    omega
theorem subs_leS {e : Ex} (h : okE e) : e.subs.length ≤ 200 := by
  have h1 := partsL_geS e.subs
  have h2 : (parts e).length = (partsL e.subs).length + 1 := by rw [parts_eq, List.length_cons]
  have := h.1
  omega

theorem text22 (e : Ex) : ShowOK e → TextC e := by
  induction e using Ex.ind with
  | _ e ih =>
  intro h
  obtain ⟨hk, hlo, hhi, h11, h12, h0, h13, h17, h2b, h5b⟩ := part_more (h.part e (self_parts e))
  have hnm := (h.ok.2 e (self_parts e)).1
  have harm := (h.ok.2 e (self_parts e)).2
  have hsl := subs_leS h.ok
  have hall := all37 e.subs (by omega) (fun x hx => ih x hx (h.sub hx))
  have hlen : (showL e.subs).length = e.subs.length := by rw [showL_map, List.length_map]
  have hsum : sumS (showL e.subs) ≤ 1000000 := by
    have h1 := showL_sum (l := e.subs) fun x hx => showT_size x (h.sub hx)
    have h2 : (parts e).length = (partsL e.subs).length + 1 := by rw [parts_eq, List.length_cons]
    have h3 := h.ok.1
    omega
  unfold TextC
  rw [showT_eq]
  refine pcall_of_vc tabOK Tryz.func78 (by kernel_rfl) rfl pureL pureI (n := 92) rfl (rs := [.tmp 2]) rfl ?_
  generalize showL e.subs = ts at hall hlen hsum
  have hg := fun i => sumS_getD ts i
  have hq : ∀ i, i < ts.length → ts[((i : Nat) : Int).toNat]? = some (ts.getD i ⟨#[]⟩) := fun i hi => by rw [Int.toNat_natCast]; exact at_getD hi
  have h4 := h5b
  rcases (show e.kind = 5 ∨ e.kind = 6 ∨ e.kind = 7 ∨ (8 ≤ e.kind ∧ e.kind ≤ 13) ∨ e.kind = 14 ∨ e.kind = 15 ∨ e.kind = 16 ∨ (e.kind ≤ 4 ∨ 17 ≤ e.kind) by omega) with k | k | k | k | k | k | k | k
  · have hl2 : (subsE e).1 = 1 := by simp [subsE, k]
    have hf : headT e ts = catB [⟨#[40]⟩, if e.op = 1 then ⟨#[45]⟩ else ⟨#[110, 111, 116, 32]⟩, ts.getD 0 ⟨#[]⟩, ⟨#[41]⟩] := by unfold headT; simp [k]
    have hr1 := round38 [⟨#[45]⟩, ts.getD 0 ⟨#[]⟩] (by simp) (by rw [sumS_two, zs1]; have := hg 0; omega)
    have hr2 := round38 [⟨#[110, 111, 116, 32]⟩, ts.getD 0 ⟨#[]⟩] (by simp) (by rw [sumS_two, zs4]; have := hg 0; omega)
    rw [hf]
    repeat' first
      | simp only [go_sem, k]
      | (refine PCall.call hall ?_)
      | refine brK_dec (fun _ => ?_) (fun _ => ?_)
      | refine elemHave (x := ts.getD 0 ⟨#[]⟩) (by omega) (hq 0 (by omega)) ?_
      | (refine PCall.callW hr1 ⟨.tok _ _ _, trivial⟩ ?_)
      | (refine PCall.callW hr2 ⟨.tok _ _ _, trivial⟩ ?_)
      | (refine finSq rfl ?_; simp [*]; done)
  · have hl2 : (subsE e).1 = 2 := by simp [subsE, k]
    have hf : headT e ts = catB [⟨#[40]⟩, ts.getD 0 ⟨#[]⟩, ⟨#[32]⟩, signT e.op, ⟨#[32]⟩, ts.getD 1 ⟨#[]⟩, ⟨#[41]⟩] := by unfold headT; simp [k]
    have hr := round38 [ts.getD 0 ⟨#[]⟩, ⟨#[32]⟩, signT e.op, ⟨#[32]⟩, ts.getD 1 ⟨#[]⟩] (by simp) (by simp only [sumS_cons, zs1]; rw [show sumS [] = 0 from rfl]; have := hg 0; have := hg 1; have := signT_size e.op; omega)
    rw [hf]
    repeat' first
      | simp only [go_sem, k]
      | (refine PCall.call hall ?_)
      | refine drawK mo (by kernel_rfl) ?_
      | refine elemHave (x := ts.getD 0 ⟨#[]⟩) (by omega) (hq 0 (by omega)) ?_
      | refine elemHave (x := ts.getD 1 ⟨#[]⟩) (by omega) (hq 1 (by omega)) ?_
      | (refine pcK_of (sign39 e.op) ?_)
      | (refine pcK_ofW hr ⟨.tok _ _ _, trivial⟩ ?_)
      | exact finSq rfl rfl
  · have hl2 : (subsE e).1 = 3 := by simp [subsE, k]
    have hf : headT e ts = catB [⟨#[40]⟩, ⟨#[105, 102, 32]⟩, ts.getD 0 ⟨#[]⟩, ⟨#[32, 116, 104, 101, 110, 32]⟩, ts.getD 1 ⟨#[]⟩, ⟨#[32, 101, 108, 115, 101, 32]⟩, ts.getD 2 ⟨#[]⟩, ⟨#[41]⟩] := by unfold headT; simp [k]
    have hr := round38 [⟨#[105, 102, 32]⟩, ts.getD 0 ⟨#[]⟩, ⟨#[32, 116, 104, 101, 110, 32]⟩, ts.getD 1 ⟨#[]⟩, ⟨#[32, 101, 108, 115, 101, 32]⟩, ts.getD 2 ⟨#[]⟩] (by simp) (by simp only [sumS_cons, zs3, zs6]; rw [show sumS [] = 0 from rfl]; have := hg 0; have := hg 1; have := hg 2; omega)
    rw [hf]
    repeat' first
      | simp only [go_sem, k]
      | (refine PCall.call hall ?_)
      | refine drawK mo (by kernel_rfl) ?_
      | refine elemHave (x := ts.getD 0 ⟨#[]⟩) (by omega) (hq 0 (by omega)) ?_
      | refine elemHave (x := ts.getD 1 ⟨#[]⟩) (by omega) (hq 1 (by omega)) ?_
      | refine elemHave (x := ts.getD 2 ⟨#[]⟩) (by omega) (hq 2 (by omega)) ?_
      | (refine pcK_ofW hr ⟨.tok _ _ _, trivial⟩ ?_)
      | exact finSq rfl rfl
  · have hfl := flows40 e ts k (by omega) hnm harm hsum
      (fun q => by
        have : (subsE e).1 = 2 ∧ (subsE e).2 = 2 := by rcases q with q | q <;> simp [subsE, q]
        omega)
      (fun q => by
        have : (subsE e).1 = 1 ∧ (subsE e).2 = 1 := by rcases q with q | q <;> simp [subsE, q]
        omega) h11
      (fun q => by
        have : (subsE e).1 = e.arms.length ∧ (subsE e).2 = e.arms.length := by simp [subsE, q]
        omega)
      (fun q => ⟨h13 q, by
        have : (subsE e).1 = e.n := by simp [subsE, q]
        omega⟩)
    generalize headT e ts = R at hfl
    repeat' first
      | (exfalso; omega)
      | simp only [go_sem]
      | (refine PCall.call hall ?_)
      | refine brK_dec (fun _ => ?_) (fun _ => ?_)
      | (refine PCall.call hfl ?_)
      | exact finSq rfl rfl
  · have hf : headT e ts = catB [⟨#[91]⟩, joinB ts ⟨#[44, 32]⟩, ⟨#[93]⟩] := by unfold headT; simp [k]
    have hj : (joinB ts ⟨#[44, 32]⟩).size ≤ 1010000 := by
      have h1 := joinB_size ts ⟨#[44, 32]⟩
      rw [zs2] at h1
      omega
    rw [hf]
    repeat' first
      | simp only [go_sem, k]
      | (refine PCall.call hall ?_)
      | (refine PCall.call (join18 ts ⟨#[44, 32]⟩ (by omega) (by omega)) ?_)
      | (refine ⟨by first | omega | (simp only [zs1]; omega) | (simp; omega), ?_⟩)
      | (refine finSq rfl ?_; rw [catB_cons, catB_cons, catB_cons, catB_nil, app_nil, app_assoc]; done)
  · have hl2 : (subsE e).1 = 2 := by simp [subsE, k]
    have hf : headT e ts = catB [ts.getD 0 ⟨#[]⟩, ⟨#[91]⟩, ts.getD 1 ⟨#[]⟩, ⟨#[93]⟩] := by unfold headT; simp [k]
    have := hg 0
    have := hg 1
    have a1 : (#[91] : Array UInt8).size = 1 := rfl
    have a2 : (#[93] : Array UInt8).size = 1 := rfl
    rw [hf]
    repeat' first
      | simp only [go_sem, k]
      | (refine PCall.call hall ?_)
      | refine drawK mo (by kernel_rfl) ?_
      | refine elemHave (x := ts.getD 0 ⟨#[]⟩) (by omega) (hq 0 (by omega)) ?_
      | refine elemHave (x := ts.getD 1 ⟨#[]⟩) (by omega) (hq 1 (by omega)) ?_
      | (refine ⟨by first | omega | (simp only [zs1]; omega) | (simp; omega), ?_⟩)
      | (refine finSq rfl ?_; simp only [catB_cons, catB_nil, app_nil, app_assoc]; done)
  · have hl2 : (subsE e).1 = 3 := by simp [subsE, k]
    have hf : headT e ts = catB [⟨#[40]⟩, ts.getD 0 ⟨#[]⟩, ⟨#[32, 119, 105, 116, 104, 32, 91]⟩, ts.getD 1 ⟨#[]⟩, ⟨#[93, 32, 61, 32]⟩, ts.getD 2 ⟨#[]⟩, ⟨#[41]⟩] := by unfold headT; simp [k]
    have hr := round38 [ts.getD 0 ⟨#[]⟩, ⟨#[32, 119, 105, 116, 104, 32, 91]⟩, ts.getD 1 ⟨#[]⟩, ⟨#[93, 32, 61, 32]⟩, ts.getD 2 ⟨#[]⟩] (by simp) (by simp only [sumS_cons, zs4, zs7]; rw [show sumS [] = 0 from rfl]; have := hg 0; have := hg 1; have := hg 2; omega)
    rw [hf]
    repeat' first
      | simp only [go_sem, k]
      | (refine PCall.call hall ?_)
      | refine drawK mo (by kernel_rfl) ?_
      | refine elemHave (x := ts.getD 0 ⟨#[]⟩) (by omega) (hq 0 (by omega)) ?_
      | refine elemHave (x := ts.getD 1 ⟨#[]⟩) (by omega) (hq 1 (by omega)) ?_
      | refine elemHave (x := ts.getD 2 ⟨#[]⟩) (by omega) (hq 2 (by omega)) ?_
      | (refine pcK_ofW hr ⟨.tok _ _ _, trivial⟩ ?_)
      | exact finSq rfl rfl
  · have hf : headT e ts = leafT e := by
      unfold headT
      rw [if_neg (by omega), if_neg (by omega), if_neg (by omega), if_neg (by omega), if_neg (by omega), if_neg (by omega), if_neg (by omega), if_neg (by omega), if_neg (by omega), if_neg (by omega), if_neg (by omega), if_neg (by omega)]
    have hlf := leaf41 e k (h.num e (self_parts e)) hnm h17
    rw [hf]
    generalize leafT e = R at hlf
    repeat' first
      | (exfalso; omega)
      | simp only [go_sem]
      | (refine PCall.call hall ?_)
      | refine brK_dec (fun _ => ?_) (fun _ => ?_)
      | (refine PCall.call hlf ?_)
      | exact finSq rfl rfl
noncomputable def exprT (e : Ex) : ByteArray := if rightE e = true then showT e else ⟨#[]⟩
theorem right_ok {e : Ex} (h : rightE e = true) (ho : okE e) (hn : ∀ y ∈ parts e, I64 y.n) : ShowOK e := by
  unfold rightE at h
  simp only [Bool.and_eq_true] at h
  exact ⟨fun y hy => List.all_eq_true.1 h.2 y hy, ho, hn⟩

theorem expr13 (e : Ex) (ho : okE e) (hn : ∀ y ∈ parts e, I64 y.n) : PCall Tryz.prog 51 [e.enc] (.s (exprT e)) := by
  refine pcall_of_vc tabOK Tryz.func51 (by kernel_rfl) rfl pureL pureI (n := 8) rfl (rs := [.tmp 2]) rfl ?_
  unfold exprT
  simp only [go_sem]
  refine PCall.call (right16 e ho) ?_
  cases hr : rightE e
  · simp only [go_sem]
    exact finSq rfl rfl
  · simp only [go_sem]
    refine PCall.call (text22 e (right_ok hr ho hn)) ?_
    simp only [go_sem]
    exact finSq rfl rfl
end Go.Proofs.YtkjfhhioomnbfaaGreatDoor

/-
  The abstract layer, part Q: what is read as data is an abstract value.
-/
namespace Go.Abs
open Go.RowKit

def mkT (x : TI) (cs : List AV) : AV := match x.agg with | true => .agg cs | false => cs.headD (.tup [])

def FieldsTy (Q : TypeId → List AV → Prop) : List (Nat × TypeId) → List AV → Prop
  | [], cs => cs = []
  | f :: fs, cs => ∃ a b, cs = a ++ b ∧ Q f.2 a ∧ FieldsTy Q fs b

/-- A row of cells is data of a type, to a depth. -/
def Ty (T : TypeId → TI) : Nat → TypeId → List AV → Prop
  | 0, _, _ => False
  | n + 1, t, cs => match (T t).kind with
    | .bool => ∃ b, cs = [.raw (.bool b)]
    | .int k => ∃ m, cs = [.raw (.int k m)] ∧ (Lit.int k m).wf = true
    | .string => ∃ s : ByteArray, cs = [.raw (.string s)] ∧ s.size ≤ maxLen
    | .slice e => ∃ es : List (List AV), cs = [.lst (T e).size (es.map (mkT (T e))) none] ∧ es.length ≤ maxLen ∧ ∀ x ∈ es, Ty T n e x
    | .struct fs => FieldsTy (Ty T n) fs cs
    | .array m e => ∃ es : List (List AV), cs = es.flatten ∧ es.length = m ∧ ∀ x ∈ es, Ty T n e x
    | _ => False

def rowOK (T : TypeId → TI) : Nat → List (Nat × TypeId) → Nat → Bool
  | n, [], m => decide (n = m)
  | n, f :: fs, m => decide (f.1 = n) && rowOK T (n + (T f.2).size) fs m

/-- A list of types that holds what its types are made of, all of them data. -/
def closedT (T : TypeId → TI) (ts : List TypeId) : Bool :=
  ts.all fun t => match (T t).kind with
    | .bool | .int _ | .string => decide ((T t).size = 1)
    | .slice e => ts.contains e && decide ((T t).size = 1)
    | .struct fs => fs.all (fun f => ts.contains f.2) && rowOK T 0 fs (T t).size
    | .array m e => ts.contains e && decide ((T t).size = m * (T e).size)
    | _ => false

theorem mapM_at {α β : Type} {f : α → Option β} : ∀ {l : List α} {ys : List β}, l.mapM f = some ys → l.length = ys.length ∧ ∀ (i : Nat) x, l[i]? = some x → ∃ y, f x = some y := by
  intro l
  induction l with
  | nil => intro ys h; simp at h; subst h; exact ⟨rfl, fun i x hx => by simp at hx⟩
  | cons a l ih =>
    intro ys h
    rw [List.mapM_cons] at h
    cases ha : f a with
    | none => simp [ha] at h
    | some b =>
      cases hl : l.mapM f with
      | none => simp [ha, hl] at h
      | some bs =>
        simp [ha, hl] at h
        subst h
        obtain ⟨h1, h2⟩ := ih hl
        refine ⟨by simp [h1], fun i x hx => ?_⟩
        cases i with
        | zero => simp at hx; subst hx; exact ⟨b, ha⟩
        | succ i => exact h2 i x (by simpa using hx)

section
variable {P : Program} {T : TypeId → TI} {H : Type} {enc : TypeId × Value → H} {w : World} {φ : Nat → Loc}

abbrev Old (w : World) : Addr → Prop := fun a => a.block < w.heap.size

/-- Cells that are told by abstract ones. -/
def CellsAre (w : World) (φ : Nat → Loc) (azs : List AV) (cs : List Value) : Prop :=
  azs.length = cs.length ∧ ∀ (j : Nat) a v, azs[j]? = some a → cs[j]? = some v → C (Old w) w φ a v ∧ v.oneCell' = true

theorem CellsAre.nil : CellsAre w φ [] [] := ⟨rfl, fun j a v h => by simp at h⟩
theorem CellsAre.one {a : AV} {v : Value} (h : C (Old w) w φ a v) (h1 : v.oneCell' = true) : CellsAre w φ [a] [v] := by
  refine ⟨rfl, fun j b u hb hu => ?_⟩
  cases j with
  | zero => simp at hb hu; subst hb; subst hu; exact ⟨h, h1⟩
  | succ j => simp at hb
theorem CellsAre.append {azs bs : List AV} {cs ds : List Value} (h : CellsAre w φ azs cs) (k : CellsAre w φ bs ds) : CellsAre w φ (azs ++ bs) (cs ++ ds) := by
  refine ⟨by simp [h.1, k.1], fun j a v ha hv => ?_⟩
  rw [List.getElem?_append] at ha hv
  rw [← h.1] at hv
  split at ha
  · rename_i hj; rw [if_pos hj] at hv; exact h.2 j a v ha hv
  · rename_i hj; rw [if_neg hj] at hv; exact k.2 _ a v ha hv

theorem cellsOf_eq (hT : TabOK P T) {t : TypeId} (hk : (T t).kind ≠ .other) : P.cellsOf t = (T t).size := by
  obtain ⟨i, z, hi, hs, _⟩ := (hT t).known hk
  simp [Program.cellsOf, hi, hs]

theorem mkT_cells {n : Nat} {t : TypeId} {azs : List AV} (h : Ty T n t azs) : (mkT (T t) azs).cells = azs := by
  cases n with
  | zero => exact h.elim
  | succ n =>
    unfold Ty at h
    unfold mkT TI.agg
    cases hk : (T t).kind <;> simp only [hk] at h ⊢
    case bool => obtain ⟨b, rfl⟩ := h; rfl
    case int => obtain ⟨b, rfl, _⟩ := h; rfl
    case string => obtain ⟨b, rfl, _⟩ := h; rfl
    case slice => obtain ⟨es, rfl, _⟩ := h; rfl
    case struct => rfl
    case array => rfl

theorem cells_of {w : World} {base : Nat} {a : Addr} {n : Nat} {cs : List Value} (h : w.cells? base a n = some cs) : cs.length = n ∧ ∀ (j : Nat) v, cs[j]? = some v → w.cell? (a.add j) = some v := by
  unfold World.cells? at h
  split at h
  · have key : ∀ (l : List Nat) (cs : List Value), l.mapM (fun i => w.cell? (a.add i)) = some cs → cs.length = l.length ∧ ∀ (j : Nat) v, cs[j]? = some v → ∃ i, l[j]? = some i ∧ w.cell? (a.add i) = some v := by
      intro l
      induction l with
      | nil => intro cs h; simp at h; subst h; exact ⟨rfl, fun j v hv => by simp at hv⟩
      | cons i l ih =>
        intro cs h
        rw [List.mapM_cons] at h
        cases hi : w.cell? (a.add i) with
        | none => simp [hi] at h
        | some u =>
          cases hl : l.mapM (fun i => w.cell? (a.add i)) with
          | none => simp [hi, hl] at h
          | some us =>
            simp [hi, hl] at h
            subst h
            obtain ⟨h1, h2⟩ := ih us hl
            refine ⟨by simp [h1], fun j v hv => ?_⟩
            cases j with
            | zero => simp at hv; subst hv; exact ⟨i, rfl, hi⟩
            | succ j => simpa using h2 j v (by simpa using hv)
    obtain ⟨h1, h2⟩ := key _ _ h
    refine ⟨by simpa using h1, fun j v hv => ?_⟩
    obtain ⟨i, hi, hc⟩ := h2 j v hv
    have hlt : j < n := by have := (List.getElem?_eq_some_iff.1 hv).1; rw [h1] at this; simpa using this
    rw [List.getElem?_range hlt] at hi
    cases hi
    exact hc
  · cases h

theorem cell_lt {w : World} {a : Addr} {v : Value} (h : w.cell? a = some v) : a.block < w.heap.size := by
  unfold World.cell? at h
  split at h
  · rename_i c e f hb; exact (Array.getElem?_eq_some_iff.1 hb).1
  · cases h

theorem exists_row {β : Type} {Q : Nat → β → Prop} (n : Nat) (h : ∀ i, i < n → ∃ y, Q i y) : ∃ ys : List β, ys.length = n ∧ ∀ (i : Nat) y, ys[i]? = some y → Q i y := by
  induction n with
  | zero => exact ⟨[], rfl, fun i y hy => by simp at hy⟩
  | succ n ih =>
    obtain ⟨ys, h1, h2⟩ := ih fun i hi => h i (by omega)
    obtain ⟨y, hy⟩ := h n (by omega)
    refine ⟨ys ++ [y], by simp [h1], fun i z hz => ?_⟩
    rw [List.getElem?_append] at hz
    split at hz
    · exact h2 i z hz
    · rename_i hi
      have := (List.getElem?_eq_some_iff.1 hz).1
      simp at this
      have e : i = n := by omega
      subst e
      simp [h1] at hz
      subst hz
      exact hy

theorem fields_trod {n : Nat} {ts : List TypeId} {R : TypeId → List Value → Option (DataW H × List MemPlace)}
    (ih : ∀ (t : TypeId) (cs : List Value) x, t ∈ ts → R t cs = some x → ∃ azs, Ty T n t azs ∧ CellsAre w φ azs cs ∧ cs.length = (T t).size) :
    ∀ (F : List Field) (off m : Nat) (cs : List Value) (ys : List (DataW H × List MemPlace)), (∀ f ∈ F, f.type ∈ ts ∧ P.cellsOf f.type = (T f.type).size) → rowOK T off (F.map fun f => (f.offset, f.type)) m = true → cs.length = m →
      off ≤ m → F.mapM (fun f => R f.type ((cs.drop f.offset).take (P.cellsOf f.type))) = some ys → ∃ azs, FieldsTy (Ty T n) (F.map fun f => (f.offset, f.type)) azs ∧ CellsAre w φ azs (cs.drop off) := by
  intro F
  induction F with
  | nil =>
    intro off m cs ys _ hr hl _ _
    simp only [List.map_nil, rowOK, decide_eq_true_eq] at hr
    refine ⟨[], rfl, ?_⟩
    rw [List.drop_of_length_le (by omega)]
    exact CellsAre.nil
  | cons f F ihF =>
    intro off m cs ys hf hr hl hom hm
    simp only [List.map_cons, rowOK, Bool.and_eq_true, decide_eq_true_eq] at hr
    obtain ⟨hoff, hr⟩ := hr
    rw [List.mapM_cons] at hm
    obtain ⟨hft, hfs⟩ := hf f (by simp)
    cases h0 : R f.type ((cs.drop f.offset).take (P.cellsOf f.type)) with
    | none => simp [h0] at hm
    | some y =>
      cases h1 : F.mapM (fun f => R f.type ((cs.drop f.offset).take (P.cellsOf f.type))) with
      | none => simp [h0, h1] at hm
      | some ys' =>
        obtain ⟨a, ha, hca, hla⟩ := ih _ _ _ hft h0
        rw [hfs, hoff, List.length_take, List.length_drop] at hla
        have hle : off + (T f.type).size ≤ m ∨ (T f.type).size = 0 := by omega
        obtain ⟨azs, has, hcas⟩ := ihF (off + (T f.type).size) m cs ys' (fun g hg => hf g (by simp [hg])) hr hl (by omega) h1
        refine ⟨a ++ azs, ⟨a, azs, rfl, ha, has⟩, ?_⟩
        have e : cs.drop off = (cs.drop off).take (T f.type).size ++ cs.drop (off + (T f.type).size) := by
          rw [← List.drop_drop, List.take_append_drop]
        rw [e]
        rw [hfs, hoff] at hca
        exact hca.append hcas

theorem CellsAre.cons2 {azs : List (List AV)} {m sz : Nat} {cs : List Value} (hl : azs.length = m) (hcs : cs.length = m * sz) (h : ∀ (i : Nat) a, azs[i]? = some a → a.length = sz ∧ CellsAre w φ a ((cs.drop (i * sz)).take sz)) : CellsAre w φ azs.flatten cs := by
  induction azs generalizing m cs with
  | nil => simp at hl; subst hl; simp at hcs; subst hcs; exact CellsAre.nil
  | cons a azs ih =>
    simp only [List.flatten_cons]
    have h0 := h 0 a rfl
    simp only [Nat.zero_mul, List.drop_zero] at h0
    have e : cs = cs.take sz ++ cs.drop sz := (List.take_append_drop _ _).symm
    rw [e]
    refine h0.2.append (ih (m := m - 1) (by simp at hl; omega) ?_ fun i b hb => ?_)
    · rw [List.length_drop, hcs, Nat.sub_mul, Nat.one_mul]
    · have := h (i + 1) b (by simpa using hb)
      rw [List.drop_drop]
      have e2 : sz + i * sz = (i + 1) * sz := by rw [Nat.succ_mul]; omega
      rw [e2]
      exact this

theorem flatten_flat {n : Nat} {t : TypeId} : ∀ {es : List (List AV)}, (∀ x ∈ es, Ty T n t x) → flat (es.map (mkT (T t))) = es.flatten
  | [], _ => rfl
  | x :: es, h => by
    simp only [List.map_cons, flat, List.flatMap_cons, List.flatten_cons]
    rw [mkT_cells (h x (by simp))]
    congr 1
    exact flatten_flat fun y hy => h y (by simp [hy])

theorem trod_Ty (hT : TabOK P T) {ts : List TypeId} (hc : closedT T ts = true) {base : Nat} {sp : Nat → Bool} {hd : Bool} : ∀ (n : Nat) (t : TypeId) (cs : List Value) (x : DataW H × List MemPlace),
    t ∈ ts → DataW.trod enc P w base sp hd n t cs = some x → ∃ azs, Ty T n t azs ∧ CellsAre w φ azs cs ∧ cs.length = (T t).size := by
  have hnoT : ∀ t ∈ ts, (T t).kind ≠ .other := by
    intro t ht e
    have hct := List.all_eq_true.1 hc t ht
    simp [e] at hct
  intro n
  induction n with
  | zero => intro t cs x _ h; simp [DataW.trod] at h
  | succ n ih =>
    intro t cs x ht h
    have hct := List.all_eq_true.1 hc t ht
    have hno := hnoT t ht
    obtain ⟨i, z, hi, hsz, _, hz, hzc, hzz, hza, _, hzl, hK⟩ := (hT t).known hno
    unfold Ty
    cases hk : (T t).kind <;> simp only [hk] at hct hK ⊢ <;> try contradiction
    case bool =>
      simp only [KindOK] at hK
      have hct := of_decide_eq_true hct
      simp only [DataW.trod, hK] at h
      match cs, h with
      | [.bool b], _ => exact ⟨_, ⟨b, rfl⟩, .one (.raw _) rfl, hct.symm⟩
    case int k =>
      simp only [KindOK] at hK
      have hct := of_decide_eq_true hct
      simp only [DataW.trod, hK] at h
      match cs, h with
      | [.int k' m], h =>
        simp only at h
        split at h
        · rename_i hh
          obtain ⟨rfl, hw⟩ := hh
          exact ⟨_, ⟨m, rfl, hw⟩, .one (.raw _) rfl, hct.symm⟩
        · cases h
    case string =>
      simp only [KindOK] at hK
      have hct := of_decide_eq_true hct
      simp only [DataW.trod, hK] at h
      match cs, h with
      | [.string b], h =>
        simp only at h
        split at h
        · rename_i hh
          exact ⟨_, ⟨b, rfl, hh⟩, .one (.raw _) rfl, hct.symm⟩
        · cases h
    case slice e =>
      simp only [KindOK] at hK
      simp only [Bool.and_eq_true, List.contains_iff_mem, decide_eq_true_eq] at hct
      obtain ⟨hes, hct⟩ := hct
      simp only [DataW.trod, hK] at h
      have hsz := cellsOf_eq hT (hnoT e hes)
      match cs, h with
      | [.slice none 0 0], _ => exact ⟨_, ⟨[], rfl, by simp, by simp⟩, .one (.lstnil _ _ trivial) rfl, hct.symm⟩
      | [.slice (some a) len cap], h =>
        simp only at h
        split at h
        · rename_i hh
          obtain ⟨_, hcap, hmax⟩ := hh
          simp only [Option.bind_eq_some_iff] at h
          obtain ⟨elems, hel, _⟩ := h
          obtain ⟨hlen, hat⟩ := mapM_at hel
          simp only [List.length_range] at hlen
          have key : ∀ i, i < len → ∃ azs, Ty T n e azs ∧ ∃ vs, w.cells? base (a.add (i * P.cellsOf e)) (P.cellsOf e) = some vs ∧ CellsAre w φ azs vs := by
            intro i hi
            obtain ⟨y, hy⟩ := hat i i (List.getElem?_range hi)
            simp only [Option.bind_eq_some_iff] at hy
            obtain ⟨vs, hvs, hy⟩ := hy
            obtain ⟨azs, h1, h2, _⟩ := ih e vs y hes hy
            exact ⟨azs, h1, vs, hvs, h2⟩
          obtain ⟨es, hesl, hee⟩ := exists_row len key
          have hty : ∀ x ∈ es, Ty T n e x := by
            intro x hx
            obtain ⟨j, hj, rfl⟩ := List.getElem_of_mem hx
            exact (hee j _ (List.getElem?_eq_getElem hj)).1
          have hflat := flatten_flat hty
          have hcl : ∀ x ∈ es.map (mkT (T e)), x.cells.length = (T e).size := by
            intro x hx
            obtain ⟨y, hy, rfl⟩ := List.mem_map.1 hx
            rw [mkT_cells (hty y hy)]
            obtain ⟨j, hj, rfl⟩ := List.getElem_of_mem hy
            obtain ⟨_, vs, hvs, hca⟩ := hee j _ (List.getElem?_eq_getElem hj)
            rw [hca.1, (cells_of hvs).1, hsz]
          have hcells : ∀ (j : Nat) c, (flat (es.map (mkT (T e))))[j]? = some c → ∃ u, w.cell? (a.add j) = some u ∧ C (Old w) w φ c u ∧ u.oneCell' = true := by
            intro j c hj
            have hjl : j < (flat (es.map (mkT (T e)))).length := (List.getElem?_eq_some_iff.1 hj).1
            rw [flat_length hcl, List.length_map, hesl] at hjl
            have hpos : 0 < (T e).size := by
              rcases Nat.eq_zero_or_pos (T e).size with h0 | h0
              · rw [h0] at hjl; simp at hjl
              · exact h0
            have hil : j / (T e).size < len := by rw [Nat.div_lt_iff_lt_mul hpos]; exact hjl
            have hdm : j / (T e).size * (T e).size + j % (T e).size = j := by rw [Nat.mul_comm]; exact Nat.div_add_mod _ _
            have hx : es[j / (T e).size]? = some (es[j / (T e).size]'(by rw [hesl]; exact hil)) := List.getElem?_eq_getElem _
            obtain ⟨ht', vs, hvs, hca⟩ := hee _ _ hx
            obtain ⟨hvl, hva⟩ := cells_of hvs
            rw [hsz] at hvs hvl hva
            have hxm : (es.map (mkT (T e)))[j / (T e).size]? = some (mkT (T e) (es[j / (T e).size]'(by rw [hesl]; exact hil))) := by rw [List.getElem?_map, hx]; rfl
            have hml : j % (T e).size < (es[j / (T e).size]'(by rw [hesl]; exact hil)).length := by rw [hca.1, hvl]; exact Nat.mod_lt _ hpos
            have hcc := flat_at hcl hxm (j := j % (T e).size) (c := (es[j / (T e).size]'(by rw [hesl]; exact hil))[j % (T e).size]) (by rw [mkT_cells ht']; exact List.getElem?_eq_getElem _)
            rw [hdm, hj] at hcc
            have hvj : vs[j % (T e).size]? = some (vs[j % (T e).size]'(by rw [hvl]; exact Nat.mod_lt _ hpos)) := List.getElem?_eq_getElem _
            refine ⟨vs[j % (T e).size]'(by rw [hvl]; exact Nat.mod_lt _ hpos), ?_, ?_⟩
            · have := hva _ _ hvj
              rw [add_add, hdm] at this
              exact this
            · have := hca.2 _ _ _ (List.getElem?_eq_getElem hml) hvj
              cases hcc
              exact this
          obtain ⟨us, hul, hu⟩ := exists_vals (Q := fun j c u => w.cell? (a.add j) = some u ∧ C (Old w) w φ c u ∧ u.oneCell' = true) _ hcells
          have hget : ∀ (j : Nat) c, (flat (es.map (mkT (T e))))[j]? = some c → us[j]? = some (us.getD j undef) := by
            intro j c hj
            have hj' : j < us.length := by rw [hul]; exact (List.getElem?_eq_some_iff.1 hj).1
            rw [List.getD_eq_getElem?_getD, List.getElem?_eq_getElem hj']; rfl
          refine ⟨_, ⟨es, rfl, by omega, hty⟩, .one ?_ rfl, hct.symm⟩
          refine .lst _ _ _ a len cap (fun j => us.getD j undef) (by simp [hesl]) hcap hmax hcl (fun j c hj => ?_) (fun j c hj => ?_) (fun j c hj => ?_) trivial
          · have := hu j c _ hj (hget j c hj)
            exact ⟨this.1, by have := cell_lt this.1; unfold Addr.add at this ⊢; split <;> simpa [*] using this⟩
          · exact (hu j c _ hj (hget j c hj)).2.1
          · exact (hu j c _ hj (hget j c hj)).2.2
        · cases h
    case struct fs =>
      obtain ⟨F, hu, hF, _, _⟩ := hK
      simp only [Bool.and_eq_true, List.all_eq_true, List.contains_iff_mem] at hct
      obtain ⟨hfs, hrow⟩ := hct
      have hco := cellsOf_eq hT hno
      subst hF
      simp only [DataW.trod, hu] at h
      split at h
      · rename_i hl
        simp only [Option.map_eq_some_iff] at h
        obtain ⟨ys, hys, _⟩ := h
        obtain ⟨azs, h1, h2⟩ := fields_trod (P := P) (T := T) (H := H) (w := w) (φ := φ) (n := n) (ts := ts) (R := fun t cs => DataW.trod enc P w base sp hd n t cs) (fun t cs x ht hx => ih t cs x ht hx) F.toList 0 (T t).size cs ys
          (fun f hf => by
            have := hfs (f.offset, f.type) (List.mem_map.2 ⟨f, hf, rfl⟩)
            exact ⟨this, cellsOf_eq hT (hnoT _ this)⟩) hrow (by rw [hl, hco]) (Nat.zero_le _) hys
        exact ⟨azs, h1, h2, by rw [hl, hco]⟩
      · cases h
    case array m e =>
      simp only [KindOK] at hK
      simp only [Bool.and_eq_true, List.contains_iff_mem, decide_eq_true_eq] at hct
      obtain ⟨hes, hct⟩ := hct
      have hco := cellsOf_eq hT hno
      have hsz := cellsOf_eq hT (hnoT e hes)
      have hu := hK.1
      simp only [DataW.trod, hu] at h
      split at h
      · rename_i hl
        simp only [Option.map_eq_some_iff] at h
        obtain ⟨ys, hys, _⟩ := h
        obtain ⟨_, hat⟩ := mapM_at hys
        have key : ∀ i, i < m → ∃ azs, Ty T n e azs ∧ CellsAre w φ azs ((cs.drop (i * (T e).size)).take (T e).size) ∧ azs.length = (T e).size := by
          intro i hi
          obtain ⟨y, hy⟩ := hat i i (List.getElem?_range hi)
          obtain ⟨azs, h1, h2, h3⟩ := ih e _ y hes hy
          rw [hsz] at h2 h3
          exact ⟨azs, h1, h2, by rw [h2.1, h3]⟩
        obtain ⟨es, hesl, hee⟩ := exists_row m key
        refine ⟨es.flatten, ⟨es, rfl, hesl, fun x hx => ?_⟩, ?_, by rw [hl, hco]⟩
        · obtain ⟨j, hj, rfl⟩ := List.getElem_of_mem hx
          exact (hee j _ (List.getElem?_eq_getElem hj)).1
        · exact CellsAre.cons2 hesl (by rw [hl, hco, hct]) fun i a ha => ⟨(hee i a ha).2.2, (hee i a ha).2.1⟩
      · cases h
theorem trod_val (hT : TabOK P T) {ts : List TypeId} (hc : closedT T ts = true) {base b' : Nat} {sp : Nat → Bool} {hd : Bool} {rc : Reach} {t : TypeId} {v : Value} {d : DataW H} {ps : List MemPlace} (ht : t ∈ ts)
    (hf : Value.okWide P w rc b' t v) (h : DataW.Trod enc P w base sp hd t v d ps) : ∃ n azs, Ty T n t azs ∧ C (Old w) w φ (mkT (T t) azs) v := by
  obtain ⟨n, hn⟩ := h
  obtain ⟨azs, h1, h2, h3⟩ := trod_Ty (w := w) (φ := φ) hT hc n t _ _ ht hn
  refine ⟨n, azs, h1, ?_⟩
  have hct := List.all_eq_true.1 hc t ht
  have hno : (T t).kind ≠ .other := by intro e; simp [e] at hct
  obtain ⟨i, z, hi, hsz, _, hz, hzc, hzz, hza, _, hzl, hK⟩ := (hT t).known hno
  have scalar : ∀ u, v = u → u.cells = #[u] → (∃ a, azs = [a]) → C (Old w) w φ (azs.headD (.tup [])) v := by
    rintro u rfl hu ⟨a, rfl⟩
    rw [hu] at h2
    exact (h2.2 0 a v rfl rfl).1
  have agg : ∀ cs, v = .agg cs → C (Old w) w φ (.agg azs) v := by
    rintro cs rfl
    refine .agg azs cs (by have := h2.1; simpa [Value.cells] using this.symm) (fun i a v ha hv => (h2.2 i a v ha (by simpa [Value.cells] using hv)).1) (fun v hv => ?_)
    obtain ⟨k, hk, rfl⟩ := List.getElem_of_mem hv
    have hkl : k < azs.length := by rw [h2.1]; simpa [Value.cells] using hk
    exact (h2.2 k _ _ (List.getElem?_eq_getElem hkl) (by simp [Value.cells])).2
  cases n with
  | zero => exact h1.elim
  | succ n =>
  unfold Ty at h1
  unfold mkT TI.agg
  cases hk : (T t).kind <;> simp only [hk] at hct hK h1 ⊢ <;> try contradiction
  case bool =>
    simp only [KindOK] at hK
    obtain ⟨b, rfl⟩ := WideShapes.okWide_bool hK hf
    obtain ⟨b', rfl⟩ := h1
    exact scalar _ rfl rfl ⟨_, rfl⟩
  case int k =>
    simp only [KindOK] at hK
    obtain ⟨b, rfl⟩ := WideShapes.okWide_int hK hf
    obtain ⟨b', rfl, _⟩ := h1
    exact scalar _ rfl rfl ⟨_, rfl⟩
  case string =>
    simp only [KindOK] at hK
    obtain ⟨b, rfl⟩ := WideShapes.okWide_string hK hf
    obtain ⟨b', rfl, _⟩ := h1
    exact scalar _ rfl rfl ⟨_, rfl⟩
  case slice e =>
    simp only [KindOK] at hK
    obtain ⟨a, l, c, rfl⟩ := WideShapes.okWide_slice hK hf
    obtain ⟨b', rfl, _⟩ := h1
    exact scalar _ rfl rfl ⟨_, rfl⟩
  case struct fs =>
    obtain ⟨F, hu, _⟩ := hK
    simp only [Value.okWide, hu] at hf
    obtain ⟨cs, rfl, _⟩ := hf
    exact agg _ rfl
  case array m e =>
    simp only [KindOK] at hK
    simp only [Value.okWide, hK.1] at hf
    obtain ⟨cs, rfl, _⟩ := hf
    exact agg _ rfl

/-- Arguments that are data of their types. -/
def TyAll (T : TypeId → TI) : List TypeId → List AV → Prop
  | [], azs => azs = []
  | t :: ts, azs => ∃ n a r, azs = mkT (T t) a :: r ∧ Ty T n t a ∧ TyAll T ts r

theorem trodAll_vals (hT : TabOK P T) {ts : List TypeId} (hc : closedT T ts = true) {base b' : Nat} {sp : Nat → Bool} {hd : Bool} {rc : Reach} : ∀ {us : List TypeId} {vs : List Value} {ds : List (DataW H)} {ps : List MemPlace}, (∀ t ∈ us, t ∈ ts) →
    (∀ (j : Nat) t v, us[j]? = some t → vs[j]? = some v → Value.okWide P w rc b' t v) → DataW.TrodAll enc P w base sp hd us vs ds ps → ∃ azs, TyAll T us azs ∧ CAll (Old w) w φ azs vs.toArray ∧ ds.length = us.length
  | [], vs, ds, ps, _, _, h => by
    obtain ⟨rfl, rfl, rfl⟩ := ChangeShapes.trodAll_nil h
    exact ⟨[], rfl, CAll.nil, rfl⟩
  | t :: us, vs, ds, ps, hm, hv, h => by
    obtain ⟨v, vs1, d, ds1, a, b, rfl, rfl, rfl, h1, h2⟩ := ChangeShapes.trodAll_cons h
    obtain ⟨azs, k1, k2, k3⟩ := trodAll_vals hT hc (fun t ht => hm t (by simp [ht])) (fun j t v hj hjv => hv (j + 1) t v (by simpa using hj) (by simpa using hjv)) h2
    obtain ⟨n, x, q1, q2⟩ := trod_val (φ := φ) hT hc (hm t (by simp)) (hv 0 t v rfl rfl) h1
    exact ⟨_ :: azs, ⟨n, x, azs, rfl, q1, k1⟩, CAll.cons q2 k2, by simp [k3]⟩

theorem args_stay (hl : laidOutB P = true) {W W' : World} (hb : Below W.heap.size W W') : ∀ {us : List TypeId} {vs : List Value} {ds : List (DataW H)} {ps : List MemPlace}, (∀ t ∈ us, P.readableRec t = true ∧ t < P.types.size) →
    (∀ p ∈ ps, p.block < W.heap.size) → DataW.TrodAll enc P W 0 (fun _ => true) true us vs ds ps → DataW.TrodAll enc P W' 0 (fun b => decide (b < W.heap.size)) true us vs ds ps
  | [], vs, ds, ps, _, _, h => by
    obtain ⟨rfl, rfl, rfl⟩ := ChangeShapes.trodAll_nil h
    exact ChangeShapes.trodAll_mk0
  | t :: us, vs, ds, ps, hm, hp, h => by
    obtain ⟨v, vs1, d, ds1, a, b, rfl, rfl, rfl, h1, h2⟩ := ChangeShapes.trodAll_cons h
    exact ⟨a, b, Below.trod hl (hm t (by simp)).1 (hm t (by simp)).2 h1 hb (fun x hx => hp x (by simp [hx])), args_stay hl hb (fun t ht => hm t (by simp [ht])) (fun x hx => hp x (by simp [hx])) h2, rfl⟩

/-- **A law's contract, out of the abstract one.** -/
theorem law_contract {f : FuncId} {fn : Func} {s : ChangeSpec} {tb : TypeId} {ts : List TypeId} (hT : TabOK P T) (hc : closedT T ts = true) (hl : laidOutB P = true) (hpar : fn.params.toList.all (fun t => ts.contains t && P.readableRec t && decide (t < P.types.size)) = true)
    (hres : fn.resultTypes = #[tb]) (htb : P.underlying tb = some .bool) (hsv : s.vars = []) (hs : ∀ ds : List (DataW H), ds.length = fn.params.toList.length → (s.fn H ds).results = [.lit (.bool true)] ∧ (s.fn H ds).args = ds ∧ (s.fn H ds).vars = [])
    (hcall : ∀ azs, TyAll T fn.params.toList azs → PCall P f azs (.raw (.bool true)))
    (W : World) (base : Nat) (args : Array Value) (ds gs : List (DataW H)) (before : List MemPlace) (hval : ∀ (j : Nat) t v, fn.params[j]? = some t → args[j]? = some v → Value.okWide P W .any base t v)
    (hW : DataW.Whole enc P fn.params.toList s.vars false W args.toList ds gs before) (htab : ∀ x ∈ tabL, ∃ cs t l, W.heap[x.1]? = some (.cells cs t l) ∧ x.2 cs) :
    Calls P f args W fun e W' => ∃ v, e = .returned v ∧ s.post enc P fn false true false false W args v W' := by
  have hW' := hW
  obtain ⟨p, q, hA, hV, rfl, hfz, hnd⟩ := hW
  rw [hsv] at hV
  have hg : gs = [] ∧ q = [] := by
    cases gs with
    | nil => exact ⟨rfl, hV⟩
    | cons g gs => exact hV.elim
  obtain ⟨rfl, rfl⟩ := hg
  have hm : ∀ t ∈ fn.params.toList, t ∈ ts ∧ P.readableRec t = true ∧ t < P.types.size := by
    intro t ht
    have := List.all_eq_true.1 hpar t ht
    simp only [Bool.and_eq_true, List.contains_iff_mem, decide_eq_true_eq] at this
    exact ⟨this.1.1, this.1.2, this.2⟩
  obtain ⟨azs, k1, k2, k3⟩ := trodAll_vals (φ := fun _ => .no) hT hc (fun t ht => (hm t ht).1) (fun j t v hj hv => hval j t v (by simpa using hj) (by simpa using hv)) hA
  obtain ⟨_, _, h3⟩ := hcall azs k1
  obtain ⟨_, hcalls⟩ := h3 (Old W) W args (fun a ha => ha) (fun x hx => ⟨htab x hx, no_owns⟩) k2
  refine Calls.mono hcalls ?_
  rintro e W' ⟨v, S', rfl, hcv, hr, hx⟩
  cases hcv
  have hb : Below W.heap.size W W' := ⟨hx.os, hx.tape, hx.output, hx.size, fun k hk => hx.keep k hk no_owns⟩
  obtain ⟨e1, e2, e3⟩ := hs ds k3
  refine ⟨_, rfl, ds, [], _, [], p, [], hW', ?_, ?_, ?_, hb.frame _, fun h => by cases h⟩
  · rw [List.append_nil, e1, hres]
    exact ChangeShapes.trodAll_mk1 (shut_bool htb true)
  · rw [List.append_nil, e2]
    exact args_stay hl hb (fun t ht => (hm t ht).2) (fun x hx => hW'.lt x (by simp [hx])) hA
  · rw [List.append_nil, e3, hsv]
    rfl
end
end Go.Abs

namespace Go.Proofs.YtkjfhhioomnbfaaGreatDoor
open Go.Abs
set_option maxRecDepth 20000
set_option linter.unusedSimpArgs false
set_option linter.unusedVariables false
set_option maxHeartbeats 1000000
attribute [local irreducible] vc vcOps vcStep vcGuard prK hrK gK gsK brK callK ElemK SeqK BlockK ScopeK OpsK CallK LoopK LoopGo finPost ACall PCall PCallE BCall vqOps vqStep vqGuard qrK heK pcK gqK gqsK QOpsK qcallK DrawK

theorem ty_list {α : Type} {enc : α → AV} {n : Nat} {t : TypeId} {q : α → Prop} (h : ∀ cs, Ty ti n t cs → ∃ x : α, mkT (ti t) cs = enc x ∧ q x) : ∀ {es : List (List AV)}, (∀ x ∈ es, Ty ti n t x) → ∃ l : List α, es.map (mkT (ti t)) = l.map enc ∧ ∀ x ∈ l, q x
  | [], _ => ⟨[], rfl, by simp⟩
  | x :: es, hx => by
    obtain ⟨y, hy, hq⟩ := h x (hx x (by simp))
    obtain ⟨l, hl, hql⟩ := ty_list h (es := es) fun z hz => hx z (by simp [hz])
    exact ⟨y :: l, by simp [hy, hl], by simp only [List.mem_cons]; rintro z (rfl | hz); exact hq; exact hql z hz⟩
theorem ty_slice {α : Type} {enc : α → AV} {t e sz : Nat} (hk : (ti t).kind = .slice e) (hs : (ti e).size = sz) {n : Nat} {q : α → Prop} (h : ∀ n' cs, n' < n → Ty ti n' e cs → ∃ x : α, mkT (ti e) cs = enc x ∧ q x) {cs : List AV} (hc : Ty ti n t cs) : ∃ l : List α, cs = [.lst sz (l.map enc) none] ∧ ∀ x ∈ l, q x := by
  cases n with
  | zero => exact hc.elim
  | succ n =>
    unfold Ty at hc
    simp only [hk] at hc
    obtain ⟨es, rfl, _, hes⟩ := hc
    obtain ⟨l, hl, hq⟩ := ty_list (enc := enc) (t := e) (fun cs hcs => h n cs (by omega) hcs) hes
    exact ⟨l, by rw [hl, hs], hq⟩
theorem ty_iK {t : Nat} (hk : (ti t).kind = .int .i64) {n : Nat} {cs : List AV} (h : Ty ti n t cs) : ∃ k : Int, cs = [.i k] ∧ I64 k := by
  cases n with
  | zero => exact h.elim
  | succ n =>
    unfold Ty at h
    simp only [hk] at h
    obtain ⟨k, rfl, hw⟩ := h
    simp only [Lit.wf, Bool.and_eq_true, decide_eq_true_eq] at hw
    exact ⟨k, rfl, (hw : (IntKind.i64.min : Int) ≤ k ∧ k ≤ IntKind.i64.max)⟩
theorem ty_sK {t : Nat} (hk : (ti t).kind = .string) {n : Nat} {cs : List AV} (h : Ty ti n t cs) : ∃ k : ByteArray, cs = [.s k] ∧ S47 k := by
  cases n with
  | zero => exact h.elim
  | succ n => unfold Ty at h; simp only [hk] at h; obtain ⟨k, rfl, hw⟩ := h; exact ⟨k, rfl, hw⟩
theorem ty_i {n : Nat} {cs : List AV} (h : Ty ti n 3 cs) : ∃ k : Int, cs = [.i k] ∧ I64 k := ty_iK rfl h
theorem ty_l {n : Nat} {cs : List AV} (h : Ty ti n 2 cs) : ∃ k : Int, cs = [.i k] ∧ I64 k := ty_iK rfl h
theorem ty_s {n : Nat} {cs : List AV} (h : Ty ti n 9 cs) : ∃ k : ByteArray, cs = [.s k] ∧ S47 k := ty_sK rfl h
theorem ty_ss {n : Nat} {cs : List AV} (h : Ty ti n 44 cs) : ∃ l : List ByteArray, cs = [.lst 1 (l.map AV.s) none] ∧ ∀ y ∈ l, S47 y := ty_slice (e := 9) rfl rfl (fun _ _ _ hc => by obtain ⟨s, rfl, hs⟩ := ty_s hc; exact ⟨s, rfl, hs⟩) h
theorem ty_ex : ∀ {n : Nat} {cs : List AV}, Ty ti n 47 cs → ∃ e : Ex, .agg cs = e.enc ∧ e.ok := by
  intro n
  induction n using Nat.strongRecOn with
  | _ n ih =>
  intro cs h
  cases n with
  | zero => exact h.elim
  | succ n =>
    simp only [Ty, ti, FieldsTy] at h
    obtain ⟨a1, b1, rfl, h1, a2, b2, rfl, h2, a3, b3, rfl, h3, a4, b4, rfl, h4, a5, b5, rfl, h5, a6, b6, rfl, h6, rfl⟩ := h
    obtain ⟨k, rfl, q1⟩ := ty_i h1
    obtain ⟨m, rfl, q2⟩ := ty_l h2
    obtain ⟨nm, rfl, q3⟩ := ty_s h3
    obtain ⟨op, rfl, q4⟩ := ty_i h4
    obtain ⟨arms, rfl, q5⟩ := ty_ss h5
    obtain ⟨subs, rfl, q6⟩ := ty_slice (enc := Ex.enc) (t := 45) (e := 47) (sz := 6) rfl rfl (fun n' cs' hn hc => ih n' (by omega) hc) h6
    exact ⟨.mk k m nm op arms subs, by rw [Go.Abs.enc_eq]; rfl, (Ex.ok_eq _).2 ⟨q1, q2, q3, q4, q5, q6⟩⟩
theorem ty_DTy {n : Nat} {cs : List AV} (h : Ty ti n 38 cs) : ∃ x : DTy, .agg cs = x.enc ∧ x.ok := by
  cases n with
  | zero => exact h.elim
  | succ n =>
    simp only [Ty, ti, FieldsTy] at h
    obtain ⟨a0, b0, rfl, h0, a1, b1, rfl, h1, a2, b2, rfl, h2, rfl⟩ := h
    obtain ⟨x0, rfl, q0⟩ := ty_iK rfl h0
    obtain ⟨x1, rfl, q1⟩ := ty_iK rfl h1
    obtain ⟨x2, rfl, q2⟩ := ty_iK rfl h2
    exact ⟨⟨x0, x1, x2⟩, by rw [DTy.enc_eq]; rfl, ⟨q0, q1, q2⟩⟩
theorem ty_DEnum {n : Nat} {cs : List AV} (h : Ty ti n 61 cs) : ∃ x : DEnum, .agg cs = x.enc ∧ x.ok := by
  cases n with
  | zero => exact h.elim
  | succ n =>
    simp only [Ty, ti, FieldsTy] at h
    obtain ⟨a0, b0, rfl, h0, a1, b1, rfl, h1, rfl⟩ := h
    obtain ⟨x0, rfl, q0⟩ := ty_s h0
    obtain ⟨x1, rfl, q1⟩ := ty_ss h1
    exact ⟨⟨x0, x1⟩, by rw [DEnum.enc_eq]; rfl, ⟨q0, q1⟩⟩
theorem tys_DEnum {n : Nat} {cs : List AV} (h : Ty ti n 22 cs) : ∃ l : List DEnum, cs = [.lst 2 (l.map DEnum.enc) none] ∧ ∀ x ∈ l, x.ok := ty_slice (e := 61) rfl rfl (fun _ _ _ hc => ty_DEnum hc) h
theorem ty_DDecl {n : Nat} {cs : List AV} (h : Ty ti n 40 cs) : ∃ x : DDecl, .agg cs = x.enc ∧ x.ok := by
  cases n with
  | zero => exact h.elim
  | succ n =>
    simp only [Ty, ti, FieldsTy] at h
    obtain ⟨a0, b0, rfl, h0, a1, b1, rfl, h1, a2, b2, rfl, h2, a3, b3, rfl, h3, rfl⟩ := h
    obtain ⟨x0, rfl, q0⟩ := ty_s h0
    obtain ⟨x1, e1, q1⟩ := ty_DTy h1
    obtain ⟨x2, rfl, q2⟩ := ty_s h2
    obtain ⟨x3, rfl, q3⟩ := ty_s h3
    rw [DTy.enc_eq] at e1
    cases e1
    exact ⟨⟨x0, x1, x2, x3⟩, by rw [DDecl.enc_eq]; rfl, ⟨q0, q1, q2, q3⟩⟩
theorem tys_DDecl {n : Nat} {cs : List AV} (h : Ty ti n 31 cs) : ∃ l : List DDecl, cs = [.lst 6 (l.map DDecl.enc) none] ∧ ∀ x ∈ l, x.ok := ty_slice (e := 40) rfl rfl (fun _ _ _ hc => ty_DDecl hc) h
theorem ty_DEq {n : Nat} {cs : List AV} (h : Ty ti n 49 cs) : ∃ x : DEq, .agg cs = x.enc ∧ x.ok := by
  cases n with
  | zero => exact h.elim
  | succ n =>
    simp only [Ty, ti, FieldsTy] at h
    obtain ⟨a0, b0, rfl, h0, a1, b1, rfl, h1, rfl⟩ := h
    obtain ⟨x0, rfl, q0⟩ := ty_ss h0
    obtain ⟨x1, e1, q1⟩ := ty_ex h1
    rw [Go.Abs.enc_eq] at e1
    cases e1
    exact ⟨⟨x0, x1⟩, by rw [DEq.enc_eq]; rfl, ⟨q0, q1⟩⟩
theorem tys_DEq {n : Nat} {cs : List AV} (h : Ty ti n 33 cs) : ∃ l : List DEq, cs = [.lst 7 (l.map DEq.enc) none] ∧ ∀ x ∈ l, x.ok := ty_slice (e := 49) rfl rfl (fun _ _ _ hc => ty_DEq hc) h
theorem ty_DNode {n : Nat} {cs : List AV} (h : Ty ti n 35 cs) : ∃ x : DNode, .agg cs = x.enc ∧ x.ok := by
  cases n with
  | zero => exact h.elim
  | succ n =>
    simp only [Ty, ti, FieldsTy] at h
    obtain ⟨a0, b0, rfl, h0, a1, b1, rfl, h1, a2, b2, rfl, h2, a3, b3, rfl, h3, a4, b4, rfl, h4, rfl⟩ := h
    obtain ⟨x0, rfl, q0⟩ := ty_s h0
    obtain ⟨x1, rfl, q1⟩ := tys_DDecl h1
    obtain ⟨x2, rfl, q2⟩ := tys_DDecl h2
    obtain ⟨x3, rfl, q3⟩ := tys_DDecl h3
    obtain ⟨x4, rfl, q4⟩ := tys_DEq h4
    exact ⟨⟨x0, x1, x2, x3, x4⟩, by rw [DNode.enc_eq]; rfl, ⟨q0, q1, q2, q3, q4⟩⟩
theorem tys_DNode {n : Nat} {cs : List AV} (h : Ty ti n 23 cs) : ∃ l : List DNode, cs = [.lst 5 (l.map DNode.enc) none] ∧ ∀ x ∈ l, x.ok := ty_slice (e := 35) rfl rfl (fun _ _ _ hc => ty_DNode hc) h
theorem ty_DProg {n : Nat} {cs : List AV} (h : Ty ti n 25 cs) : ∃ x : DProg, .agg cs = x.enc ∧ x.ok := by
  cases n with
  | zero => exact h.elim
  | succ n =>
    simp only [Ty, ti, FieldsTy] at h
    obtain ⟨a0, b0, rfl, h0, a1, b1, rfl, h1, rfl⟩ := h
    obtain ⟨x0, rfl, q0⟩ := tys_DEnum h0
    obtain ⟨x1, rfl, q1⟩ := tys_DNode h1
    exact ⟨⟨x0, x1⟩, by rw [DProg.enc_eq]; rfl, ⟨q0, q1⟩⟩
theorem eqv_DTy (x y : DTy) : eqV ti 6 38 (.agg x.enc.cells) (.agg y.enc.cells) = some (decide (x = y)) := by
  obtain ⟨xKind, xEnum, xLen⟩ := x
  obtain ⟨yKind, yEnum, yLen⟩ := y
  rw [DTy.enc_cells, DTy.enc_cells]
  simp [eqV, eqFs, ti, loadAV, takeN, kEq, TI.agg, str_beq, int_beq]
theorem eql_DTy (x y : DTy) : structAV ti 38 .eql x.enc y.enc = .ok (.raw (.bool (decide (x = y)))) := by
  unfold structAV
  rw [DTy.isAgg, DTy.isAgg, eqv_DTy]
theorem neq_DTy (x y : DTy) : structAV ti 38 .neq x.enc y.enc = .ok (.raw (.bool (decide (¬ x = y)))) := by
  unfold structAV
  rw [DTy.isAgg, DTy.isAgg, eqv_DTy]
  simp
attribute [go_sem] eql_DTy neq_DTy
theorem eqv_DDecl (x y : DDecl) : eqV ti 6 40 (.agg x.enc.cells) (.agg y.enc.cells) = some (decide (x = y)) := by
  obtain ⟨xName, ⟨xTyKind, xTyEnum, xTyLen⟩, xOn, xCtor⟩ := x
  obtain ⟨yName, ⟨yTyKind, yTyEnum, yTyLen⟩, yOn, yCtor⟩ := y
  rw [DDecl.enc_cells, DDecl.enc_cells]
  simp [eqV, eqFs, ti, loadAV, takeN, kEq, TI.agg, str_beq, int_beq]
theorem eql_DDecl (x y : DDecl) : structAV ti 40 .eql x.enc y.enc = .ok (.raw (.bool (decide (x = y)))) := by
  unfold structAV
  rw [DDecl.isAgg, DDecl.isAgg, eqv_DDecl]
theorem neq_DDecl (x y : DDecl) : structAV ti 40 .neq x.enc y.enc = .ok (.raw (.bool (decide (¬ x = y)))) := by
  unfold structAV
  rw [DDecl.isAgg, DDecl.isAgg, eqv_DDecl]
  simp
attribute [go_sem] eql_DDecl neq_DDecl

abbrev dataTypes : List TypeId := [2, 3, 4, 5, 9, 22, 23, 25, 31, 33, 35, 38, 40, 44, 45, 47, 49, 51, 55, 61]
theorem dataClosed : closedT ti dataTypes = true := by kernel_rfl
abbrev fewD (l : List DDecl) : Prop := l.length ≤ 20 ∧ ∀ d ∈ l, d.Name.size ≤ 100 ∧ d.On.size ≤ 100 ∧ d.Ctor.size ≤ 100
abbrev okEnum (e : DEnum) : Prop := e.Ctors.length ≤ 12 ∧ e.Name.size ≤ 100 ∧ ∀ c ∈ e.Ctors, c.size ≤ 100
abbrev okEnums (l : List DEnum) : Prop := l.length ≤ 8 ∧ ∀ e ∈ l, okEnum e
abbrev okEq (x : DEq) : Prop := x.Names.length ≤ 20 ∧ okE x.E ∧ ∀ s ∈ x.Names, s.size ≤ 100
abbrev okNode (n : DNode) : Prop := fewD n.Ins ∧ fewD n.Outs ∧ fewD n.Vars ∧ n.Eqs.length ≤ 30 ∧ n.Name.size ≤ 100 ∧ ∀ x ∈ n.Eqs, okEq x
abbrev okProg (p : DProg) : Prop := okEnums p.Enums ∧ p.Nodes.length ≤ 10 ∧ ∀ n ∈ p.Nodes, okNode n

theorem few_d (l : List DDecl) : PCallE Tryz.prog 18 [.lst 6 (l.map DDecl.enc) none] (fun r => ∃ b : Bool, r = .b b ∧ (b = true → fewD l)) := by
  refine pcallE_of_vc tabOK Tryz.func18 (by kernel_rfl) rfl pureL (n := 38) rfl (rs := [.tmp 2]) rfl ?_
  repeat' first
    | exact finB rfl
    | exact finI rfl
    | exact finP rfl
    | exact absurd rfl (by assumption)
    | simp only [go_sem]
    | (intro _)
    | refine brK_dec (fun _ => ?_) (fun _ => ?_)
    | refine brK_any ?_ ?_
    | refine gK_dec (fun _ => ?_) (fun _ => ?_)
    | refine gK_any ?_ ?_
    | refine gqK_dec (fun _ => ?_) (fun _ => ?_)
    | refine ⟨by omega, ?_⟩
    | refine elemHave (by omega) (by assumption) ?_
    | refine elemMap (by omega) (by omega) (fun x hx => ?_)
    | refine drawK mo (by kernel_rfl) ?_
    | (exact finBk (K := fun b => b = true → fewD l) rfl (fun h => Bool.noConfusion h))
    | (exact finBk (K := fun b => b = true → fewD l) rfl (fun hb => ⟨by have := of_decide_eq_true hb; omega, take_full hpi (by omega)⟩))
    | exact loopFrH _ (by omega) ⟨i + 1, by omega, rfl, take_all hpi (by assumption) ⟨by omega, by omega, by omega⟩, rfl⟩ (.next rfl (by omega) .nil) rfl
    | (refine loop_frH [2, 3, 4, 5, 6, 7, 8, 9, 10, 11, 12, 13, 14, 15, 16, 17, 18, 19, 20, 21, 22, 23, 24, 25, 26, 27, 28, 29, 30, 31, 32, 33, 34] (fun mm_ CC_ => ∃ (i : Nat), i ≤ l.length ∧ mm_ = l.length - i ∧ (∀ d ∈ l.take i, d.Name.size ≤ 100 ∧ d.On.size ≤ 100 ∧ d.Ctor.size ≤ 100) ∧ CC_ = [(3, .raw (.int .i64 ((i : Nat) : Int)))]) (l.length) _ ⟨0, by omega, by omega, by simp, rfl⟩ (.cons rfl .nil) ?_; rintro mm_ CC_ ji ⟨i, hi, rfl, hpi, rfl⟩)

theorem small_en (l : List DEnum) : PCallE Tryz.prog 17 [.lst 2 (l.map DEnum.enc) none] (fun r => ∃ b : Bool, r = .b b ∧ (b = true → okEnums l)) := by
  refine pcallE_of_vc tabOK Tryz.func17 (by kernel_rfl) rfl pureL (n := 50) rfl (rs := [.tmp 2]) rfl ?_
  repeat' first
    | exact finB rfl
    | exact finI rfl
    | exact finP rfl
    | exact absurd rfl (by assumption)
    | simp only [go_sem]
    | (intro _)
    | refine brK_dec (fun _ => ?_) (fun _ => ?_)
    | refine brK_any ?_ ?_
    | refine gK_dec (fun _ => ?_) (fun _ => ?_)
    | refine gK_any ?_ ?_
    | refine gqK_dec (fun _ => ?_) (fun _ => ?_)
    | refine ⟨by omega, ?_⟩
    | refine elemHave (by omega) (by assumption) ?_
    | refine elemMap (by omega) (by omega) (fun x hx => ?_)
    | refine drawK mo (by kernel_rfl) ?_
    | (exact finBk (K := fun b => b = true → okEnums l) rfl (fun h => Bool.noConfusion h))
    | (exact finBk (K := fun b => b = true → okEnums l) rfl (fun hb => ⟨by omega, take_full hpi (by omega)⟩))
    | exact loopFrH _ (by omega) ⟨k + 1, by omega, rfl, take_all hpk (by assumption) (by omega), rfl⟩ (.next rfl (by omega) .nil) rfl
    | (refine loop_frH [2, 4, 30, 31, 32, 33, 34, 35, 36, 37, 38, 39, 40, 41, 42, 43, 44, 45, 46, 47, 48, 49] (fun mm_ CC_ => ∃ (k : Nat), k ≤ x.Ctors.length ∧ mm_ = x.Ctors.length - k ∧ (∀ c ∈ x.Ctors.take k, c.size ≤ 100) ∧ CC_ = [(4, .raw (.int .i64 ((k : Nat) : Int)))]) (x.Ctors.length) _ ⟨0, by omega, by omega, by simp, rfl⟩ (.cons rfl .nil) ?_; rintro mm_ CC_ jk ⟨k, hk, rfl, hpk, rfl⟩)
    | exact loopFrH _ (by omega) ⟨i + 1, by omega, rfl, take_all hpi (by assumption) ⟨by omega, by omega, take_full hpk (by omega)⟩, rfl⟩ (.next rfl (by omega) .nil) rfl
    | (refine loop_frH [2, 3, 4, 8, 9, 10, 11, 12, 13, 14, 15, 16, 17, 18, 19, 20, 21, 22, 23, 24, 25, 26, 27, 28, 29, 30, 31, 32, 33, 34, 35, 36, 37, 38, 39, 40, 41, 42, 43, 44, 45, 46, 47, 48, 49] (fun mm_ CC_ => ∃ (i : Nat), i ≤ l.length ∧ mm_ = l.length - i ∧ (∀ e ∈ l.take i, okEnum e) ∧ CC_ = [(3, .raw (.int .i64 ((i : Nat) : Int)))]) (l.length) _ ⟨0, by omega, by omega, by simp, rfl⟩ (.cons rfl .nil) ?_; rintro mm_ CC_ ji ⟨i, hi, rfl, hpi, rfl⟩)

theorem small_p (p : DProg) : PCallE Tryz.prog 6 [p.enc] (fun r => ∃ b : Bool, r = .b b ∧ (b = true → okProg p)) := by
  refine pcallE_of_vc tabOK Tryz.func6 (by kernel_rfl) rfl pureL (n := 94) rfl (rs := [.tmp 2]) rfl ?_
  repeat' first
    | exact finB rfl
    | exact finI rfl
    | exact finP rfl
    | exact absurd rfl (by assumption)
    | simp only [go_sem]
    | (intro _)
    | refine brK_dec (fun _ => ?_) (fun _ => ?_)
    | refine brK_any ?_ ?_
    | refine gK_dec (fun _ => ?_) (fun _ => ?_)
    | refine gK_any ?_ ?_
    | refine gqK_dec (fun _ => ?_) (fun _ => ?_)
    | refine ⟨by omega, ?_⟩
    | refine elemHave (by omega) (by assumption) ?_
    | refine elemMap (by omega) (by omega) (fun x hx => ?_)
    | refine drawK mo (by kernel_rfl) ?_
    | (exact finBk (K := fun b => b = true → okProg p) rfl (fun hb => ⟨hbe, by omega, take_full hpi (by omega)⟩))
    | (exact finBk (K := fun b => b = true → okProg p) rfl (fun h => Bool.noConfusion h))
    | (refine PCallE.call (small_en _) (fun r hr => ?_); obtain ⟨b, rfl, hbe⟩ := hr; cases b <;> (try replace hbe := hbe rfl))
    | (refine PCallE.call (few_d _) (fun r hr => ?_); obtain ⟨b, rfl, hbd⟩ := hr; cases b <;> (try replace hbd := hbd rfl))
    | (refine PCallE.call (small_e _) (fun r hr => ?_); obtain ⟨b, rfl, hbx⟩ := hr; cases b <;> (try replace hbx := hbx rfl))
    | exact loopFrH _ (by omega) ⟨j + 1, by omega, rfl, take_all hpj (by assumption) (by omega), rfl⟩ (.next rfl (by omega) .nil) rfl
    | (refine loop_frH [2, 7, 80, 81, 82, 83, 84, 85, 86, 87, 88, 89, 90, 91, 92, 93] (fun mm_ CC_ => ∃ (j : Nat), j ≤ x.Names.length ∧ mm_ = x.Names.length - j ∧ (∀ s ∈ x.Names.take j, s.size ≤ 100) ∧ CC_ = [(7, .raw (.int .i64 ((j : Nat) : Int)))]) (x.Names.length) _ ⟨0, by omega, by omega, by simp, rfl⟩ (.cons rfl .nil) ?_; rintro mm_ CC_ jj ⟨j, hj, rfl, hpj, rfl⟩)
    | exact loopFrX _ (by omega) _ ⟨k + 1, by omega, rfl, take_all hpk (by assumption) ⟨by omega, by assumption, take_full hpj (by omega)⟩, rfl⟩ (.next rfl (by omega) .nil) rfl (by first | rfl | (simp only [List.append_assoc, List.cons_append, List.nil_append]; rfl))
    | (refine loop_frX [2, 5, 6, 7, 58, 59, 60, 61, 62, 63, 64, 65, 66, 67, 68, 69, 70, 71, 72, 73, 74, 75, 76, 77, 78, 79, 80, 81, 82, 83, 84, 85, 86, 87, 88, 89, 90, 91, 92, 93] (fun mm_ CC_ => ∃ (k : Nat), k ≤ x.Eqs.length ∧ mm_ = x.Eqs.length - k ∧ (∀ q ∈ x.Eqs.take k, okEq q) ∧ CC_ = [(5, .raw (.int .i64 ((k : Nat) : Int)))]) (x.Eqs.length) _ ⟨0, by omega, by omega, by simp, rfl⟩ (.cons rfl .nil) ?_; rintro mm_ CC_ jk rk ⟨k, hk, rfl, hpk, rfl⟩)
    | exact loopFrX _ (by omega) _ ⟨i + 1, by omega, rfl, take_all hpi (by assumption) ⟨by assumption, by assumption, by assumption, by omega, by omega, take_full hpk (by omega)⟩, rfl⟩ (.next rfl (by omega) .nil) rfl (by first | rfl | (simp only [List.append_assoc, List.cons_append, List.nil_append]; rfl))
    | (refine loop_frX [2, 3, 4, 5, 6, 7, 18, 19, 20, 21, 22, 23, 24, 25, 26, 27, 28, 29, 30, 31, 32, 33, 34, 35, 36, 37, 38, 39, 40, 41, 42, 43, 44, 45, 46, 47, 48, 49, 50, 51, 52, 53, 54, 55, 56, 57, 58, 59, 60, 61, 62, 63, 64, 65, 66, 67, 68, 69, 70, 71, 72, 73, 74, 75, 76, 77, 78, 79, 80, 81, 82, 83, 84, 85, 86, 87, 88, 89, 90, 91, 92, 93] (fun mm_ CC_ => ∃ (i : Nat), i ≤ p.Nodes.length ∧ mm_ = p.Nodes.length - i ∧ (∀ n ∈ p.Nodes.take i, okNode n) ∧ CC_ = [(3, .raw (.int .i64 ((i : Nat) : Int)))]) (p.Nodes.length) _ ⟨0, by omega, by omega, by simp, rfl⟩ (.cons rfl .nil) ?_; rintro mm_ CC_ ji ri ⟨i, hi, rfl, hpi, rfl⟩)
end Go.Proofs.YtkjfhhioomnbfaaGreatDoor

namespace Go.Proofs.YtkjfhhioomnbfaaGreatDoor
open Go.Abs
set_option maxRecDepth 20000
set_option linter.unusedSimpArgs false
set_option linter.unusedVariables false
set_option maxHeartbeats 1000000
attribute [local irreducible] vc vcOps vcStep vcGuard prK hrK gK gsK brK callK ElemK SeqK BlockK ScopeK OpsK CallK LoopK LoopGo finPost ACall PCall PCallE BCall vqOps vqStep vqGuard qrK heK pcK gqK gqsK QOpsK qcallK DrawK
open Go.RowKit
def growPostD (n : Nat) (w : World) (e : Ending) (w' : World) : Prop :=
  ∃ (cap : Nat) (vs : Array Value), e = .returned (.slice (some ⟨w.heap.size, 0, none⟩) 0 cap) ∧ n ≤ cap ∧ cap ≤ maxLen ∧ vs.size = cap * 6 ∧ w' = (w.alloc (.cells vs 40)).drew


theorem grow_walkD (n : Nat) (h0 : 0 < n) (hn : n ≤ 4294967296) (w : World) : Calls Tryz.prog 126 #[.slice none 0 0, .int .i64 (n : Int)] w (growPostD n w) := by
  have hb : Tryz.t40.bytes = 72 := by kernel_rfl
  have hns := nextslicecap_zero h0
  go_enter Tryz.func126, Tryz.ntmps126
  go_wp2
  all_goals first
    | (exfalso; simp only [hb, hns] at *; omega)
    | (go_ret
       have hge := grownCap_ge w n 0 40
       have hcm := grownCap_le_maxLen w n 0 40 (by simp only [maxLen]; omega)
       exact ⟨_, _, rfl, hge, hcm, by simp only [Array.size_append, zeroCells_size]; show n * 6 + (grownCap w n 0 40 - n) * 6 = grownCap w n 0 40 * 6; omega, rfl⟩)

theorem grow0_walkD (w : World) : Calls Tryz.prog 126 #[.slice none 0 0, .int .i64 0] w fun e w' => e = .returned (.slice none 0 0) ∧ w' = w := by
  go_enter Tryz.func126, Tryz.ntmps126
  go_wp2
  go_ret
  exact ⟨rfl, rfl⟩

theorem grow_callD {n : Nat} (hn : n ≤ 4294967296) {h : List Blk} {K : AV → List Blk → Prop} (hK : K (.lst 6 [] (some h.length)) (h ++ [.tok 40 6 0])) : ACall Tryz.prog 126 [.raw (.slice none 0 0), .i n] h K := by
  refine acall_of fun S φ w vs hr hargs => ?_
  have hvs : vs = #[.slice none 0 0, .int .i64 n] := by
    obtain ⟨v0, h0, c0⟩ := hargs.at (i := 0) rfl
    obtain ⟨v1, h1, c1⟩ := hargs.at (i := 1) rfl
    cases c0; cases c1
    have hl := hargs.1
    apply Array.ext_getElem?
    intro i
    match i with
    | 0 => exact h0
    | 1 => exact h1
    | i + 2 => simp at hl ⊢; omega
  subst hvs
  refine ⟨run_callFunc Tryz.func126 (by kernel_rfl) rfl _ w, ?_⟩
  rcases Nat.eq_zero_or_pos n with rfl | h0
  · refine Calls.mono (grow0_walkD w) ?_
    rintro e w' ⟨rfl, rfl⟩
    obtain ⟨k1, k2⟩ := hr.push (l := .tok 0 (.slice none 0 0)) (x := .tok 40 6 0) (S' := S) (w' := w') rfl rfl rfl (Nat.le_refl _) (fun _ _ => rfl) (fun _ h => h) (fun _ h => .inl h) hr.bnd
      ⟨_, upd_same _ _ _, .inl ⟨rfl, rfl⟩⟩ (fun b hb => by simp [blockOf] at hb)
    exact ⟨_, _, _, S, _, rfl, hK, .lstnil _ _ ⟨_, _, upd_same _ _ _, Nat.le_refl _, fun _ => rfl⟩, k1, k2⟩
  · refine Calls.mono (grow_walkD n h0 hn w) ?_
    rintro e w' ⟨cap, us, rfl, hc, hm, hus, rfl⟩
    obtain ⟨k1, k2⟩ := hr.push (l := .tok 0 (.slice (some ⟨w.heap.size, 0, none⟩) 0 cap)) (x := .tok 40 6 0) (S' := S) (w' := (w.alloc (.cells us 40)).drew) rfl rfl rfl (by show _ ≤ (w.heap.push _).size; simp) (fun b hb => alloc_heap w _ _ hb) (fun _ h => h) (fun _ h => .inl h)
      (fun a ha => by have := hr.bnd a ha; show _ < (w.heap.push _).size; simp; omega)
      ⟨_, upd_same _ _ _, .inr (.inr ⟨w.heap.size, cap, us, by omega, hm, rfl, heap_alloc_new w _, hus, fun a ha e => by have := hr.bnd a ha; omega⟩)⟩
      (fun b hb => by simp only [blockOf] at hb; split at hb; cases hb; cases hb; exact Nat.le_refl _)
    refine ⟨_, _, _, S, _, rfl, hK, ?_, k1, k2⟩
    exact .lst _ [] _ _ _ _ (fun _ => undef) rfl (Nat.zero_le _) hm (by simp) (fun j c hj => by simp [flat] at hj) (fun j c hj => by simp [flat] at hj) (fun j c hj => by simp [flat] at hj) ⟨_, _, upd_same _ _ _, Nat.le_refl _, fun _ => rfl⟩

def encsD (l : List DDecl) : AV := .lst 6 (l.map (DDecl.enc)) none
theorem encsD_eq (l : List DDecl) : encsD l = .lst 6 (l.map (DDecl.enc)) none := rfl
instance (ls : List (List DDecl)) : PureI (.lst 1 (ls.map encsD) none) := ⟨pure_list (fun x => DDecl.pures x) _⟩
attribute [go_sem] encsD_eq
def lensD (ls : List (List DDecl)) : Nat := ls.flatten.length
theorem concatD (ls : List (List DDecl)) (hl : lensD ls ≤ 4294967296) : PCall Tryz.prog 100 [.lst 1 (ls.map encsD) none] (.lst 6 (ls.flatten.map (DDecl.enc)) none) := by
  refine pcall_of_vc tabOK Tryz.func100 (by kernel_rfl) rfl pureL pureI (n := 36) rfl (rs := [.tmp 2]) rfl ?_
  simp only [go_sem]
  intro hlen
  refine loop_frH [5, 11, 12, 13, 14, 15, 16, 17, 18, 3, 19, 20, 21, 22] (fun n C => ∃ (i : Nat), i ≤ ls.length ∧ n = ls.length - i ∧ C = [(11, .raw (.int .i64 (i : Nat))), (3, .i (lensD (ls.take i)))]) ls.length _ ⟨0, by omega, by omega, rfl⟩ (.cons rfl (.cons rfl .nil)) ?_
  rintro n C j ⟨i, hi, rfl, rfl⟩
  simp only [go_sem]
  refine brK_dec (fun hlt => ?_) (fun hge => ?_)
  · simp only [go_sem]
    refine elemMap (by omega) (by omega) (fun x hx => ?_)
    rw [Int.toNat_natCast] at hx
    have ht : lensD (ls.take (i + 1)) = lensD (ls.take i) + x.length := by
      unfold lensD
      rw [List.take_add_one, hx]
      simp
    have hle : lensD (ls.take (i + 1)) ≤ lensD ls := take_flatten_le _ _
    simp only [go_sem]
    intro hxl
    rw [wrap_in _ (by omega) (by omega)]
    refine brK_dec (fun hneg => ?_) (fun _ => ?_)
    · omega
    · simp only [go_sem]
      exact loopFrH (ls.length - (i + 1)) (by omega) ⟨i + 1, by omega, rfl, rfl⟩ (.next rfl (by omega) (.cons (by rw [ht]; rfl) .nil)) rfl
  · simp only [go_sem]
    rw [List.take_of_length_le (by omega)]
    refine grow_callD hl ?_
    simp only [go_sem]
    intro _
    refine loop_fr [8, 27, 28, 29, 30, 31, 32, 33, 6, 34] (fun n C h => ∃ (i : Nat), i ≤ ls.length ∧ n = ls.length - i ∧ C = [(27, .raw (.int .i64 (i : Nat))), (6, .lst 6 ((ls.take i).flatten.map (DDecl.enc)) (some 0))] ∧ h = [.tok 40 6 (lensD (ls.take i))]) ls.length _ ⟨0, by omega, by omega, rfl, rfl⟩ (.cons rfl (.cons rfl .nil)) ?_
    rintro n C j' h ⟨i, hi, rfl, rfl, rfl⟩
    simp only [go_sem]
    refine brK_dec (fun hlt => ?_) (fun hge => ?_)
    · simp only [go_sem]
      refine elemMap (by omega) (by omega) (fun x hx => ?_)
      rw [Int.toNat_natCast] at hx
      have ht : (ls.take (i + 1)).flatten = (ls.take i).flatten ++ x := by
        rw [List.take_add_one, hx]
        simp
      have hle : lensD (ls.take (i + 1)) ≤ lensD ls := take_flatten_le _ _
      have hle' : (ls.take i).flatten.length + x.length ≤ 4294967296 := by
        have : lensD (ls.take (i + 1)) = (ls.take i).flatten.length + x.length := by unfold lensD; rw [ht]; simp
        omega
      simp only [go_sem]
      refine ⟨⟨rfl, hle'⟩, ?_⟩
      exact loopFr (ls.length - (i + 1)) (by omega) ⟨i + 1, by omega, rfl, rfl, by simp [lensD, ht]⟩ (.next rfl (by omega) (.cons (by rw [ht, List.map_append]; rfl) .nil)) rfl
    · simp only [go_sem]
      rw [List.take_of_length_le (by omega)]
      exact ⟨_, rfl, false, .tok _ _ _⟩

end Go.Proofs.YtkjfhhioomnbfaaGreatDoor

namespace Go.Proofs.YtkjfhhioomnbfaaGreatDoor
open Go.Abs
set_option maxRecDepth 20000
set_option linter.unusedSimpArgs false
set_option linter.unusedVariables false
set_option maxHeartbeats 1000000
attribute [local irreducible] vc vcOps vcStep vcGuard prK hrK gK gsK brK callK ElemK SeqK BlockK ScopeK OpsK CallK LoopK LoopGo finPost ACall PCall PCallE BCall vqOps vqStep vqGuard qrK heK pcK gqK gqsK QOpsK qcallK DrawK
abbrev allV (n : DNode) : List DDecl := [n.Ins, n.Outs, n.Vars].flatten
abbrev zeroD : DDecl := ⟨⟨#[]⟩, ⟨0, 0, 0⟩, ⟨#[]⟩, ⟨#[]⟩⟩
def declF (name : ByteArray) : List DDecl → DDecl × Bool
  | [] => (zeroD, false)
  | d :: l => if d.Name = name then (d, true) else declF name l
def decl (n : DNode) (name : ByteArray) : DDecl × Bool := declF name (allV n)
theorem all63 (n : DNode) (hl : (allV n).length ≤ 4294967296) : PCall Tryz.prog 71 [n.enc] (.lst 6 ((allV n).map DDecl.enc) none) := by
  refine pcall_of_vc tabOK Tryz.func71 (by kernel_rfl) rfl pureL pureI (n := 11) rfl (rs := [.tmp 2]) rfl ?_
  repeat' first
    | exact finB rfl
    | exact finI rfl
    | exact finP rfl
    | exact absurd rfl (by assumption)
    | simp only [go_sem]
    | (intro _)
    | refine brK_dec (fun _ => ?_) (fun _ => ?_)
    | refine brK_any ?_ ?_
    | refine gK_dec (fun _ => ?_) (fun _ => ?_)
    | refine gK_any ?_ ?_
    | refine gqK_dec (fun _ => ?_) (fun _ => ?_)
    | refine ⟨by omega, ?_⟩
    | refine elemHave (by omega) (by assumption) ?_
    | refine elemMap (by omega) (by omega) (fun x hx => ?_)
    | refine drawK mo (by kernel_rfl) ?_
    | (refine PCall.callW (concatD [n.Ins, n.Outs, n.Vars] hl) ⟨.tok _ _ _, trivial⟩ ?_)

/-- The document's variables of a node. -/
theorem all66 (n : DNode) (hl : (allV n).length ≤ 4294967296) : PCall Tryz.prog 12 [n.enc] (.lst 6 ((allV n).map DDecl.enc) none) := by
  refine pcall_of_vc tabOK Tryz.func12 (by kernel_rfl) rfl pureL pureI (n := 13) rfl (rs := [.tmp 2]) rfl ?_
  have hl' : n.Ins.length + n.Outs.length + n.Vars.length ≤ 4294967296 := by simpa [allV, Nat.add_assoc] using hl
  have e : (allV n).map DDecl.enc = n.Ins.map DDecl.enc ++ (n.Outs.map DDecl.enc ++ n.Vars.map DDecl.enc) := by simp [allV]
  repeat' first
    | exact finB rfl
    | exact finI rfl
    | exact finP rfl
    | exact absurd rfl (by assumption)
    | simp only [go_sem]
    | (intro _)
    | refine brK_dec (fun _ => ?_) (fun _ => ?_)
    | refine brK_any ?_ ?_
    | refine gK_dec (fun _ => ?_) (fun _ => ?_)
    | refine gK_any ?_ ?_
    | refine gqK_dec (fun _ => ?_) (fun _ => ?_)
    | refine ⟨by omega, ?_⟩
    | refine elemHave (by omega) (by assumption) ?_
    | refine elemMap (by omega) (by omega) (fun x hx => ?_)
    | refine drawK mo (by kernel_rfl) ?_
    | (refine ⟨⟨by simp, by simp; omega⟩, ?_⟩)
    | (rw [e]; exact ⟨_, rfl, false, .tok _ _ _⟩)

end Go.Proofs.YtkjfhhioomnbfaaGreatDoor

/-
  The steps of an order.
-/
namespace Go.Abs
open Go
abbrev AV.n (n : Nat) : AV := .raw (.int .i64 (n : Int))
def okAt (N H : List (List ByteArray)) (pl : List Bool) (i : Nat) (a : Int) : Prop :=
  (a = -1 ∧ ∀ j, j < i → readyF N H pl j = false) ∨ ∃ k : Nat, k < i ∧ a = k ∧ readyF N H pl k = true ∧ ∀ j, j < k → readyF N H pl j = false
section
variable {N H : List (List ByteArray)} {pl : List Bool} {i : Nat} {a : Int}
theorem okAt.zero : okAt N H pl 0 (-1) := .inl ⟨rfl, fun j h => by omega⟩
end
end Go.Abs

namespace Go.Proofs.YtkjfhhioomnbfaaGreatDoor
open Go.Abs
set_option maxRecDepth 20000
set_option linter.unusedSimpArgs false
set_option linter.unusedVariables false
set_option maxHeartbeats 1000000
attribute [local irreducible] vc vcOps vcStep vcGuard prK hrK gK gsK brK callK ElemK SeqK BlockK ScopeK OpsK CallK LoopK LoopGo finPost ACall PCall PCallE BCall vqOps vqStep vqGuard qrK heK pcK gqK gqsK QOpsK qcallK DrawK

theorem ctors154 (L : List DEnum) {h : List Blk} {K : AV → List Blk → Prop} (hK : K (.fn (.func 95) [] [.ptr h.length 0]) (h ++ [.cells 22 [.lst 2 (L.map DEnum.enc) none]])) :
    ACall Tryz.prog 67 [.lst 2 (L.map DEnum.enc) none] h K := by
  refine acallK_of_vc tabOK Tryz.func67 (by kernel_rfl) rfl (n := 4) rfl (rs := [.tmp 2]) rfl ?_
  simp only [go_sem]
  exact finK rfl hK


theorem ctors155 (L : List DEnum) (yl k0 : Nat) (I : Nat → Nat → List Blk → Prop) (St : List Blk → Prop) {h : List Blk} {K : AV → List Blk → Prop}
    (hk : ∀ i k h, I i k h → h[k0]? = some (.cells 22 [.lst 2 (L.map DEnum.enc) none]))
    (hg : ∀ i k h r, I i k h → I i k (h ++ r)) (hr : ∀ i e h, L[i]? = some e → I i e.Ctors.length h → I (i + 1) 0 h)
    (hy : ∀ i k e c h, L[i]? = some e → e.Ctors[k]? = some c → I i k h → ∀ K : AV → List Blk → Prop, (∀ h', I i (k + 1) h' → K (.b true) h') → (∀ h', St h' → K (.b false) h') → YCall Tryz.prog yl [.agg [.i (i : Int), .i (k : Int)], .s c] h K)
    (h0 : I 0 0 h) (hK : ∀ h', I L.length 0 h' → K (.tup []) h') (hS : ∀ h', St h' → K (.tup []) h') : ACall Tryz.prog 95 [.fn (.yield yl) [] [], .ptr k0 0] h K := by
  refine acallK_of_vc tabOK Tryz.func95 (by kernel_rfl) rfl (n := 31) rfl (rs := []) rfl ?_
  simp only [go_sem, hk 0 0 h h0]
  intro hlen
  refine loop_fr [3, 4, 5, 6, 9, 10, 11, 12, 13, 14, 15, 16, 17, 18, 19, 20, 21, 22, 23, 24, 25, 26, 27, 28, 29, 30] (fun m C hh => ∃ i : Nat, i ≤ L.length ∧ m = L.length - i ∧ I i 0 hh ∧ C = [(9, .raw (.int .i64 (i : Nat)))]) L.length _ ⟨0, by omega, by omega, h0, rfl⟩ (.cons rfl .nil) ?_
  rintro m C jo hh ⟨i, hi, rfl, hI, rfl⟩
  simp only [go_sem]
  refine brK_dec (fun hlt => ?_) (fun hge => ?_)
  · simp only [go_sem]
    refine elemMap (by omega) (by omega) (fun e he => ?_)
    have he' : L[i]? = some e := by simpa using he
    simp only [go_sem, at_app0, set_app0]
    intro hlen2
    refine loop_fr [5, 6, 17, 18, 19, 20, 21, 22, 23, 24, 25, 26, 27, 28, 29] (fun m C hh => ∃ k : Nat, k ≤ e.Ctors.length ∧ m = e.Ctors.length - k ∧ I i k hh ∧ C = [(17, .raw (.int .i64 (k : Nat)))]) e.Ctors.length _ ⟨0, by omega, by omega, hg _ _ _ _ hI, rfl⟩ (.cons rfl .nil) ?_
    rintro m C ji hh2 ⟨k, hk2, rfl, hI2, rfl⟩
    simp only [go_sem]
    refine brK_dec (fun hlt2 => ?_) (fun hge2 => ?_)
    · simp only [go_sem]
      refine elemMap (by omega) (by omega) (fun c hc => ?_)
      simp only [go_sem]
      refine hy i k e c hh2 he' (by simpa using hc) hI2 _ (fun h' hI' => ?_) (fun h' hS' => ?_)
      · simp only [go_sem]
        exact loopFr _ (by omega) ⟨k + 1, by omega, rfl, hI', rfl⟩ (.next rfl (by omega) .nil) rfl
      · simp only [go_sem]
        exact ⟨[], rfl, .tup [], .refl _, hS _ hS'⟩
    · simp only [go_sem]
      have : k = e.Ctors.length := by omega
      subst this
      exact loopFr _ (by omega) ⟨i + 1, by omega, rfl, hr i e _ he' hI2, rfl⟩ (.next rfl (by omega) .nil) rfl
  · simp only [go_sem]
    have : i = L.length := by omega
    subst this
    exact ⟨[], rfl, .tup [], .refl _, hK _ hI⟩
def NoC (L : List DEnum) (nm : ByteArray) (i k : Nat) : Prop := (∀ (i' : Nat) e, i' < i → L[i']? = some e → nm ∉ e.Ctors) ∧ ∀ e, L[i]? = some e → nm ∉ e.Ctors.take k
theorem NoC.zero {L : List DEnum} {nm : ByteArray} : NoC L nm 0 0 := ⟨fun i' e h => by omega, fun e _ => by simp⟩
theorem NoC.next {L : List DEnum} {nm c : ByteArray} {i k : Nat} {e : DEnum} (h : NoC L nm i k) (he : L[i]? = some e) (hc : e.Ctors[k]? = some c) (hne : ¬ c = nm) : NoC L nm i (k + 1) := by
  refine ⟨h.1, fun e' he' => ?_⟩
  rw [he] at he'
  cases he'
  obtain ⟨hk, rfl⟩ := List.getElem?_eq_some_iff.1 hc
  rw [List.take_succ_eq_append_getElem hk]
  intro hm
  rcases List.mem_append.1 hm with q | q
  · exact h.2 e he q
  · simp at q; exact hne q.symm
theorem PCallE.one {P : Program} {f : FuncId} {args : List AV} {v : AV} {Kr : AV → Prop} (hp : PCallE P f args Kr) (hk : ∀ r, Kr r → r = v) (hv : Go.Abs.Pure v) : PCall P f args v := by
  unfold PCallE at hp
  unfold PCall
  refine ⟨hp.1, hv, fun S w vs hb ht hc => ?_⟩
  obtain ⟨h1, h2⟩ := hp.2 S w vs hb ht hc
  refine ⟨h1, Calls.mono h2 ?_⟩
  rintro e w' ⟨u, r, S', e1, hr, _, e3⟩
  rw [hk r hr] at e3
  exact ⟨u, S', e1, e3⟩
noncomputable def eqB {α : Type} (x y : α) : Bool := @decide (x = y) (Classical.propDecidable _)
theorem eqB_eq {α : Type} {x y : α} (h : x = y) : eqB x y = true := by unfold eqB; simp [h]
theorem eqB_ne {α : Type} {x y : α} (h : ¬ x = y) : eqB x y = false := by unfold eqB; simp [h]
theorem eqB_t {α : Type} {x y : α} (h : eqB x y = true) : x = y := by unfold eqB at h; simpa using h
theorem eqB_f {α : Type} {x y : α} (h : eqB x y = false) : ¬ x = y := by unfold eqB at h; simpa using h
attribute [irreducible] eqB
theorem len_ne {α : Type} {l m : List α} (h : ¬ l.length = m.length) : ¬ l = m := fun e => h (congrArg List.length e)
theorem at_ne' {α : Type} {l m : List α} {i : Nat} {x y : α} (hx : l[((i : Int)).toNat]? = some x) (hy : m[((i : Int)).toNat]? = some y) (h : ¬ x = y) : ¬ l = m := by
  rintro rfl
  rw [hx] at hy
  exact h (Option.some.inj hy)
theorem at_ne {α : Type} {l m : List α} {i : Nat} {x y : α} (hx : l[((i : Int)).toNat]? = some x) (hy : m[((i : Int)).toNat]? = some y) (h : x ≠ y) : ¬ l = m := at_ne' hx hy h
theorem take_eq_step' {α : Type} {l m : List α} {i : Nat} {x y : α} (hp : l.take i = m.take i) (hx : l[((i : Int)).toNat]? = some x) (hy : m[((i : Int)).toNat]? = some y) (h : x = y) : l.take (i + 1) = m.take (i + 1) := by
  subst h
  rw [Int.toNat_natCast] at hx hy
  rw [List.take_add_one, List.take_add_one, hp, hx, hy]
theorem take_eq_step {α : Type} {l m : List α} {i : Nat} {x y : α} (hp : l.take i = m.take i) (hx : l[((i : Int)).toNat]? = some x) (hy : m[((i : Int)).toNat]? = some y) (h : ¬ x ≠ y) : l.take (i + 1) = m.take (i + 1) := take_eq_step' hp hx hy (Classical.not_not.1 h)
theorem take_eq_full {α : Type} {l m : List α} {i : Nat} (h : l.length = m.length) (hp : l.take i = m.take i) (hi : l.length ≤ i) : l = m := by
  rw [List.take_of_length_le hi, List.take_of_length_le (by omega)] at hp
  exact hp

theorem namesStr (l m : List ByteArray) : PCall Tryz.prog 56 [.lst 1 (l.map (AV.s)) none, .lst 1 (m.map (AV.s)) none] (.b (eqB l m)) := by
  refine pcall_of_vc tabOK Tryz.func56 (by kernel_rfl) rfl pureL pureI (n := 26) rfl (rs := [.tmp 4]) rfl ?_
  repeat' first
    | exact finB rfl
    | exact finI rfl
    | exact finP rfl
    | exact absurd rfl (by assumption)
    | simp only [go_sem]
    | (intro _)
    | refine brK_dec (fun _ => ?_) (fun _ => ?_)
    | refine brK_any ?_ ?_
    | refine gK_dec (fun _ => ?_) (fun _ => ?_)
    | refine gK_any ?_ ?_
    | refine gqK_dec (fun _ => ?_) (fun _ => ?_)
    | refine ⟨by omega, ?_⟩
    | refine elemHave (by omega) (by assumption) ?_
    | refine elemMap (by omega) (by omega) (fun x hx => ?_)
    | refine drawK mo (by kernel_rfl) ?_
    | (rw [eqB_ne (len_ne (l := l) (m := m) (by omega))]; exact ⟨_, rfl, false, .refl _⟩)
    | (rw [eqB_ne (at_ne (l := l) (m := m) (i := i) (by assumption) (by assumption) (by assumption))]; exact ⟨_, rfl, false, .refl _⟩)
    | (rw [eqB_eq (take_eq_full (l := l) (m := m) (i := i) (by omega) hpi (by omega))]; exact ⟨_, rfl, false, .refl _⟩)
    | exact loopFrH _ (by omega) ⟨i + 1, by omega, rfl, take_eq_step hpi (by assumption) (by assumption) (by assumption), rfl⟩ (.next rfl (by omega) .nil) rfl
    | (refine loop_frH [4, 5, 11, 12, 13, 14, 15, 16, 17, 18, 19, 20, 21, 22, 23, 24, 25] (fun mm_ CC_ => ∃ (i : Nat), i ≤ l.length ∧ mm_ = l.length - i ∧ (l.take i = m.take i) ∧ CC_ = [(5, .raw (.int .i64 ((i : Nat) : Int)))]) (l.length) _ ⟨0, by omega, by omega, rfl, rfl⟩ (.cons rfl .nil) ?_; rintro mm_ CC_ ji ⟨i, hi, rfl, hpi, rfl⟩)

theorem sameDecls (l m : List DDecl) : PCall Tryz.prog 57 [.lst 6 (l.map (DDecl.enc)) none, .lst 6 (m.map (DDecl.enc)) none] (.b (eqB l m)) := by
  refine pcall_of_vc tabOK Tryz.func57 (by kernel_rfl) rfl pureL pureI (n := 26) rfl (rs := [.tmp 4]) rfl ?_
  repeat' first
    | exact finB rfl
    | exact finI rfl
    | exact finP rfl
    | exact absurd rfl (by assumption)
    | simp only [go_sem]
    | (intro _)
    | refine brK_dec (fun _ => ?_) (fun _ => ?_)
    | refine brK_any ?_ ?_
    | refine gK_dec (fun _ => ?_) (fun _ => ?_)
    | refine gK_any ?_ ?_
    | refine gqK_dec (fun _ => ?_) (fun _ => ?_)
    | refine ⟨by omega, ?_⟩
    | refine elemHave (by omega) (by assumption) ?_
    | refine elemMap (by omega) (by omega) (fun x hx => ?_)
    | refine drawK mo (by kernel_rfl) ?_
    | (rw [eqB_ne (len_ne (l := l) (m := m) (by omega))]; exact ⟨_, rfl, false, .refl _⟩)
    | (rw [eqB_ne (at_ne (l := l) (m := m) (i := i) (by assumption) (by assumption) (by assumption))]; exact ⟨_, rfl, false, .refl _⟩)
    | (rw [eqB_eq (take_eq_full (l := l) (m := m) (i := i) (by omega) hpi (by omega))]; exact ⟨_, rfl, false, .refl _⟩)
    | exact loopFrH _ (by omega) ⟨i + 1, by omega, rfl, take_eq_step hpi (by assumption) (by assumption) (by assumption), rfl⟩ (.next rfl (by omega) .nil) rfl
    | (refine loop_frH [4, 5, 11, 12, 13, 14, 15, 16, 17, 18, 19, 20, 21, 22, 23, 24, 25] (fun mm_ CC_ => ∃ (i : Nat), i ≤ l.length ∧ mm_ = l.length - i ∧ (l.take i = m.take i) ∧ CC_ = [(5, .raw (.int .i64 ((i : Nat) : Int)))]) (l.length) _ ⟨0, by omega, by omega, rfl, rfl⟩ (.cons rfl .nil) ?_; rintro mm_ CC_ ji ⟨i, hi, rfl, hpi, rfl⟩)

def rightTyF (n : Nat) (t : DTy) : Bool := decide (1 ≤ t.Kind ∧ t.Kind ≤ 3 ∧ 0 ≤ t.Len ∧ t.Len ≤ 8 ∧ ((t.Kind = 3 ∧ 0 ≤ t.Enum ∧ t.Enum < n) ∨ (¬ t.Kind = 3 ∧ t.Enum = 0)))
def bareF (d : DDecl) : Bool := decide (d.On = ⟨#[]⟩) && decide (d.Ctor = ⟨#[]⟩)
def declaredF (n : Nat) (d : DDecl) : Bool := lowF d.Name && rightTyF n d.Ty && (bareF d || (lowF d.On && armE d.Ctor))
noncomputable def eqF (x : DEq) : Bool := decide (0 < x.Names.length) && rightE x.E && (decide (x.Names.length ≤ 1) || decide (x.E.kind = 13)) && x.Names.all lowF
def bareN (x : DNode) : Bool := (x.Ins ++ x.Outs).all fun d => decide (d.On = ⟨#[]⟩)
noncomputable def nodeF (n : Nat) (x : DNode) : Bool := (allV x).all (declaredF n) && bareN x && x.Eqs.all eqF && (lowF x.Name && decide (0 < x.Outs.length))
def greatE (l : List DEnum) : Bool := decide (l.length > 4) || l.any fun e => decide (e.Ctors.length > 6)
def rightEn (l : List DEnum) : Bool := l.all (fun e => lowF e.Name && decide (0 < e.Ctors.length)) && (l.flatMap DEnum.Ctors).all highF
noncomputable def enumsF (l : List DEnum) : Int := if greatE l = true then 4 else if rightEn l = true then (if (onceB (l.map DEnum.Name) && onceB (l.flatMap DEnum.Ctors)) = true then 0 else 6) else 1
def greatF (x : DNode) : Bool := decide (x.Ins.length > 6) || decide (x.Outs.length > 6) || decide (x.Vars.length > 12) || decide (x.Eqs.length > 18)
noncomputable def onceN (x : DNode) : Bool := onceB ((allV x).map DDecl.Name)
noncomputable def checkF (p : DProg) : Int :=
  if ¬ enumsF p.Enums = 0 then enumsF p.Enums
  else if p.Nodes.length = 0 then 5
  else if (decide (p.Nodes.length > 6) || p.Nodes.any greatF) = true then 4
  else if p.Nodes.all (nodeF p.Enums.length) = true then (if (p.Nodes.all onceN && onceB (p.Nodes.map DNode.Name)) = true then 0 else 6) else 1
theorem all_next {α : Type} {l : List α} {i : Nat} {x : α} (f : α → Bool) (hx : l[i]? = some x) : (l.take (i + 1)).all f = ((l.take i).all f && f x) := by
  obtain ⟨hi, rfl⟩ := List.getElem?_eq_some_iff.1 hx
  rw [List.take_succ_eq_append_getElem hi, List.all_append]
  simp
theorem all_nextZ {α : Type} {l : List α} {i : Nat} {x : α} (f : α → Bool) (hx : l[((i : Nat) : Int).toNat]? = some x) : (l.take (i + 1)).all f = ((l.take i).all f && f x) := all_next f (by simpa using hx)
theorem flatMap_next {α β : Type} {l : List α} {i : Nat} {x : α} (f : α → List β) (hx : l[i]? = some x) : (l.take (i + 1)).flatMap f = (l.take i).flatMap f ++ f x := by
  obtain ⟨hi, rfl⟩ := List.getElem?_eq_some_iff.1 hx
  rw [List.take_succ_eq_append_getElem hi, List.flatMap_append]
  simp
theorem finIq {T : TypeId → TI} {t : Nat} {s : List AV} {h : List Blk} {a b : Int} (hs : s[t]? = some (.i a)) (he : a = b) : Go.Abs.Fin T [.tmp t] (.i b) s h := he ▸ ⟨[.i a], by simp only [resAV, opd, List.getD_eq_getElem?_getD, hs]; rfl, false, .refl _⟩
theorem bare_at {x : DNode} {i : Nat} {d : DDecl} (h : (allV x)[i]? = some d) (hi : i < x.Ins.length + x.Outs.length) : (x.Ins ++ x.Outs)[i]? = some d := by
  have e : allV x = (x.Ins ++ x.Outs) ++ x.Vars := by simp [allV]
  rw [e, List.getElem?_append_left (by simpa using hi)] at h
  exact h
theorem bare_next {x : DNode} {i : Nat} {d : DDecl} (h : ∀ d ∈ (x.Ins ++ x.Outs).take i, decide (d.On = ⟨#[]⟩) = true) (hx : (allV x)[((i : Nat) : Int).toNat]? = some d) (hc : i < x.Ins.length + x.Outs.length → d.On = ⟨#[]⟩) : ∀ d ∈ (x.Ins ++ x.Outs).take (i + 1), decide (d.On = ⟨#[]⟩) = true := by
  rw [Int.toNat_natCast] at hx
  by_cases hi : i < x.Ins.length + x.Outs.length
  · exact take_all h (bare_at hx hi) (decide_eq_true (hc hi))
  · rw [List.take_of_length_le (by simp; omega)] at h ⊢
    exact h
theorem bare_no {x : DNode} {i : Nat} {d : DDecl} (hx : (allV x)[((i : Nat) : Int).toNat]? = some d) (hi : i < x.Ins.length + x.Outs.length) (hd : ¬ d.On = ⟨#[]⟩) : bareN x = false := by
  rw [Int.toNat_natCast] at hx
  unfold bareN
  exact List.all_eq_false.2 ⟨d, List.mem_of_getElem? (bare_at hx hi), by simp [hd]⟩
theorem bare_yes {x : DNode} {i : Nat} (h : ∀ d ∈ (x.Ins ++ x.Outs).take i, decide (d.On = ⟨#[]⟩) = true) (hi : (allV x).length ≤ i) : bareN x = true := by
  unfold bareN
  rw [List.take_of_length_le (by simp [allV] at hi; simp; omega)] at h
  exact List.all_eq_true.2 h
theorem node_no {n : Nat} {x : DNode} {i : Nat} {d : DDecl} (hx : (allV x)[((i : Nat) : Int).toNat]? = some d) (hd : declaredF n d = false) : nodeF n x = false := by
  unfold nodeF
  rw [List.all_eq_false.2 ⟨d, List.mem_of_getElem? hx, by simp [hd]⟩]
  rfl
theorem node_no2 {n : Nat} {x : DNode} (hd : bareN x = false) : nodeF n x = false := by
  unfold nodeF
  simp [hd]
theorem node_no3 {n : Nat} {x : DNode} {i : Nat} {d : DEq} (hx : x.Eqs[((i : Nat) : Int).toNat]? = some d) (hd : eqF d = false) : nodeF n x = false := by
  unfold nodeF
  rw [List.all_eq_false.2 ⟨d, List.mem_of_getElem? hx, by simp [hd]⟩]
  simp
theorem node_yes {n : Nat} {x : DNode} {i j : Nat} (h1 : ∀ d ∈ (allV x).take i, declaredF n d = true) (hi : (allV x).length ≤ i) (h2 : bareN x = true) (h3 : ∀ d ∈ x.Eqs.take j, eqF d = true) (hj : x.Eqs.length ≤ j) : nodeF n x = (lowF x.Name && decide (0 < x.Outs.length)) := by
  unfold nodeF
  rw [List.all_eq_true.2 (take_full h1 hi), h2, List.all_eq_true.2 (take_full h3 hj)]
  simp
theorem en_arg1 {l : List DEnum} {i : Nat} {e : DEnum} (hg : greatE l = false) (hx : l[((i : Nat) : Int).toNat]? = some e) (h : (lowF e.Name && decide (0 < e.Ctors.length)) = false) : enumsF l = 1 := by
  unfold enumsF rightEn
  rw [hg, List.all_eq_false.2 ⟨e, List.mem_of_getElem? hx, by simp [h]⟩]
  simp
theorem en_arg2 {l : List DEnum} {i : Nat} {c : ByteArray} (hg : greatE l = false) (hx : (l.flatMap DEnum.Ctors)[((i : Nat) : Int).toNat]? = some c) (h : highF c = false) : enumsF l = 1 := by
  unfold enumsF rightEn
  rw [hg, List.all_eq_false.2 ⟨c, List.mem_of_getElem? hx, by simp [h]⟩]
  simp
theorem en_many {l : List DEnum} (hg : greatE l = true) : enumsF l = 4 := by unfold enumsF; simp [hg]
theorem en_great1 {l : List DEnum} (h : l.length > 4) : greatE l = true := by unfold greatE; simp [h]
theorem en_great2 {l : List DEnum} {i : Nat} {e : DEnum} (hx : l[((i : Nat) : Int).toNat]? = some e) (h : e.Ctors.length > 6) : greatE l = true := by
  unfold greatE
  rw [List.any_eq_true.2 ⟨e, List.mem_of_getElem? hx, decide_eq_true h⟩, Bool.or_true]
theorem en_small {l : List DEnum} {i : Nat} (h : ¬ l.length > 4) (h2 : ∀ e ∈ l.take i, e.Ctors.length ≤ 6) (hi : l.length ≤ i) : greatE l = false := by
  unfold greatE
  rw [decide_eq_false h, Bool.false_or, List.any_eq_false]
  intro e he
  have := take_full h2 hi e he
  simp; omega
theorem en_end {l : List DEnum} {i j : Nat} (hg : greatE l = false) (h1 : ∀ e ∈ l.take i, (lowF e.Name && decide (0 < e.Ctors.length)) = true) (hi : l.length ≤ i) (h2 : ∀ c ∈ (l.flatMap DEnum.Ctors).take j, highF c = true) (hj : (l.flatMap DEnum.Ctors).length ≤ j) : enumsF l = if (onceB (l.map DEnum.Name) && onceB (l.flatMap DEnum.Ctors)) = true then 0 else 6 := by
  unfold enumsF rightEn
  rw [hg, List.all_eq_true.2 (take_full h1 hi), List.all_eq_true.2 (take_full h2 hj)]
  simp

/-- slices.IndexFunc: the first place at which the function answers true; it is left where it is: memory stays. -/
theorem indexEn {l : List DEnum} {p : DEnum → Bool} {g : Nat} {first capt : List AV} {h : List Blk} {K : AV → List Blk → Prop} (hp : ∀ x ∈ l, ∀ K : AV → List Blk → Prop, K (.b (p x)) h → ACall Tryz.prog g (first ++ DEnum.enc x :: capt) h K)
    (hK : K (.i (idxOf p l)) h) : ACall Tryz.prog 124 [.lst 2 (l.map (DEnum.enc)) none, .fn (.func g) first capt] h K := by
  refine acall_of_vc tabOK Tryz.func124 (by kernel_rfl) rfl (n := 19) rfl (rs := [.tmp 4]) rfl ?_
  simp only [go_sem]
  intro hlen
  refine loop_frH [5, 8, 9, 10, 11, 12, 13, 14, 15, 16, 18] (fun n C => ∃ (i : Nat), i ≤ l.length ∧ n = l.length - i ∧ (∀ x ∈ l.take i, p x = false) ∧ C = [(8, .raw (.int .i64 (i : Nat)))]) l.length _ ⟨0, by omega, by omega, by simp, rfl⟩ (.cons rfl .nil) ?_
  rintro n C j ⟨i, hi, rfl, hp0, rfl⟩
  simp only [go_sem]
  refine brK_dec (fun hlt => ?_) (fun hge => ?_)
  · simp only [go_sem]
    refine elemMap (by omega) (by omega) (fun x hx => ?_)
    simp only [go_sem]
    refine hp x (List.mem_of_getElem? hx) _ ?_
    simp only [go_sem]
    cases hb : p x with
    | true =>
      simp only [go_sem]
      rw [idxOf_at hp0 hx hb] at hK
      exact finH1 rfl (.raw _) hK
    | false =>
      simp only [go_sem]
      exact loopFrH (l.length - (i + 1)) (by omega) ⟨i + 1, by omega, rfl, take_all hp0 (by rw [Int.toNat_natCast] at hx; exact hx) hb, rfl⟩ (.next rfl (by omega) .nil) rfl
  · simp only [go_sem]
    rw [idxOf_none (take_full hp0 (by omega))] at hK
    exact finH1 rfl (.raw _) hK


theorem containsEn {l : List DEnum} {p : DEnum → Bool} {g : Nat} {first capt : List AV} {h : List Blk} {K : AV → List Blk → Prop} (hp : ∀ x ∈ l, ∀ K : AV → List Blk → Prop, K (.b (p x)) h → ACall Tryz.prog g (first ++ DEnum.enc x :: capt) h K)
    (hK : K (.b (l.any p)) h) : ACall Tryz.prog 90 [.lst 2 (l.map (DEnum.enc)) none, .fn (.func g) first capt] h K := by
  refine acall_of_vc tabOK Tryz.func90 (by kernel_rfl) rfl (n := 9) rfl (rs := [.tmp 4]) rfl ?_
  simp only [go_sem]
  refine indexEn hp ?_
  simp only [go_sem]
  rw [idx_any]
  exact finH1 rfl (.raw _) hK


theorem containsDe {l : List DDecl} {p : DDecl → Bool} {g : Nat} {first capt : List AV} {h : List Blk} {K : AV → List Blk → Prop} (hp : ∀ x ∈ l, ∀ K : AV → List Blk → Prop, K (.b (p x)) h → ACall Tryz.prog g (first ++ DDecl.enc x :: capt) h K)
    (hK : K (.b (l.any p)) h) : ACall Tryz.prog 73 [.lst 6 (l.map (DDecl.enc)) none, .fn (.func g) first capt] h K := by
  refine acall_of_vc tabOK Tryz.func73 (by kernel_rfl) rfl (n := 9) rfl (rs := [.tmp 4]) rfl ?_
  simp only [go_sem]
  refine indexDecl hp ?_
  simp only [go_sem]
  rw [idx_any]
  exact finH1 rfl (.raw _) hK


theorem containsNo {l : List DNode} {p : DNode → Bool} {g : Nat} {first capt : List AV} {h : List Blk} {K : AV → List Blk → Prop} (hp : ∀ x ∈ l, ∀ K : AV → List Blk → Prop, K (.b (p x)) h → ACall Tryz.prog g (first ++ DNode.enc x :: capt) h K)
    (hK : K (.b (l.any p)) h) : ACall Tryz.prog 69 [.lst 5 (l.map (DNode.enc)) none, .fn (.func g) first capt] h K := by
  refine acall_of_vc tabOK Tryz.func69 (by kernel_rfl) rfl (n := 9) rfl (rs := [.tmp 4]) rfl ?_
  simp only [go_sem]
  refine indexNode hp ?_
  simp only [go_sem]
  rw [idx_any]
  exact finH1 rfl (.raw _) hK

theorem finHb {T : TypeId → TI} {s : List AV} {h : List Blk} {rs : List ResultVar} {K : AV → List Blk → Prop} {b c : Bool} (junk : List Blk) (hl : resAV T s (h ++ junk) rs = some [.b b]) (hK : K (.b c) h) (he : b = c) : FinH T rs h K s (h ++ junk) := finH0 junk hl (.raw _) (he ▸ hK)

theorem great74 (l : List DEnum) : PCall Tryz.prog 65 [.lst 2 (l.map DEnum.enc) none] (.b (greatE l)) := by
  refine pcall_of_vc tabOK Tryz.func65 (by kernel_rfl) rfl pureL pureI (n := 10) rfl (rs := [.tmp 2]) rfl ?_
  repeat' first
    | (exfalso; omega)
    | simp only [go_sem]
    | (intro _)
    | refine gK_dec (fun _ => ?_) (fun _ => ?_)
    | (refine containsEn (p := fun e => decide (e.Ctors.length > 6)) (fun x hx K hK => ?_) ?_
       · refine acall_of_vc tabOK Tryz.func91 (by kernel_rfl) rfl (n := 7) rfl (rs := [.tmp 2]) rfl ?_
         simp only [go_sem]
         (try intro _)
         refine finHb _ rfl hK ?_
         exact decide_eq_decide.2 (by omega))
    | (refine finBq rfl ?_; unfold greatE; (try rw [decide_eq_true (p := l.length > 4) (by omega)]); (try rw [decide_eq_false (p := l.length > 4) (by omega)]); simp; done)
theorem rightTyP (l : List DEnum) (t : DTy) : PCall Tryz.prog 59 [.lst 2 (l.map DEnum.enc) none, t.enc] (.b (rightTyF l.length t)) := by
  refine pcall_of_vc tabOK Tryz.func59 (by kernel_rfl) rfl pureL pureI (n := 33) rfl (rs := [.tmp 4]) rfl ?_
  repeat' first
    | exact finB rfl
    | exact finI rfl
    | exact finP rfl
    | exact absurd rfl (by assumption)
    | simp only [go_sem]
    | (intro _)
    | refine brK_dec (fun _ => ?_) (fun _ => ?_)
    | refine brK_any ?_ ?_
    | refine gK_dec (fun _ => ?_) (fun _ => ?_)
    | refine gK_any ?_ ?_
    | refine gqK_dec (fun _ => ?_) (fun _ => ?_)
    | refine ⟨by omega, ?_⟩
    | refine elemHave (by omega) (by assumption) ?_
    | refine elemMap (by omega) (by omega) (fun x hx => ?_)
    | refine drawK mo (by kernel_rfl) ?_
    | (exfalso; omega)
    | (refine finBq rfl ?_; unfold rightTyF; exact (decide_eq_true (by omega)).symm)
    | (refine finBq rfl ?_; unfold rightTyF; exact (decide_eq_false (by omega)).symm)
    | (refine finBq rfl ?_; unfold rightTyF; exact decide_eq_decide.2 (by omega))
theorem armP (s : ByteArray) : PCall Tryz.prog 99 [.s s] (.b (armE s)) := by
  refine pcall_of_vc tabOK Tryz.func99 (by kernel_rfl) rfl pureL pureI (n := 13) rfl (rs := [.tmp 2]) rfl ?_
  unfold armE
  repeat' first
    | exact finB rfl
    | exact finI rfl
    | exact finP rfl
    | exact absurd rfl (by assumption)
    | simp only [go_sem]
    | (intro _)
    | refine brK_dec (fun _ => ?_) (fun _ => ?_)
    | refine brK_split (fun hb_ => ?_) (fun hb_ => ?_)
    | refine gK_dec (fun _ => ?_) (fun _ => ?_)
    | refine gK_split (fun hb_ => ?_) (fun hb_ => ?_)
    | refine gqK_dec (fun _ => ?_) (fun _ => ?_)
    | refine ⟨by omega, ?_⟩
    | refine elemHave (by omega) (by assumption) ?_
    | refine elemMap (by omega) (by omega) (fun x hx => ?_)
    | refine drawK mo (by kernel_rfl) ?_
    | (refine PCall.call (high8 s) ?_; generalize highF s = q; cases q)
    | (exact finBq rfl (by simp [*]))


theorem declared131 (L : List DEnum) (d : DDecl) {k : Nat} {h : List Blk} {K : AV → List Blk → Prop} (hk : h[k]? = some (.cells 22 [.lst 2 (L.map DEnum.enc) none])) (hK : K (.b (declaredF L.length d)) h) : ACall Tryz.prog 98 [d.enc, .ptr k 0] h K := by
  have hkl := (List.getElem?_eq_some_iff.1 hk).1
  have hk1 : ∀ r, (h ++ r)[k]? = some (.cells 22 [.lst 2 (L.map DEnum.enc) none]) := fun r => by rw [List.getElem?_append_left hkl]; exact hk
  refine acall_of_vc tabOK Tryz.func98 (by kernel_rfl) rfl (n := 35) rfl (rs := [.tmp 3]) rfl ?_
  repeat' first
    | simp only [go_sem, hk1]
    | refine brK_dec (fun _ => ?_) (fun _ => ?_)
    | refine gK_dec (fun _ => ?_) (fun _ => ?_)
    | refine brK_split (fun hb_ => ?_) (fun hb_ => ?_)
    | refine gK_split (fun hb_ => ?_) (fun hb_ => ?_)
    | ((fail_if_success (clear h1)); refine PCall.call (low6 d.Name) ?_; generalize h1 : lowF d.Name = q; cases q)
    | (refine PCall.call (low6 d.On) ?_; generalize h2 : lowF d.On = q; cases q)
    | (refine PCall.call (rightTyP L d.Ty) ?_; generalize h3 : rightTyF L.length d.Ty = q; cases q)
    | (refine PCall.call (armP d.Ctor) ?_; generalize h4 : armE d.Ctor = q; cases q)
    | (refine finHb _ rfl hK ?_; first | (simp only [declaredF, bareF, h1, h2, h3, h4]; simp [*]; done) | (simp only [declaredF, bareF, h1, h2, h3]; simp [*]; done) | (simp only [declaredF, bareF, h1, h3]; simp [*]; done) | (simp only [declaredF, bareF, h1]; simp [*]; done))

theorem equationP (q : DEq) (hq : okEq q) : PCall Tryz.prog 74 [q.enc] (.b (eqF q)) := by
  refine pcall_of_vc tabOK Tryz.func74 (by kernel_rfl) rfl pureL pureI (n := 29) rfl (rs := [.tmp 2]) rfl ?_
  unfold eqF
  have hall : q.Names.all lowF = !(q.Names.any fun s => !lowF s) := List.all_eq_not_any_not
  rw [hall]
  repeat' first
    | (exfalso; omega)
    | simp only [go_sem]
    | (intro _)
    | refine brK_dec (fun _ => ?_) (fun _ => ?_)
    | refine gK_dec (fun _ => ?_) (fun _ => ?_)
    | refine brK_split (fun hb_ => ?_) (fun hb_ => ?_)
    | refine gK_split (fun hb_ => ?_) (fun hb_ => ?_)
    | (refine PCall.call (right16 q.E hq.2.1) ?_; generalize rightE q.E = b; cases b)
    | (refine containsStrR (p := fun s => !lowF s) (fun s hs K hK => ?_) ?_
       · refine acall_of_vc tabOK Tryz.func103 (by kernel_rfl) rfl (n := 6) rfl (rs := [.tmp 2]) rfl ?_
         simp only [go_sem]
         refine PCall.call (low6 s) ?_
         simp only [go_sem]
         exact finH0 _ rfl (.raw _) hK
       generalize (q.Names.any fun s => !lowF s) = b
       cases b)
    | (refine finBq rfl ?_; (try rw [decide_eq_true (p := 0 < q.Names.length) (by omega)]); (try rw [decide_eq_false (p := 0 < q.Names.length) (by omega)]); (try rw [decide_eq_true (p := q.Names.length ≤ 1) (by omega)]); (try rw [decide_eq_false (p := q.Names.length ≤ 1) (by omega)]); (try rw [decide_eq_true (p := q.E.kind = 13) (by omega)]); (try rw [decide_eq_false (p := q.E.kind = 13) (by omega)]); simp [*]; done)

theorem bareP {l : List DDecl} {h : List Blk} {K : AV → List Blk → Prop} (hK : K (.b (l.any fun d => !(decide (d.On = ⟨#[]⟩)))) h) : ACall Tryz.prog 73 [.lst 6 (l.map DDecl.enc) none, .fn (.func 72) [] []] h K := by
  refine containsDe (p := fun d => !(decide (d.On = ⟨#[]⟩))) (fun x hx K hK => ?_) hK
  refine acall_of_vc tabOK Tryz.func72 (by kernel_rfl) rfl (n := 6) rfl (rs := [.tmp 2]) rfl ?_
  simp only [go_sem]
  refine finHb _ rfl hK ?_
  simp

theorem rightN (L : List DEnum) (n : DNode) (hn : okNode n) : PCall Tryz.prog 44 [.lst 2 (L.map DEnum.enc) none, n.enc] (.b (nodeF L.length n)) := by
  have h1 := hn.1.1
  have h2 := hn.2.1.1
  have h3 := hn.2.2.1.1
  have hal : (allV n).length ≤ 60 := by simp [allV]; omega
  have hba : bareN n = (!(n.Ins.any fun d => !(decide (d.On = ⟨#[]⟩))) && !(n.Outs.any fun d => !(decide (d.On = ⟨#[]⟩)))) := by
    unfold bareN
    rw [List.all_append, List.all_eq_not_any_not, List.all_eq_not_any_not]
  refine pcall_of_vc tabOK Tryz.func44 (by kernel_rfl) rfl pureL pureI (n := 55) rfl (rs := [.tmp 4]) rfl ?_
  simp only [go_sem]
  refine acallK_of_vc tabOK Tryz.func70 (by kernel_rfl) rfl (n := 4) rfl (rs := [.tmp 2]) rfl ?_
  simp only [go_sem]
  refine finK rfl ?_
  repeat' first
    | exact finB rfl
    | exact finI rfl
    | exact finP rfl
    | exact absurd rfl (by assumption)
    | simp only [go_sem]
    | (intro _)
    | refine brK_dec (fun _ => ?_) (fun _ => ?_)
    | refine brK_split (fun hb_ => ?_) (fun hb_ => ?_)
    | refine gK_dec (fun _ => ?_) (fun _ => ?_)
    | refine gK_split (fun hb_ => ?_) (fun hb_ => ?_)
    | refine gqK_dec (fun _ => ?_) (fun _ => ?_)
    | refine ⟨by omega, ?_⟩
    | refine elemHave (by omega) (by assumption) ?_
    | refine elemMap (by omega) (by omega) (fun x hx => ?_)
    | refine drawK mo (by kernel_rfl) ?_
    | (refine PCall.call (all63 n (by omega)) ?_)
    | (refine declared131 L x (k := 1) rfl ?_; generalize hdx : declaredF L.length x = b; cases b)
    | ((fail_if_success (clear hu)); refine bareP ?_; generalize hu : (n.Ins.any fun d => !(decide (d.On = ⟨#[]⟩))) = u at hba ⊢; cases u)
    | (refine bareP ?_; generalize hv : (n.Outs.any fun d => !(decide (d.On = ⟨#[]⟩))) = v at hba ⊢; cases v)
    | (refine PCall.call (equationP x (hn.2.2.2.2.2 _ (List.mem_of_getElem? hx))) ?_; generalize hqx : eqF x = b; cases b)
    | (refine PCall.call (low6 n.Name) ?_; generalize hlx : lowF n.Name = b; cases b)
    | (refine finBq rfl ?_; rw [node_no hx hdx]; done)
    | (refine finBq rfl ?_; rw [node_no2 hba]; done)
    | (refine finBq rfl ?_; rw [node_no3 hx hqx]; done)
    | (refine finBq rfl ?_; rw [node_yes hpi (by omega) hba hpj (by omega), hlx]; first | rfl | (simp; done) | (simp; omega))
    | exact loopFrX _ (by omega) _ ⟨i + 1, by omega, rfl, take_all hpi (by simpa using hx) hdx, rfl⟩ (.next rfl (by omega) .nil) rfl (by first | rfl | (simp only [List.append_assoc, List.cons_append, List.nil_append]; rfl))
    | (refine loop_frX [4, 7, 16, 17, 18, 19, 20, 21, 22, 23, 24] (fun mm_ CC_ => ∃ (i : Nat), i ≤ (allV n).length ∧ mm_ = (allV n).length - i ∧ (∀ d ∈ (allV n).take i, declaredF L.length d = true) ∧ CC_ = [(16, .raw (.int .i64 ((i : Nat) : Int)))]) ((allV n).length) _ ⟨0, by omega, by omega, by simp, rfl⟩ (.cons rfl .nil) ?_; rintro mm_ CC_ ji ri ⟨i, hi, rfl, hpi, rfl⟩)
    | exact loopFrX _ (by omega) _ ⟨j + 1, by omega, rfl, take_all hpj (by simpa using hx) hqx, rfl⟩ (.next rfl (by omega) .nil) rfl (by first | rfl | (simp only [List.append_assoc, List.cons_append, List.nil_append]; rfl))
    | (refine loop_frX [4, 10, 38, 39, 40, 41, 42, 43, 44, 45] (fun mm_ CC_ => ∃ (j : Nat), j ≤ n.Eqs.length ∧ mm_ = n.Eqs.length - j ∧ (∀ q ∈ n.Eqs.take j, eqF q = true) ∧ CC_ = [(38, .raw (.int .i64 ((j : Nat) : Int)))]) (n.Eqs.length) _ ⟨0, by omega, by omega, by simp, rfl⟩ (.cons rfl .nil) ?_; rintro mm_ CC_ jj rj ⟨j, hj, rfl, hpj, rfl⟩)
theorem greatP (n : DNode) : PCall Tryz.prog 42 [n.enc] (.b (greatF n)) := by
  refine pcall_of_vc tabOK Tryz.func42 (by kernel_rfl) rfl pureL pureI (n := 25) rfl (rs := [.tmp 2]) rfl ?_
  repeat' first
    | exact finB rfl
    | exact finI rfl
    | exact finP rfl
    | exact absurd rfl (by assumption)
    | simp only [go_sem]
    | (intro _)
    | refine brK_dec (fun _ => ?_) (fun _ => ?_)
    | refine brK_any ?_ ?_
    | refine gK_dec (fun _ => ?_) (fun _ => ?_)
    | refine gK_any ?_ ?_
    | refine gqK_dec (fun _ => ?_) (fun _ => ?_)
    | refine ⟨by omega, ?_⟩
    | refine elemHave (by omega) (by assumption) ?_
    | refine elemMap (by omega) (by omega) (fun x hx => ?_)
    | refine drawK mo (by kernel_rfl) ?_
    | (exfalso; omega)
    | (refine finBq rfl ?_; unfold greatF; (try rw [decide_eq_true (p := n.Ins.length > 6) (by omega)]); (try rw [decide_eq_false (p := n.Ins.length > 6) (by omega)]); (try rw [decide_eq_true (p := n.Outs.length > 6) (by omega)]); (try rw [decide_eq_false (p := n.Outs.length > 6) (by omega)]); (try rw [decide_eq_true (p := n.Vars.length > 12) (by omega)]); (try rw [decide_eq_false (p := n.Vars.length > 12) (by omega)]); simp; done)
    | (refine finBq rfl ?_; unfold greatF; (try rw [decide_eq_true (p := n.Ins.length > 6) (by omega)]); (try rw [decide_eq_false (p := n.Ins.length > 6) (by omega)]); (try rw [decide_eq_true (p := n.Outs.length > 6) (by omega)]); (try rw [decide_eq_false (p := n.Outs.length > 6) (by omega)]); (try rw [decide_eq_true (p := n.Vars.length > 12) (by omega)]); (try rw [decide_eq_false (p := n.Vars.length > 12) (by omega)]); simp; omega)

theorem onceP (n : DNode) (hl : (allV n).length ≤ 60) : PCall Tryz.prog 46 [n.enc] (.b (onceN n)) := by
  refine pcall_of_vc tabOK Tryz.func46 (by kernel_rfl) rfl pureL pureI (n := 21) rfl (rs := [.tmp 2]) rfl ?_
  unfold onceN
  simp only [go_sem]
  refine PCall.call (all63 n (by omega)) ?_
  generalize allV n = L at hl
  simp only [go_sem]
  intro _
  refine loop_ghost (ghost_tok 3 9 1 rfl) ?_
  refine loop_fr [3, 5, 9, 10, 11, 12, 13, 14, 15, 16, 17, 18] (fun m C hh => ∃ (i : Nat) (r : List Blk), i ≤ L.length ∧ m = L.length - i ∧ C = [(9, .raw (.int .i64 (i : Nat))), (3, .lst 1 (((L.take i).map DDecl.Name).map AV.s) (some 1))] ∧ hh = .cells 35 [.s n.Name, .lst 6 (n.Ins.map DDecl.enc) none, .lst 6 (n.Outs.map DDecl.enc) none, .lst 6 (n.Vars.map DDecl.enc) none, .lst 7 (n.Eqs.map DEq.enc) none] :: .tok 9 1 (L.take i).length :: r) L.length _ ⟨0, [], by omega, by omega, rfl, rfl⟩ (.cons rfl (.cons rfl .nil)) ?_
  rintro m C j hh ⟨i, r, hi, rfl, rfl, rfl⟩
  simp only [go_sem]
  refine brK_dec (fun hlt => ?_) (fun hge => ?_)
  · simp only [go_sem]
    refine elemMap (by omega) (by omega) (fun d hd => ?_)
    have hli : (L.take i).length = i := by rw [List.length_take]; omega
    have hli2 : (L.take (i + 1)).length = i + 1 := by rw [List.length_take]; omega
    have hst := take_mapS (f := DDecl.Name) hd
    try simp only [go_sem]
    refine ⟨by simp; omega, ?_⟩
    try simp only [go_sem]
    exact loopFr _ (by omega) ⟨i + 1, _, by omega, rfl, rfl, by rw [hli2, hli]⟩ (.next rfl (by omega) (.cons (by rw [hst]; simp [slot]) .nil)) rfl
  · simp only [go_sem]
    rw [List.take_of_length_le (by omega)]
    refine PCall.callW (once12 (L.map DDecl.Name)) ⟨.tok _ _ _, trivial⟩ ?_
    simp only [go_sem]
    exact finBq rfl rfl
end Go.Proofs.YtkjfhhioomnbfaaGreatDoor
