/-
  ShowD, DigX, ScrP, ScrN, LayP, LibP, ScrD, SeqP, ScrV, ScrS, ScrK, ScrB, ScrM, AbsQ, Data, Same1, ScrE, ScrO, ScrV2, ScrW, ScrC, ScrO2, ScrX, ScrX2, ScrU, ScrL, ScrL2, ScrR, ScrR2, ScrG, ScrBk, ScrBL, ScrL3, ScrZ, ScrZ2, LibT2: put together.
-/
import Derived.Test.YtfhhboohlblnfaaGreatDoorBunA
import Derived.Test.YtfhhboohlblnfaaGreatDoorBunB
import Derived.Lib.ParseIntBTie
import Derived.Shelf.Strconv.ParseIntPublic10
import Derived.ChangeShapes
import Derived.ChangeSame
import Derived.Carry
import Derived.OpenShut
import Derived.LaidSub
import Derived.Lib.LaidTab
import Derived.MakeChecks
import Derived.Stop.LaidErr
import Derived.Look8
namespace Go.Proofs.YtfhhboohlblnfaaGreatDoor
open Go.Abs
set_option maxRecDepth 20000
set_option linter.unusedSimpArgs false
set_option linter.unusedVariables false
set_option maxHeartbeats 1000000
attribute [local irreducible] vc vcOps vcStep vcGuard prK hrK gK gsK brK callK ElemK SeqK BlockK ScopeK OpsK CallK LoopK LoopGo finPost ACall PCall PCallE BCall vqOps vqStep vqGuard qrK heK pcK gqK gqsK QOpsK qcallK DrawK
theorem bytes_ext {a b : ByteArray} (h : a.data.toList = b.data.toList) : a = b := by
  cases a; cases b
  congr
  exact Array.toList_inj.1 h
theorem app_list (a b : ByteArray) : (a ++ b).data.toList = a.data.toList ++ b.data.toList := by
  rw [ByteArray.data_append]
  simp
theorem app_assoc (a b c : ByteArray) : a ++ b ++ c = a ++ (b ++ c) := bytes_ext (by rw [app_list, app_list, app_list, app_list, List.append_assoc])
theorem nil_app (a : ByteArray) : (⟨#[]⟩ : ByteArray) ++ a = a := bytes_ext (by rw [app_list]; simp)
theorem size_list (a : ByteArray) : a.size = a.data.toList.length := by unfold ByteArray.size; simp
def sumS (l : List ByteArray) : Nat := (l.map ByteArray.size).sum
theorem sumS_cons (a : ByteArray) (l : List ByteArray) : sumS (a :: l) = a.size + sumS l := by simp [sumS]
theorem joinB_cons (x y : ByteArray) (l : List ByteArray) (sep : ByteArray) : joinB (x :: y :: l) sep = x ++ (sep ++ joinB (y :: l) sep) := by
  apply bytes_ext
  rw [app_list, app_list]
  unfold joinB Lib.join
  simp [List.intercalate]
theorem joinB_snoc (l : List ByteArray) (x sep : ByteArray) : joinB (l ++ [x]) sep = (if l = [] then ⟨#[]⟩ else joinB l sep ++ sep) ++ x := by
  induction l with
  | nil => rw [if_pos rfl, nil_app]; exact joinB_one x sep
  | cons a l ih =>
    rw [if_neg (by simp)]
    cases l with
    | nil => rw [List.cons_append, List.nil_append, joinB_cons, joinB_one, joinB_one, app_assoc]
    | cons b l =>
      rw [if_neg (by simp)] at ih
      rw [List.cons_append, List.cons_append, joinB_cons, joinB_cons, ← List.cons_append, ih]
      simp only [app_assoc]
theorem joinB_size (l : List ByteArray) (sep : ByteArray) : (joinB l sep).size ≤ sumS l + l.length * sep.size := by
  induction l with
  | nil => rw [joinB_nil]; exact Nat.zero_le _
  | cons x l ih =>
    cases l with
    | nil => rw [joinB_one, sumS_cons]; omega
    | cons y l =>
      rw [joinB_cons, ByteArray.size_append, ByteArray.size_append, sumS_cons, List.length_cons, Nat.add_mul]
      omega
theorem dig_size (n : Int) (h : I64 n) : (digB n).size ≤ 21 := by
  rw [size_list]
  unfold digB
  simp only [List.toList_toArray]
  exact Lib.itoa_length_le n h.1 h.2
theorem finSq {T : TypeId → TI} {rs : List ResultVar} {s : List AV} {h : List Blk} {a b : ByteArray} (hr : resAV T s h rs = some [.s a]) (he : a = b) : Go.Abs.Fin T rs (.s b) s h := he ▸ ⟨_, hr, false, .refl _⟩
theorem u64_in (x : Int) (h1 : 0 ≤ x) (h2 : x < 18446744073709551616) : IntKind.u64.wrap x = x := by
  unfold IntKind.wrap
  simp [IntKind.bits, IntKind.signed]
  omega
theorem u8_in (x : Int) (h1 : 0 ≤ x) (h2 : x < 256) : IntKind.u8.wrap x = x := by
  unfold IntKind.wrap
  simp [IntKind.bits, IntKind.signed]
  omega
theorem u64_neg (n : Int) (h : I64 n) (hn : n < 0) : IntKind.u64.wrap (0 - IntKind.u64.wrap n) = (n.natAbs : Int) := by
  obtain ⟨h1, h2⟩ := h
  unfold IntKind.wrap
  simp [IntKind.bits, IntKind.signed]
  omega
theorem u64_pos (n : Int) (h : I64 n) (hn : ¬ n < 0) : IntKind.u64.wrap n = (n.natAbs : Int) := by
  obtain ⟨h1, h2⟩ := h
  rw [u64_in n (by omega) (by omega)]
  omega
def preD (v : Nat) (t : List UInt8) : List UInt8 := if v = 0 ∧ t ≠ [] then [] else Lib.decDigits v
theorem preD_step {v : Nat} {t : List UInt8} (h : ¬ (v = 0 ∧ t ≠ [])) : preD (v / 10) (UInt8.ofNat (48 + v % 10) :: t) ++ UInt8.ofNat (48 + v % 10) :: t = preD v t ++ t := by
  unfold preD
  rw [if_neg h]
  by_cases hv : v < 10
  · rw [if_pos ⟨by omega, by simp⟩, Lib.decDigits_one hv, Nat.mod_eq_of_lt hv]
    rfl
  · rw [if_neg (by omega)]
    conv => rhs; rw [Lib.decDigits, dif_neg hv]
    simp
theorem preD_end {v : Nat} {t : List UInt8} (h : v = 0 ∧ t ≠ []) : preD v t ++ t = t := by
  unfold preD
  rw [if_pos h]
  rfl
theorem itoa_abs (n : Int) : Lib.itoa n = (if n < 0 then 45 :: Lib.decDigits n.natAbs else Lib.decDigits n.natAbs) := by
  unfold Lib.itoa
  split
  · rfl
  · rw [show n.toNat = n.natAbs by omega]
theorem digits_len (u : Nat) (h : u ≤ 9223372036854775808) : (Lib.decDigits u).length ≤ 21 := by
  have := Lib.itoa_length_le (-(u : Int)) (by omega) (by omega)
  rw [itoa_abs] at this
  split at this
  · rw [List.length_cons, show (-(u : Int)).natAbs = u by omega] at this
    omega
  · rw [show (-(u : Int)).natAbs = u by omega] at this
    omega
theorem size0_list {t : ByteArray} : t.data.toList = [] ↔ t = ⟨#[]⟩ := by
  constructor
  · intro h
    exact bytes_ext (by rw [h])
  · rintro rfl
    rfl
theorem digit_byte (v : Nat) : UInt8.ofNat (IntKind.u8.wrap (IntKind.u64.wrap (48 + ((v : Int)).tmod 10))).toNat = UInt8.ofNat (48 + v % 10) := by
  have h : ((v : Int)).tmod 10 = ((v % 10 : Nat) : Int) := by
    rw [Int.tmod_eq_emod_of_nonneg (by omega)]
    omega
  rw [h, u64_in _ (by omega) (by omega), u8_in _ (by omega) (by omega)]
  congr 1
theorem digit_rest (v : Nat) (h : v < 18446744073709551616) : IntKind.u64.wrap (((v : Int)).tdiv 10) = ((v / 10 : Nat) : Int) := by
  have h' : ((v : Int)).tdiv 10 = ((v / 10 : Nat) : Int) := by
    rw [Int.tdiv_eq_ediv_of_nonneg (by omega)]
    omega
  rw [h', u64_in _ (by omega) (by omega)]
theorem arr_one (x : UInt8) : (#[x] : Array UInt8).size = 1 := rfl
theorem one_list (x : UInt8) (t : ByteArray) : ((⟨#[x]⟩ : ByteArray) ++ t).data.toList = x :: t.data.toList := by rw [app_list]; rfl

theorem digits59 (n : Int) (h : I64 n) : PCall Tryz.prog 46 [.i n] (.s (digB n)) := by
  obtain ⟨h1, h2⟩ := h
  obtain ⟨U, hU⟩ : ∃ U : Nat, U = n.natAbs := ⟨_, rfl⟩
  have hlen := digits_len U (by omega)
  have goal2 : ∀ t : ByteArray, t.data.toList = Lib.decDigits U → digB n = if n < 0 then ⟨#[45]⟩ ++ t else t := by
    intro t ht
    apply bytes_ext
    unfold digB
    rw [itoa_abs, ← hU, ← ht]
    split
    · rw [app_list]; simp
    · simp
  refine pcall_of_vc tabOK Tryz.func46 (by kernel_rfl) rfl pureL pureI (n := 32) rfl (rs := [.tmp 2]) rfl ?_
  simp only [go_sem]
  refine brK_dec (fun hneg => ?_) (fun hneg => ?_)
  · simp only [go_sem]
    rw [u64_neg n ⟨h1, h2⟩ hneg, ← hU]
    refine loop_fr [3, 4, 11, 12, 13, 14, 15, 16, 17, 18, 19, 20, 21, 22, 23, 24, 25, 26] (fun m C hh => ∃ (v : Nat) (t : ByteArray) (r : List Blk), v ≤ U ∧ preD v t.data.toList ++ t.data.toList = Lib.decDigits U ∧ m = v + (if t.data.toList = [] then 1 else 0) ∧ C = [(3, .raw (.int .u64 (v : Nat))), (4, .s t)] ∧ hh = r) (U + 1) _ ⟨U, ⟨#[]⟩, _, by omega, by simp [preD], by simp, rfl, rfl⟩ (.cons rfl (.cons rfl .nil)) ?_
    rintro m C ja hh ⟨v, t, r, hv, hp, rfl, rfl, rfl⟩
    have hts : t.size ≤ 21 := by
      have := congrArg List.length hp
      rw [List.length_append] at this
      rw [size_list]
      omega
    by_cases hgo : v = 0 ∧ t.data.toList ≠ []
    · rw [preD_end hgo] at hp
      have hf := goal2 t hp
      have hne : ¬ t = ⟨#[]⟩ := fun q => hgo.2 (by rw [q])
      obtain ⟨rfl, _⟩ := hgo
      repeat' first
        | (exfalso; omega)
        | (exfalso; exact hne (by assumption))
        | simp only [go_sem]
        | refine gK_dec (fun _ => ?_) (fun _ => ?_)
        | refine brK_dec (fun _ => ?_) (fun _ => ?_)
        | refine ⟨by first | omega | (simp; omega), ?_⟩
        | (refine finSq rfl ?_; rw [hf]; first | rw [if_pos (by omega)] | rw [if_neg (by omega)])
    · have hstep := preD_step hgo
      have hwr := digit_rest v (by omega)
      have hby := digit_byte v
      rw [← one_list] at hstep
      have hm : v / 10 + (if ((⟨#[UInt8.ofNat (48 + v % 10)]⟩ : ByteArray) ++ t).data.toList = [] then 1 else 0) < v + (if t.data.toList = [] then 1 else 0) := by
        rw [if_neg (by rw [one_list]; simp)]
        by_cases hv0 : v = 0
        · rw [if_pos (Classical.byContradiction fun q => hgo ⟨hv0, q⟩)]; omega
        · split <;> omega
      repeat' first
        | (exfalso; omega)
        | (exfalso; exact hgo ⟨by omega, fun q => absurd (size0_list.1 q) (by assumption)⟩)
        | simp only [go_sem, hwr, hby]
        | refine gK_dec (fun _ => ?_) (fun _ => ?_)
        | refine brK_dec (fun _ => ?_) (fun _ => ?_)
        | exact loopFr _ hm ⟨_, _, _, by omega, hstep.trans hp, rfl, rfl, rfl⟩ (.cons rfl (.cons rfl .nil)) rfl
        | refine ⟨by first | omega | decide | (rw [arr_one]; omega), ?_⟩
  · simp only [go_sem]
    rw [u64_pos n ⟨h1, h2⟩ hneg, ← hU]
    refine loop_fr [3, 4, 11, 12, 13, 14, 15, 16, 17, 18, 19, 20, 21, 22, 23, 24, 25, 26] (fun m C hh => ∃ (v : Nat) (t : ByteArray) (r : List Blk), v ≤ U ∧ preD v t.data.toList ++ t.data.toList = Lib.decDigits U ∧ m = v + (if t.data.toList = [] then 1 else 0) ∧ C = [(3, .raw (.int .u64 (v : Nat))), (4, .s t)] ∧ hh = r) (U + 1) _ ⟨U, ⟨#[]⟩, _, by omega, by simp [preD], by simp, rfl, rfl⟩ (.cons rfl (.cons rfl .nil)) ?_
    rintro m C ja hh ⟨v, t, r, hv, hp, rfl, rfl, rfl⟩
    have hts : t.size ≤ 21 := by
      have := congrArg List.length hp
      rw [List.length_append] at this
      rw [size_list]
      omega
    by_cases hgo : v = 0 ∧ t.data.toList ≠ []
    · rw [preD_end hgo] at hp
      have hf := goal2 t hp
      have hne : ¬ t = ⟨#[]⟩ := fun q => hgo.2 (by rw [q])
      obtain ⟨rfl, _⟩ := hgo
      repeat' first
        | (exfalso; omega)
        | (exfalso; exact hne (by assumption))
        | simp only [go_sem]
        | refine gK_dec (fun _ => ?_) (fun _ => ?_)
        | refine brK_dec (fun _ => ?_) (fun _ => ?_)
        | refine ⟨by first | omega | (simp; omega), ?_⟩
        | (refine finSq rfl ?_; rw [hf]; first | rw [if_pos (by omega)] | rw [if_neg (by omega)])
    · have hstep := preD_step hgo
      have hwr := digit_rest v (by omega)
      have hby := digit_byte v
      rw [← one_list] at hstep
      have hm : v / 10 + (if ((⟨#[UInt8.ofNat (48 + v % 10)]⟩ : ByteArray) ++ t).data.toList = [] then 1 else 0) < v + (if t.data.toList = [] then 1 else 0) := by
        rw [if_neg (by rw [one_list]; simp)]
        by_cases hv0 : v = 0
        · rw [if_pos (Classical.byContradiction fun q => hgo ⟨hv0, q⟩)]; omega
        · split <;> omega
      repeat' first
        | (exfalso; omega)
        | (exfalso; exact hgo ⟨by omega, fun q => absurd (size0_list.1 q) (by assumption)⟩)
        | simp only [go_sem, hwr, hby]
        | refine gK_dec (fun _ => ?_) (fun _ => ?_)
        | refine brK_dec (fun _ => ?_) (fun _ => ?_)
        | exact loopFr _ hm ⟨_, _, _, by omega, hstep.trans hp, rfl, rfl, rfl⟩ (.cons rfl (.cons rfl .nil)) rfl
        | refine ⟨by first | omega | decide | (rw [arr_one]; omega), ?_⟩
def fewV (v : List (List Int)) : Prop := v.length ≤ 20 ∧ ∀ x ∈ v, x.length ≤ 30
def fewC (v : List DCell) : Prop := v.length ≤ 150 ∧ ∀ x ∈ v, x.Path.size ≤ 200 ∧ x.Vals.length ≤ 20
def rowJ (v : List Int) : ByteArray := joinB (v.map digB) ⟨#[44]⟩
def rowT (v : List Int) : ByteArray := if v = [] then ⟨#[45]⟩ else rowJ v
theorem sum_dig {v : List Int} (h : ∀ n ∈ v, I64 n) : sumS (v.map digB) ≤ 21 * v.length := by
  induction v with
  | nil => exact Nat.zero_le _
  | cons n v ih =>
    rw [List.map_cons, sumS_cons, List.length_cons]
    have h1 := dig_size n (h n List.mem_cons_self)
    have h2 := ih fun m hm => h m (List.mem_cons_of_mem _ hm)
    omega
theorem rowJ_size {v : List Int} (h : ∀ n ∈ v, I64 n) : (rowJ v).size ≤ 22 * v.length := by
  unfold rowJ
  have h1 := joinB_size (v.map digB) ⟨#[44]⟩
  have h2 := sum_dig h
  have e1 : (⟨#[44]⟩ : ByteArray).size = 1 := rfl
  rw [e1, List.length_map] at h1
  omega
theorem rowT_size {v : List Int} (h : ∀ n ∈ v, I64 n) : (rowT v).size ≤ 22 * v.length + 1 := by
  unfold rowT
  split
  · show 1 ≤ _; omega
  · have := rowJ_size h; omega
theorem take_mapD {v : List Int} {i : Nat} {n : Int} (h : v[i]? = some n) : (v.take (i + 1)).map digB = (v.take i).map digB ++ [digB n] := by
  rw [List.take_add_one, h, List.map_append]
  rfl

theorem row17 (v : List Int) (hb : v.length ≤ 100000) (hv : ∀ n ∈ v, I64 n) : PCall Tryz.prog 28 [.lst 1 (v.map AV.i) none] (.s (rowT v)) := by
  refine pcall_of_vc tabOK Tryz.func28 (by kernel_rfl) rfl pureL pureI (n := 23) rfl (rs := [.tmp 2]) rfl ?_
  have hz := rowJ_size hv
  simp only [go_sem]
  intro _
  refine brK_dec (fun h0 => ?_) (fun h0 => ?_)
  · have : v = [] := List.length_eq_zero_iff.1 (by omega)
    subst this
    simp only [go_sem]
    exact finSq rfl rfl
  · have hne : ¬ v = [] := fun q => h0 (by rw [q]; rfl)
    simp only [go_sem]
    intro _
    refine loop_ghost (ghost_tok 3 9 1 rfl) ?_
    refine loop_fr [3, 5, 11, 12, 13, 14, 15, 16, 17, 18, 19, 20] (fun m C hh => ∃ (i : Nat) (r : List Blk), i ≤ v.length ∧ m = v.length - i ∧ C = [(11, .raw (.int .i64 (i : Nat))), (3, .lst 1 (((v.take i).map digB).map AV.s) (some 0))] ∧ hh = .tok 9 1 i :: r) v.length _ ⟨0, [], by omega, by omega, rfl, rfl⟩ (.cons rfl (.cons rfl .nil)) ?_
    rintro m C ja hh ⟨i, r, hi, rfl, rfl, rfl⟩
    simp only [go_sem]
    refine brK_dec (fun hlt => ?_) (fun hge => ?_)
    · obtain ⟨n, hx⟩ : ∃ n, v[i]? = some n := ⟨_, List.getElem?_eq_getElem (by omega)⟩
      have hti : (v.take i).length = i := by rw [List.length_take]; omega
      simp only [go_sem]
      refine elemHave (x := n) (by omega) (by simpa using hx) ?_
      simp only [go_sem]
      refine PCall.call (fmt29 n (hv n (List.mem_of_getElem? hx))) ?_
      simp only [go_sem]
      refine ⟨by omega, ?_⟩
      exact loopFr _ (by omega) ⟨i + 1, _, by omega, rfl, rfl, by rw [hti]⟩ (.next rfl (by omega) (.cons (by rw [take_mapD hx]; simp) .nil)) rfl
    · rw [List.take_of_length_le (by omega)]
      simp only [go_sem]
      refine PCall.callW (join18 (v.map digB) ⟨#[44]⟩ (by rw [List.length_map]; omega) (by show (rowJ v).size ≤ _; omega)) ⟨.tok _ _ _, .refl _, trivial⟩ ?_
      simp only [go_sem]
      refine finSq rfl ?_
      unfold rowT
      rw [if_neg hne]
      rfl
theorem rowJ_next {v : List Int} {i : Nat} {n : Int} (h : v[i]? = some n) : rowJ (v.take (i + 1)) = (if i = 0 then ⟨#[]⟩ else rowJ (v.take i) ++ ⟨#[44]⟩) ++ digB n := by
  have hi : i < v.length := by
    rcases Nat.lt_or_ge i v.length with q | q
    · exact q
    · rw [List.getElem?_eq_none q] at h; cases h
  unfold rowJ
  rw [take_mapD h, joinB_snoc]
  by_cases h0 : i = 0
  · subst h0; simp
  · rw [if_neg h0, if_neg]
    intro q
    have : ((v.take i).map digB).length = i := by rw [List.length_map, List.length_take]; omega
    rw [q] at this
    simp at this
    omega
theorem dig_ne (n : Int) : digB n ≠ ⟨#[]⟩ := by
  intro q
  have h1 : (digB n).data.toList = [] := by rw [q]
  unfold digB at h1
  simp at h1
  have h2 : Lib.decDigits n.natAbs ≠ [] := by
    rw [Lib.decDigits]
    split <;> simp
  rw [itoa_abs] at h1
  split at h1
  · cases h1
  · exact h2 h1
theorem rowJ_ne {v : List Int} (h : ¬ v = []) : ¬ rowJ v = ⟨#[]⟩ := by
  intro q
  obtain ⟨l, n, rfl⟩ : ∃ l n, v = l ++ [n] := ⟨_, _, (List.dropLast_concat_getLast h).symm⟩
  unfold rowJ at q
  rw [List.map_append, List.map_singleton, joinB_snoc] at q
  have h2 := congrArg (fun b : ByteArray => b.data.toList) q
  simp only [app_list] at h2
  exact dig_ne n (size0_list.1 (List.append_eq_nil_iff.1 h2).2)

theorem row20 (v : List Int) (hb : v.length ≤ 100000) (hv : ∀ n ∈ v, I64 n) : PCall Tryz.prog 26 [.lst 1 (v.map AV.i) none] (.s (rowT v)) := by
  refine pcall_of_vc tabOK Tryz.func26 (by kernel_rfl) rfl pureL pureI (n := 25) rfl (rs := [.tmp 2]) rfl ?_
  simp only [go_sem]
  refine loop_frH [3, 4, 5, 6, 7, 8, 9, 10, 11, 12, 13, 14, 15, 16, 17, 18, 19, 20, 21] (fun m C => ∃ i : Nat, i ≤ v.length ∧ m = v.length - i ∧ C = [(4, .raw (.int .i64 (i : Nat))), (3, .s (rowJ (v.take i)))]) v.length _ ⟨0, by omega, by omega, rfl⟩ (.cons rfl (.cons rfl .nil)) ?_
  rintro m C j ⟨i, hi, rfl, rfl⟩
  simp only [go_sem]
  intro _
  refine brK_dec (fun hlt => ?_) (fun hge => ?_)
  · obtain ⟨n, hx⟩ : ∃ n, v[i]? = some n := ⟨_, List.getElem?_eq_getElem (by omega)⟩
    have hm := List.mem_of_getElem? hx
    have hz := dig_size n (hv n hm)
    have hl1 := rowJ_size (v := v.take i) (fun m hm => hv m (List.mem_of_mem_take hm))
    rw [List.length_take] at hl1
    have hn := rowJ_next hx
    simp only [go_sem]
    refine brK_dec (fun h0 => ?_) (fun h0 => ?_)
    · rw [if_neg (by omega)] at hn
      simp only [go_sem]
      refine And.intro (by first | omega | (simp; omega)) ?_
      refine elemHave (x := n) (by omega) (by simpa using hx) ?_
      simp only [go_sem]
      refine PCall.call (digits59 n (hv n hm)) ?_
      simp only [go_sem]
      refine And.intro (by first | omega | (simp; omega)) ?_
      rw [← hn]
      exact loopFrH _ (by omega) ⟨i + 1, by omega, rfl, rfl⟩ (.next rfl (by omega) (.cons rfl .nil)) rfl
    · have hi0 : i = 0 := by omega
      subst hi0
      rw [if_pos rfl] at hn
      have hl0 : rowJ (v.take 0) = ⟨#[]⟩ := rfl
      rw [hl0]
      simp only [go_sem]
      refine elemHave (x := n) (by omega) (by simpa using hx) ?_
      simp only [go_sem]
      refine PCall.call (digits59 n (hv n hm)) ?_
      simp only [go_sem]
      refine And.intro (by first | omega | (simp; omega)) ?_
      rw [← hn]
      exact loopFrH _ (by omega) ⟨1, by omega, rfl, rfl⟩ (.next rfl (by omega) (.cons rfl .nil)) rfl
  · have hie : i = v.length := by omega
    subst hie
    rw [List.take_length]
    unfold rowT
    by_cases h0 : v = []
    · subst h0
      have hl0 : rowJ [] = ⟨#[]⟩ := rfl
      rw [if_pos rfl, hl0]
      repeat' first
        | simp only [go_sem]
        | exact finSq rfl rfl
    · rw [if_neg h0]
      have hne := rowJ_ne h0
      repeat' first
        | (exfalso; exact hne (by assumption))
        | simp only [go_sem]
        | refine brK_dec (fun _ => ?_) (fun _ => ?_)
        | exact finSq rfl rfl

theorem itoa28 (n : Int) (h : I64 n) : PCall Tryz.prog 47 [.i n] (.s (digB n)) := by
  refine pcall_of_vc tabOK Tryz.func47 (by kernel_rfl) rfl pureL pureI (n := 5) rfl (rs := [.tmp 2]) rfl ?_
  simp only [go_sem]
  refine PCall.call (fmt49 n h) ?_
  simp only [go_sem]
  exact finSq rfl rfl

theorem itoa16 (n : Int) (h : I64 n) : PCall Tryz.prog 27 [.i n] (.s (digB n)) := by
  refine pcall_of_vc tabOK Tryz.func27 (by kernel_rfl) rfl pureL pureI (n := 5) rfl (rs := [.tmp 2]) rfl ?_
  simp only [go_sem]
  refine PCall.call (itoa28 n h) ?_
  simp only [go_sem]
  exact finSq rfl rfl
/-- The digits' number. -/
def decV (a : Nat) (l : List UInt8) : Nat := l.foldl (fun a c => a * 10 + (c.toNat - 48)) a
def isDg (c : UInt8) : Bool := decide (48 ≤ c.toNat) && decide (c.toNat ≤ 57)
theorem decV_snoc (l : List UInt8) (a : Nat) (c : UInt8) : decV a (l ++ [c]) = decV a l * 10 + (c.toNat - 48) := by
  unfold decV
  rw [List.foldl_append, List.foldl_cons, List.foldl_nil]
theorem dg_nat (d : Nat) (h : d < 10) : (UInt8.ofNat (48 + d)).toNat = 48 + d := by
  rw [UInt8.toNat_ofNat', Nat.mod_eq_of_lt (by omega)]
theorem dec_all (u : Nat) : (Lib.decDigits u).all isDg = true ∧ Lib.decDigits u ≠ [] ∧ decV 0 (Lib.decDigits u) = u := by
  induction u using Nat.strongRecOn with
  | _ u ih =>
    rw [Lib.decDigits]
    by_cases h : u < 10
    · rw [dif_pos h]
      refine ⟨?_, by simp, ?_⟩
      · simp only [List.all_cons, List.all_nil, Bool.and_true, isDg, dg_nat u h]
        simp
        omega
      · simp only [decV, List.foldl_cons, List.foldl_nil, dg_nat u h]
        omega
    · rw [dif_neg h]
      obtain ⟨h1, h2, h3⟩ := ih (u / 10) (by omega)
      have h4 := dg_nat (u % 10) (by omega)
      refine ⟨?_, by simp, ?_⟩
      · rw [List.all_append, h1]
        simp only [List.all_cons, List.all_nil, Bool.and_true, isDg, h4]
        simp
        omega
      · rw [decV_snoc, h3, h4]
        omega
theorem dec_len (u : Nat) : ∀ k, u < 10 ^ (k + 1) → (Lib.decDigits u).length ≤ k + 1 := by
  induction u using Nat.strongRecOn with
  | _ u ih =>
    intro k hk
    rw [Lib.decDigits]
    by_cases h : u < 10
    · rw [dif_pos h]; simp
    · rw [dif_neg h]
      cases k with
      | zero => omega
      | succ k =>
        rw [List.length_append]
        have := ih (u / 10) (by omega) k (by rw [Nat.pow_succ] at hk; omega)
        simp
        omega
theorem parse_snoc {M : Nat} : ∀ (l : List UInt8) (a v d : Nat), Lib.parseUintM M a l = .ok v → d < 10 → v < 1844674407370955162 → v * 10 + d ≤ M → Lib.parseUintM M a (l ++ [UInt8.ofNat (48 + d)]) = .ok (v * 10 + d)
  | [], a, v, d, h, hd, hv, hM => by
    simp only [Lib.parseUintM] at h
    injection h with h
    subst h
    simp only [List.nil_append, Lib.parseUintM, dg_nat d hd]
    rw [if_pos (by omega), if_neg (by omega), show 48 + d - 48 = d by omega, if_neg (by omega)]
  | c :: l, a, v, d, h, hd, hv, hM => by
    simp only [Lib.parseUintM] at h
    simp only [List.cons_append, Lib.parseUintM]
    split at h
    · rename_i h1
      rw [if_pos h1]
      split at h
      · cases h
      · rename_i h2
        rw [if_neg h2]
        split at h
        · cases h
        · rename_i h3
          rw [if_neg h3]
          exact parse_snoc l _ v d h hd hv hM
    · cases h
theorem parse_dec (u : Nat) (hu : u ≤ 9223372036854775808) : Lib.parseUintM 18446744073709551615 0 (Lib.decDigits u) = .ok u := by
  induction u using Nat.strongRecOn with
  | _ u ih =>
    rw [Lib.decDigits]
    by_cases h : u < 10
    · rw [dif_pos h]
      have := parse_snoc (M := 18446744073709551615) [] 0 0 u rfl h (by omega) (by omega)
      simpa using this
    · rw [dif_neg h]
      have := parse_snoc (M := 18446744073709551615) (Lib.decDigits (u / 10)) 0 (u / 10) (u % 10) (ih (u / 10) (by omega) (by omega)) (by omega) (by omega) (by omega)
      rw [show u / 10 * 10 + u % 10 = u by omega] at this
      exact this
theorem uint_dec (u : Nat) (hu : u ≤ 9223372036854775808) : Lib.parseUintB 64 (Lib.decDigits u) = .ok u := by
  unfold Lib.parseUintB
  rw [if_neg (dec_all u).2.1]
  exact parse_dec u hu
theorem parse_itoa (n : Int) (h : I64 n) : Lib.parseIntB 64 (Lib.itoa n) = .ok n := by
  obtain ⟨h1, h2⟩ := h
  rw [itoa_abs]
  by_cases hn : n < 0
  · rw [if_pos hn, Lib.parseIntB_minus, uint_dec _ (by omega)]
    simp only [Lib.signedC]
    rw [if_neg (by simp; omega), show -(n.natAbs : Int) = n by omega]
  · rw [if_neg hn]
    obtain ⟨a1, a2, _⟩ := dec_all n.natAbs
    have hu := uint_dec n.natAbs (by omega)
    revert a1 a2 hu
    cases Lib.decDigits n.natAbs with
    | nil => intro _ h; exact absurd rfl h
    | cons c r =>
      intro a1 _ hu
      rw [List.all_cons, Bool.and_eq_true] at a1
      have := a1.1
      simp [isDg] at this
      rw [Lib.parseIntB_plain _ _ _ (by omega) (by omega), hu]
      simp only [Lib.signlessC]
      rw [if_neg (by simp; omega), show (n.natAbs : Int) = n by omega]
/-- The number that a text is. -/
def numB (t : ByteArray) : Option Int := match Lib.parseIntB 64 t.data.toList with
  | .ok v => if digB v = t then some v else none
  | _ => none
theorem num_dig (n : Int) (h : I64 n) : numB (digB n) = some n := by
  have h1 : (digB n).data.toList = Lib.itoa n := rfl
  unfold numB
  rw [h1, parse_itoa n h]
  exact if_pos rfl
theorem num_some {t : ByteArray} {v : Int} (h : numB t = some v) : Lib.parseIntB 64 t.data.toList = .ok v ∧ digB v = t ∧ I64 v := by
  unfold numB at h
  split at h
  · rename_i u hu
    split at h
    · rename_i hd
      cases h
      have hb := Lib.parseIntB_bounds hu
      simp at hb
      exact ⟨hu, hd, hb.1, Int.le_sub_one_of_lt hb.2⟩
    · cases h
  · cases h
/-- What a text's number may tell of its text. -/
theorem num_shape {t : ByteArray} {v : Int} (h : numB t = some v) : ∃ l : List UInt8, t.data.toList = (if v < 0 then 45 :: l else l) ∧ l.all isDg = true ∧ 1 ≤ l.length ∧ l.length ≤ 19 ∧ decV 0 l = v.natAbs := by
  obtain ⟨_, h2, h3⟩ := num_some h
  refine ⟨Lib.decDigits v.natAbs, ?_, (dec_all _).1, ?_, ?_, (dec_all _).2.2⟩
  · rw [← h2]
    exact itoa_abs v
  · exact List.length_pos_iff.2 (dec_all _).2.1
  · exact dec_len _ 18 (by have := h3.1; have := h3.2; omega)
theorem num_of {t : ByteArray} {v : Int} (hv : I64 v) (h : digB v = t) : numB t = some v := by rw [← h]; exact num_dig v hv
/-- A number and whether it is the text's. -/
def NumR (t : ByteArray) (n : Int) (b : Bool) : Prop := match numB t with
  | some v => n = v ∧ b = true
  | none => b = false
theorem numR_dec {t : ByteArray} {n : Int} (hn : I64 n) (h : ∀ v, numB t = some v → n = v) : NumR t n (decide (digB n = t)) := by
  unfold NumR
  cases e : numB t with
  | some v =>
    have := h v e
    subst this
    exact ⟨rfl, decide_eq_true (num_some e).2.1⟩
  | none =>
    refine decide_eq_false fun q => ?_
    rw [num_of hn q] at e
    cases e
/-- A list's images, if each has one. -/
def mapO {α β : Type} (f : α → Option β) : List α → Option (List β)
  | [] => some []
  | a :: r => match f a with
    | none => none
    | some b => match mapO f r with
      | none => none
      | some l => some (b :: l)
theorem mapO_app {α β : Type} {f : α → Option β} : ∀ {l r : List α}, mapO f (l ++ r) = match mapO f l with
    | none => none
    | some a => match mapO f r with
      | none => none
      | some b => some (a ++ b)
  | [], r => by
    simp only [List.nil_append, mapO]
    cases mapO f r <;> rfl
  | x :: l, r => by
    simp only [List.cons_append, mapO, mapO_app (l := l)]
    cases f x with
    | none => rfl
    | some y =>
      cases mapO f l with
      | none => rfl
      | some a => cases mapO f r <;> rfl
theorem mapO_snoc {α β : Type} {f : α → Option β} {l : List α} {out : List β} {x : α} {y : β} (h : mapO f l = some out) (hx : f x = some y) : mapO f (l ++ [x]) = some (out ++ [y]) := by
  rw [mapO_app, h]
  simp only [mapO, hx]
theorem mapO_no {α β : Type} {f : α → Option β} {l r : List α} {x : α} (hx : f x = none) : mapO f (l ++ x :: r) = none := by
  rw [mapO_app]
  cases mapO f l with
  | none => rfl
  | some a => simp only [mapO, hx]
theorem mapO_len {α β : Type} {f : α → Option β} : ∀ {l : List α} {out : List β}, mapO f l = some out → out.length = l.length
  | [], out, h => by cases h; rfl
  | x :: l, out, h => by
    simp only [mapO] at h
    split at h
    · cases h
    · split at h
      · cases h
      · rename_i hl
        cases h
        rw [List.length_cons, List.length_cons, mapO_len hl]
theorem mapO_mem {α β : Type} {f : α → Option β} : ∀ {l : List α} {out : List β}, mapO f l = some out → ∀ y ∈ out, ∃ x ∈ l, f x = some y
  | [], out, h => by cases h; simp
  | x :: l, out, h => by
    simp only [mapO] at h
    split at h
    · cases h
    · rename_i b hb
      split at h
      · cases h
      · rename_i hl
        cases h
        intro y hy
        rcases List.mem_cons.1 hy with rfl | hy
        · exact ⟨x, List.mem_cons_self, hb⟩
        · obtain ⟨z, hz, e⟩ := mapO_mem hl y hy
          exact ⟨z, List.mem_cons_of_mem _ hz, e⟩
def layP_ren : Go.Shelf.Ren := ⟨fun | 129 => 90 | 171 => 27 | 174 => 56 | 205 => 97 | 243 => 47 | 245 => 71 | 246 => 58 | 247 => 70 | 279 => 85 | 280 => 86 | 281 => 87 | 282 => 88 | 283 => 72 | 284 => 73 | 285 => 74 | 286 => 75 | 287 => 84 | 316 => 96 | 317 => 89 | 318 => 91 | 319 => 92 | 320 => 93 | 321 => 94 | 322 => 95 | 337 => 98 | 338 => 99 | n => n, fun | 0 => 0 | 2 => 2 | 3 => 3 | 4 => 4 | 5 => 5 | 9 => 9 | 20 => 20 | 21 => 21 | 37 => 22 | 46 => 91 | 51 => 109 | 53 => 89 | 75 => 81 | 80 => 84 | 85 => 87 | 127 => 92 | 143 => 133 | 145 => 135 | 167 => 113 | 168 => 116 | 171 => 101 | 173 => 104 | 175 => 114 | 210 => 130 | 212 => 120 | 213 => 121 | 232 => 136 | 233 => 137 | n => n, fun | 15 => 4 | 16 => 5 | 17 => 1 | 18 => 6 | 19 => 7 | n => n⟩
theorem layP_LaysCn174 : Go.Proofs.LaysC.n174 Tryz.prog layP_ren := {
  mixed := by kernel_rfl
  f129 := Tryz.func90.trans (congrArg some (by kernel_rfl))
  f171 := Tryz.func27.trans (congrArg some (by kernel_rfl))
  f174 := Tryz.func56.trans (congrArg some (by kernel_rfl))
  f205 := Tryz.func97.trans (congrArg some (by kernel_rfl))
  f243 := Tryz.func47.trans (congrArg some (by kernel_rfl))
  f245 := Tryz.func71.trans (congrArg some (by kernel_rfl))
  f246 := Tryz.func58.trans (congrArg some (by kernel_rfl))
  f247 := Tryz.func70.trans (congrArg some (by kernel_rfl))
  f279 := Tryz.func85.trans (congrArg some (by kernel_rfl))
  f280 := Tryz.func86.trans (congrArg some (by kernel_rfl))
  f281 := Tryz.func87.trans (congrArg some (by kernel_rfl))
  f282 := Tryz.func88.trans (congrArg some (by kernel_rfl))
  f283 := Tryz.func72.trans (congrArg some (by kernel_rfl))
  f284 := Tryz.func73.trans (congrArg some (by kernel_rfl))
  f285 := Tryz.func74.trans (congrArg some (by kernel_rfl))
  f286 := Tryz.func75.trans (congrArg some (by kernel_rfl))
  f287 := Tryz.func84.trans (congrArg some (by kernel_rfl))
  f316 := Tryz.func96.trans (congrArg some (by kernel_rfl))
  f317 := Tryz.func89.trans (congrArg some (by kernel_rfl))
  f318 := Tryz.func91.trans (congrArg some (by kernel_rfl))
  f319 := Tryz.func92.trans (congrArg some (by kernel_rfl))
  f320 := Tryz.func93.trans (congrArg some (by kernel_rfl))
  f321 := Tryz.func94.trans (congrArg some (by kernel_rfl))
  f322 := Tryz.func95.trans (congrArg some (by kernel_rfl))
  f337 := Tryz.func98.trans (congrArg some (by kernel_rfl))
  f338 := Tryz.func99.trans (congrArg some (by kernel_rfl))
  t0 := Tryz.underlying0
  a0 := Tryz.isAgg0
  z0 := Tryz.sizeOf0
  v0 := Tryz.zeroValue0
  t2 := Tryz.underlying2
  a2 := Tryz.isAgg2
  z2 := Tryz.sizeOf2
  v2 := Tryz.zeroValue2
  t3 := Tryz.underlying3
  a3 := Tryz.isAgg3
  z3 := Tryz.sizeOf3
  v3 := Tryz.zeroValue3
  t4 := Tryz.underlying4
  a4 := Tryz.isAgg4
  z4 := Tryz.sizeOf4
  v4 := Tryz.zeroValue4
  t5 := Tryz.underlying5
  a5 := Tryz.isAgg5
  z5 := Tryz.sizeOf5
  v5 := Tryz.zeroValue5
  t9 := Tryz.underlying9
  a9 := Tryz.isAgg9
  z9 := Tryz.sizeOf9
  v9 := Tryz.zeroValue9
  t20 := Tryz.underlying20
  a20 := Tryz.isAgg20
  z20 := Tryz.sizeOf20
  v20 := Tryz.zeroValue20
  t21 := Tryz.underlying21
  a21 := Tryz.isAgg21
  z21 := Tryz.sizeOf21
  v21 := Tryz.zeroValue21
  t37 := Tryz.underlying22
  a37 := Tryz.isAgg22
  z37 := Tryz.sizeOf22
  v37 := Tryz.zeroValue22
  t46 := Tryz.underlying91
  a46 := Tryz.isAgg91
  z46 := Tryz.sizeOf91
  v46 := Tryz.zeroValue91
  t51 := Tryz.underlying109
  a51 := Tryz.isAgg109
  z51 := Tryz.sizeOf109
  v51 := Tryz.zeroValue109
  t53 := Tryz.underlying89
  a53 := Tryz.isAgg89
  z53 := Tryz.sizeOf89
  v53 := Tryz.zeroValue89
  t75 := Tryz.underlying81
  a75 := Tryz.isAgg81
  z75 := Tryz.sizeOf81
  v75 := Tryz.zeroValue81
  t85 := Tryz.underlying87
  a85 := Tryz.isAgg87
  z85 := Tryz.sizeOf87
  v85 := Tryz.zeroValue87
  t127 := Tryz.underlying92
  a127 := Tryz.isAgg92
  z127 := Tryz.sizeOf92
  v127 := Tryz.zeroValue92
  t143 := Tryz.underlying133
  a143 := Tryz.isAgg133
  z143 := Tryz.sizeOf133
  v143 := Tryz.zeroValue133
  t145 := Tryz.underlying135
  a145 := Tryz.isAgg135
  z145 := Tryz.sizeOf135
  v145 := Tryz.zeroValue135
  t167 := Tryz.underlying113
  a167 := Tryz.isAgg113
  z167 := Tryz.sizeOf113
  v167 := Tryz.zeroValue113
  t168 := Tryz.underlying116
  a168 := Tryz.isAgg116
  z168 := Tryz.sizeOf116
  v168 := Tryz.zeroValue116
  t171 := Tryz.underlying101
  a171 := Tryz.isAgg101
  z171 := Tryz.sizeOf101
  v171 := Tryz.zeroValue101
  t173 := Tryz.underlying104
  a173 := Tryz.isAgg104
  z173 := Tryz.sizeOf104
  v173 := Tryz.zeroValue104
  t175 := Tryz.underlying114
  a175 := Tryz.isAgg114
  z175 := Tryz.sizeOf114
  v175 := Tryz.zeroValue114
  t210 := Tryz.underlying130
  a210 := Tryz.isAgg130
  z210 := Tryz.sizeOf130
  v210 := Tryz.zeroValue130
  t212 := Tryz.underlying120
  a212 := Tryz.isAgg120
  z212 := Tryz.sizeOf120
  v212 := Tryz.zeroValue120
  t213 := Tryz.underlying121
  a213 := Tryz.isAgg121
  z213 := Tryz.sizeOf121
  t232 := Tryz.underlying136
  a232 := Tryz.isAgg136
  z232 := Tryz.sizeOf136
  v232 := Tryz.zeroValue136
  t233 := Tryz.underlying137
  a233 := Tryz.isAgg137
  z233 := Tryz.sizeOf137
  v233 := Tryz.zeroValue137
  g15 := by kernel_rfl
  g16 := by kernel_rfl
  g17 := by kernel_rfl
  g18 := by kernel_rfl
  g19 := by kernel_rfl
  t80 := Tryz.underlying84
  a80 := Tryz.isAgg84
  z80 := Tryz.sizeOf84
  v80 := Tryz.zeroValue84
  i0 := by kernel_rfl
  i2 := by kernel_rfl
  i3 := by kernel_rfl
  i4 := by kernel_rfl
  i5 := by kernel_rfl
  i9 := by kernel_rfl
  i20 := by kernel_rfl
  i21 := by kernel_rfl
  i37 := by kernel_rfl
  i46 := by kernel_rfl
  i51 := by kernel_rfl
  i53 := by kernel_rfl
  i75 := by kernel_rfl
  i80 := by kernel_rfl
  i85 := by kernel_rfl
  i127 := by kernel_rfl
  i143 := by kernel_rfl
  i145 := by kernel_rfl
  i167 := by kernel_rfl
  i168 := by kernel_rfl
  i171 := by kernel_rfl
  i173 := by kernel_rfl
  i175 := by kernel_rfl
  i210 := by kernel_rfl
  i212 := by kernel_rfl
  i232 := by kernel_rfl
  i233 := by kernel_rfl
  m15 := by kernel_rfl
  m16 := by kernel_rfl
  m17 := by kernel_rfl
  m18 := by kernel_rfl
  m19 := by kernel_rfl
  c0 := by kernel_rfl
  c2 := by kernel_rfl
  c3 := by kernel_rfl
  c4 := by kernel_rfl
  c5 := by kernel_rfl
  c9 := by kernel_rfl
  c20 := by kernel_rfl
  c21 := by kernel_rfl
  c37 := by kernel_rfl
  c46 := by kernel_rfl
  c51 := by kernel_rfl
  c53 := by kernel_rfl
  c75 := by kernel_rfl
  c80 := by kernel_rfl
  c85 := by kernel_rfl
  c127 := by kernel_rfl
  c143 := by kernel_rfl
  c145 := by kernel_rfl
  c167 := by kernel_rfl
  c168 := by kernel_rfl
  c171 := by kernel_rfl
  c173 := by kernel_rfl
  c175 := by kernel_rfl
  c210 := by kernel_rfl
  c212 := by kernel_rfl
  c213 := by kernel_rfl
  c232 := by kernel_rfl
  c233 := by kernel_rfl }
end Go.Proofs.YtfhhboohlblnfaaGreatDoor

namespace Go.Proofs.YtfhhboohlblnfaaGreatDoor
open Go.Abs
set_option maxRecDepth 20000
set_option linter.unusedSimpArgs false
set_option linter.unusedVariables false
set_option maxHeartbeats 1000000
attribute [local irreducible] vc vcOps vcStep vcGuard prK hrK gK gsK brK callK ElemK SeqK BlockK ScopeK OpsK CallK LoopK LoopGo finPost ACall PCall PCallE BCall vqOps vqStep vqGuard qrK heK pcK gqK gqsK QOpsK qcallK DrawK
open Go.RowKit
/-- A contract of the shelf's whose world grows, of a value that is told by a predicate. -/
theorem pcallE_below {P : Program} {f : FuncId} {args : List AV} {K : AV → Prop} (hp : ∀ x ∈ args, Go.Abs.Pure x) (hent : ∀ vs w, (callFunc f vs).run P w = .ok (.enter f vs) w)
    (hc : ∀ S w vs, TabF (fun _ => .no) [] w → (∀ a, S a → a.block < w.heap.size) → CAll S w (fun _ => .no) args vs → Calls P f vs w fun e w' => ∃ v r, e = .returned v ∧ K r ∧ Go.Abs.Pure r ∧ (∀ S w, C S w (fun _ => .no) r v) ∧ Below w.heap.size w w') : PCallE P f args K := by
  unfold PCallE
  refine ⟨hp, fun S w vs hb ht hargs => ⟨hent _ _, Calls.mono (hc S w vs ht hb hargs) ?_⟩⟩
  rintro e w' ⟨v, r, rfl, hK, hpr, hC, hB⟩
  obtain ⟨h1, h2⟩ := ext_below hb ht hB
  exact ⟨v, r, S, rfl, hK, hpr, hC _ _, h1, h2⟩
theorem vs_three {S : Addr → Prop} {w : World} {φ : Nat → Go.Abs.Loc} {a b c : AV} {vs : Array Value} (h : CAll S w φ [a, b, c] vs) : ∃ v u x, vs = #[v, u, x] ∧ C S w φ a v ∧ C S w φ b u ∧ C S w φ c x := by
  obtain ⟨v0, h0, c0⟩ := h.at (i := 0) rfl
  obtain ⟨v1, h1, c1⟩ := h.at (i := 1) rfl
  obtain ⟨v2, h2, c2⟩ := h.at (i := 2) rfl
  refine ⟨v0, v1, v2, ?_, c0, c1, c2⟩
  have hl := h.1
  apply Array.ext_getElem?
  intro i
  match i with
  | 0 => exact h0
  | 1 => exact h1
  | 2 => exact h2
  | i + 3 => rw [Array.getElem?_eq_none (by simp at hl; omega), Array.getElem?_eq_none (by simp)]
theorem err_tab {g : Nat} {w : World} (ht : TabF (fun _ => .no) [] w) (hm : (g, fun cs => ∃ tp p, cs = #[Value.iface tp p]) ∈ tabL) : ∃ tp p, w.cell? ⟨g, 0, none⟩ = some (.iface tp p) := by
  obtain ⟨⟨cs, t, l, h, hcs⟩, _⟩ := ht _ hm
  dsimp only at hcs
  obtain ⟨tp, p, rfl⟩ := hcs
  refine ⟨tp, p, ?_⟩
  unfold World.cell?
  dsimp only
  rw [h]
  rfl
theorem c_two (n : Int) (e : Value) (S : Addr → Prop) (w : World) : C S w (fun _ => .no) (.tup [.i n, .raw e]) (.tuple #[.int .i64 n, e]) := by
  refine .tup _ _ rfl fun i a v h1 h2 => ?_
  match i with
  | 0 => cases h1; cases h2; exact .raw _
  | 1 => cases h1; cases h2; exact .raw _
  | i + 2 => cases h1
theorem two_pure (n : Int) (e : Value) : Go.Abs.Pure (.tup [.i n, .raw e]) := .tup _ (pure_cons (.raw _) (pure_cons (.raw _) pure_nil))
/-- What strconv.ParseInt tells: the number and no error, or an error. -/
def ParR (t : ByteArray) (r : AV) : Prop := (∃ v, Lib.parseIntB 64 t.data.toList = .ok v ∧ r = .tup [.i v, .raw .nilIface]) ∨ ((∀ v, Lib.parseIntB 64 t.data.toList ≠ .ok v) ∧ ∃ v p, I64 v ∧ r = .tup [.i v, .raw (.iface 116 (.pointer (some p)))])

theorem parse67 (t : ByteArray) (ht : t.size ≤ 1000000) : PCallE Tryz.prog 56 [.s t, .i 10, .i 64] (ParR t) := by
  refine pcallE_below (pureL) (fun vs w => run_callFunc Tryz.func56 (by kernel_rfl) rfl vs w) fun S w vs htab hb hargs => ?_
  obtain ⟨v0, v1, v2, rfl, c0, c1, c2⟩ := vs_three hargs
  cases c0
  cases c1
  cases c2
  have hcs : ∀ e : Lib.NumEnd Int, (∃ v, e = .ok v) ∨ ((∀ v, e ≠ .ok v) ∧ e ≠ .range) ∨ e = .range := fun e => by cases e <;> simp
  rcases hcs (Lib.parseIntB 64 t.data.toList) with ⟨v, hpi⟩ | ⟨hpi, hpr⟩ | hpi
  · refine Calls.mono (Go.Proofs.Any.strconv_ParseInt_10_at64_ok (ρ := layP_ren) layP_LaysCn174 t (by omega) v hpi w) ?_
    rintro e w' ⟨rfl, hW⟩
    refine ⟨_, .tup [.i v, .raw .nilIface], rfl, .inl ⟨v, hpi, rfl⟩, two_pure _ _, c_two _ _, ?_⟩
    rcases hW with rfl | ⟨u, rfl⟩
    · exact Below.refl _ _
    · exact Lib.bytesWorld_below _ _ _
  · obtain ⟨tp, p, hc⟩ := err_tab (g := 4) htab (by unfold tabL; simp only [List.mem_cons, true_or, or_true])
    refine Calls.mono (Go.Proofs.Any.strconv_ParseInt_10_at64_syntax (ρ := layP_ren) layP_LaysCn174 t (by omega) (by revert hpi hpr; cases Lib.parseIntB 64 t.data.toList <;> simp) (.iface tp p) w hc (.inr ⟨tp, p, rfl⟩)) ?_
    rintro e w' ⟨N, rfl, _, _, hB⟩
    exact ⟨_, .tup [.i 0, .raw _], rfl, .inr ⟨hpi, _, _, ⟨by decide, by decide⟩, rfl⟩, two_pure _ _, c_two _ _, hB⟩
  · obtain ⟨tp, p, hc⟩ := err_tab (g := 5) htab (by unfold tabL; simp only [List.mem_cons, true_or, or_true])
    refine Calls.mono (Go.Proofs.Any.strconv_ParseInt_10_at64_range (ρ := layP_ren) layP_LaysCn174 t (by omega) hpi (.iface tp p) w hc (.inr ⟨tp, p, rfl⟩)) ?_
    rintro e w' ⟨N, rfl, _, _, hB⟩
    refine ⟨_, .tup [.i (Lib.intSat 64 t.data.toList), .raw _], rfl, .inr ⟨fun v q => (by rw [hpi] at q; cases q), _, _, ?_, rfl⟩, two_pure _ _, c_two _ _, hB⟩
    unfold Lib.intSat
    split
    · exact ⟨by decide, by decide⟩
    · exact ⟨by decide, by decide⟩
theorem finT2 {T : TypeId → TI} {t u : Nat} {s : List AV} {h : List Blk} {a b : AV} {K : AV → Prop} (hs : s[t]? = some a) (hu : s[u]? = some b) (ha : Go.Abs.Pure a) (hb : Go.Abs.Pure b) (hk : K (.tup [a, b])) : FinE T [.tmp t, .tmp u] K s h :=
  ⟨[a, b], by simp only [resAV, opd, List.getD_eq_getElem?_getD, hs, hu]; rfl, false, .tup [a, b], .refl _, .tup _ (pure_cons ha (pure_cons hb pure_nil)), hk⟩
abbrev NumRes (t : ByteArray) (r : AV) : Prop := ∃ n b, r = .tup [.i n, .b b] ∧ I64 n ∧ NumR t n b

theorem number55 (t : ByteArray) (ht : t.size ≤ 1000000) : PCallE Tryz.prog 36 [.s t] (NumRes t) := by
  refine pcallE_of_vc tabOK Tryz.func36 (by kernel_rfl) rfl pureL (n := 20) rfl (rs := [.tmp 2, .tmp 3]) rfl ?_
  simp only [go_sem]
  refine PCallE.call (parse67 t ht) ?_
  rintro r (⟨v, hv, rfl⟩ | ⟨hno, v, p, hI, rfl⟩)
  · have hbd := Lib.parseIntB_bounds hv
    simp at hbd
    have hI : I64 v := ⟨hbd.1, Int.le_sub_one_of_lt hbd.2⟩
    have hR : NumR t v (decide (digB v = t)) := numR_dec hI fun u hu => by
      have := (num_some hu).1
      rw [hv] at this
      cases this
      rfl
    repeat' first
      | simp only [go_sem]
      | refine drawK mo (by kernel_rfl) ?_
      | (refine PCall.call (fmt29 v hI) ?_)
      | refine gK_dec (fun _ => ?_) (fun _ => ?_)
      | exact finT2 rfl rfl (.raw _) (.raw _) ⟨_, _, rfl, hI, hR⟩
  · have hR : NumR t v false := by
      unfold NumR numB
      split
      · rename_i u hu
        split at hu
        · rename_i w hw
          exact absurd hw (hno w)
        · cases hu
      · rfl
    repeat' first
      | simp only [go_sem]
      | refine drawK mo (by kernel_rfl) ?_
      | refine gK_dec (fun _ => ?_) (fun _ => ?_)
      | exact finT2 rfl rfl (.raw _) (.raw _) ⟨_, _, rfl, hI, hR⟩
end Go.Proofs.YtfhhboohlblnfaaGreatDoor

namespace Go.Proofs.YtfhhboohlblnfaaGreatDoor
open Go.Abs
set_option maxRecDepth 20000
set_option linter.unusedSimpArgs false
set_option linter.unusedVariables false
set_option maxHeartbeats 1000000
attribute [local irreducible] vc vcOps vcStep vcGuard prK hrK gK gsK brK callK ElemK SeqK BlockK ScopeK OpsK CallK LoopK LoopGo finPost ACall PCall PCallE BCall vqOps vqStep vqGuard qrK heK pcK gqK gqsK QOpsK qcallK DrawK
/-- What lies ahead of a byte, and behind it. -/
def bef (c : UInt8) (t : ByteArray) : ByteArray := if c ∈ bts t then t.extract 0 (Lib.indexByte (bts t) c).toNat else t
def aft (c : UInt8) (t : ByteArray) : ByteArray := if c ∈ bts t then t.extract ((Lib.indexByte (bts t) c).toNat + 1) t.size else ⟨#[]⟩
def hasB (c : UInt8) (t : ByteArray) : Bool := decide (c ∈ bts t)
theorem cutA_eq (t : ByteArray) (c : UInt8) : cutA t c = .tup [.s (bef c t), .s (aft c t), .b (hasB c t)] := rfl
theorem cut_at {c : UInt8} {t : ByteArray} (h : hasB c t = true) : bts t = bts (bef c t) ++ c :: bts (aft c t) ∧ c ∉ bts (bef c t) ∧ pieces c t = bef c t :: pieces c (aft c t) ∧ (bef c t).size + (aft c t).size + 1 = t.size := by
  have h' := of_decide_eq_true h
  obtain ⟨m, h1, h2, h3, h4⟩ := idx_at h'
  have hp := pieces_at h2 h3 h4
  have e1 : bts (t.extract 0 m) = (bts t).take m := by rw [bts_extract]; simp
  have e2 : bts (t.extract (m + 1) t.size) = (bts t).drop (m + 1) := bts_from _ _
  unfold bef aft
  rw [if_pos h', if_pos h', h1, Int.toNat_natCast, e1, e2]
  refine ⟨h3, h4, hp, ?_⟩
  rw [bts_len] at h2
  rw [ByteArray.size_extract, ByteArray.size_extract]
  omega
theorem cut_no {c : UInt8} {t : ByteArray} (h : hasB c t = false) : bef c t = t ∧ aft c t = ⟨#[]⟩ ∧ pieces c t = [t] := by
  have h' := of_decide_eq_false h
  exact ⟨if_neg h', if_neg h', pieces_no h'⟩
theorem app_bts (a b : ByteArray) : bts (a ++ b) = bts a ++ bts b := app_list a b
theorem cut_uniq {c : UInt8} {t : ByteArray} {a b : List UInt8} (h : bts t = a ++ c :: b) (ha : c ∉ a) : hasB c t = true ∧ bts (bef c t) = a ∧ bts (aft c t) = b := by
  have h1 : hasB c t = true := decide_eq_true (by rw [h]; simp)
  obtain ⟨h2, h3, _⟩ := cut_at h1
  rw [h] at h2
  refine ⟨h1, ?_⟩
  generalize bts (bef c t) = x at h2 h3 ⊢
  generalize bts (aft c t) = y at h2 ⊢
  clear h h1
  induction a generalizing x with
  | nil =>
    cases x with
    | nil => simp at h2; exact ⟨rfl, h2.symm⟩
    | cons z x => simp at h2; exact absurd (by rw [h2.1]; simp) h3
  | cons z a ih =>
    cases x with
    | nil => simp at h2; exact absurd (by rw [h2.1]; simp) ha
    | cons w x =>
      simp at h2
      obtain ⟨rfl, h2⟩ := h2
      obtain ⟨rfl, rfl⟩ := ih (fun q => ha (by simp [q])) x (fun q => h3 (by simp [q])) h2
      exact ⟨rfl, rfl⟩
/-- A text's pieces, put together again. -/
theorem joinB_c (x : ByteArray) (l : List ByteArray) (sep : ByteArray) (h : l ≠ []) : bts (joinB (x :: l) sep) = bts x ++ (bts sep ++ bts (joinB l sep)) := by
  cases l with
  | nil => exact absurd rfl h
  | cons y l => rw [joinB_cons, app_bts, app_bts]
theorem join_pieces (c : UInt8) : ∀ (n : Nat) (t : ByteArray), t.size = n → joinB (pieces c t) ⟨#[c]⟩ = t := by
  intro n
  induction n using Nat.strongRecOn with
  | _ n ih =>
    intro t ht
    cases h : hasB c t with
    | false => rw [(cut_no h).2.2, joinB_one]
    | true =>
      obtain ⟨h1, h2, h3, h4⟩ := cut_at h
      have := ih (aft c t).size (by omega) (aft c t) rfl
      apply bts_inj
      rw [h3, joinB_c _ _ _ (pieces_ne _ _), this, h1]
      rfl
/-- The values that a text is. -/
def valueB (t : ByteArray) : Option (List Int) := mapO numB (pieces 44 t)
theorem value_ok {t : ByteArray} {v : List Int} (h : valueB t = some v) : rowT v = t ∧ v ≠ [] ∧ ∀ n ∈ v, I64 n := by
  unfold valueB at h
  have h1 : v.map digB = pieces 44 t := by
    revert h
    generalize pieces 44 t = l
    intro h
    induction l generalizing v with
    | nil => cases h; rfl
    | cons x l ih =>
      simp only [mapO] at h
      split at h
      · cases h
      · rename_i b hb
        split at h
        · cases h
        · rename_i hl
          cases h
          rw [List.map_cons, ih hl, (num_some hb).2.1]
  have h2 : v ≠ [] := fun q => by subst q; exact absurd h1.symm (pieces_ne _ _)
  refine ⟨?_, h2, fun n hn => ?_⟩
  · unfold rowT rowJ
    rw [if_neg h2, h1]
    exact join_pieces 44 _ t rfl
  · obtain ⟨x, _, hx⟩ := mapO_mem h n hn
    exact (num_some hx).2.2
def noAsk : DAsk := ⟨⟨#[]⟩, false, [], ⟨#[]⟩, 0⟩
def noOp : DOp := ⟨0, noAsk, [], 0⟩
/-- The value of a digit. -/
def nibF (c : UInt8) : Option Int := if 48 ≤ c.toNat ∧ c.toNat ≤ 57 then some ((c.toNat : Int) - 48) else if 97 ≤ c.toNat ∧ c.toNat ≤ 102 then some ((c.toNat : Int) - 87) else none
theorem nib_bd {c : UInt8} {n : Int} (h : nibF c = some n) : 0 ≤ n ∧ n ≤ 15 := by
  unfold nibF at h
  split at h
  · cases h; omega
  · split at h
    · cases h; omega
    · cases h
def octL : List UInt8 → Option (List Int)
  | [] => some []
  | [_] => none
  | x :: y :: r => match nibF x with
    | none => none
    | some a => match nibF y with
      | none => none
      | some b => match octL r with
        | none => none
        | some l => some ((a * 16 + b) :: l)
def hexD (n : Int) : UInt8 := if n < 10 then UInt8.ofNat (48 + n.toNat) else UInt8.ofNat (87 + n.toNat)
def hexL : List Int → List UInt8
  | [] => []
  | n :: l => hexD (n / 16) :: hexD (n % 16) :: hexL l
def hexT (l : List Int) : ByteArray := ⟨(hexL l).toArray⟩
theorem hexL_app : ∀ (a b : List Int), hexL (a ++ b) = hexL a ++ hexL b
  | [], _ => rfl
  | n :: a, b => by rw [List.cons_append, hexL, hexL, hexL_app a b]; rfl
theorem hexL_len : ∀ (a : List Int), (hexL a).length = 2 * a.length
  | [] => rfl
  | n :: a => by rw [hexL, List.length_cons, List.length_cons, List.length_cons, hexL_len a]; omega
theorem oct_snoc : ∀ (k : Nat) (t : List UInt8) (l : List Int) (r : List UInt8), t.length ≤ k → octL t = some l → octL (t ++ r) = match octL r with
    | none => none
    | some m => some (l ++ m)
  | _, [], l, r, _, h => by
    cases h
    rw [List.nil_append]
    cases octL r <;> rfl
  | _, [_], l, _, _, h => by cases h
  | 0, _ :: _ :: _, _, _, hk, _ => by simp at hk
  | k + 1, x :: y :: t, l, r, hk, h => by
    simp only [octL] at h
    split at h
    · cases h
    · rename_i a ha
      split at h
      · cases h
      · rename_i b hb
        split at h
        · cases h
        · rename_i m hm
          cases h
          have := oct_snoc k t m r (by simp at hk; omega) hm
          simp only [List.cons_append, octL, ha, hb, this]
          cases octL r <;> rfl
theorem oct_bytes : ∀ (k : Nat) (t : List UInt8) (l : List Int), t.length ≤ k → octL t = some l → 2 * l.length = t.length ∧ ∀ n ∈ l, 0 ≤ n ∧ n ≤ 255
  | _, [], l, _, h => by cases h; simp
  | _, [_], l, _, h => by cases h
  | 0, _ :: _ :: _, _, hk, _ => by simp at hk
  | k + 1, x :: y :: r, l, hk, h => by
    simp only [octL] at h
    split at h
    · cases h
    · rename_i a ha
      split at h
      · cases h
      · rename_i b hb
        split at h
        · cases h
        · rename_i m hm
          cases h
          have h1 := nib_bd ha
          have h2 := nib_bd hb
          obtain ⟨h3, h4⟩ := oct_bytes k r m (by simp at hk; omega) hm
          refine ⟨by simp; omega, fun n hn => ?_⟩
          rcases List.mem_cons.1 hn with rfl | hn
          · omega
          · exact h4 n hn
theorem oct_odd : ∀ (k : Nat) (t : List UInt8), t.length ≤ k → t.length % 2 ≠ 0 → octL t = none
  | _, [], _, h => absurd rfl h
  | _, [_], _, _ => rfl
  | 0, _ :: _ :: _, hk, _ => by simp at hk
  | k + 1, x :: y :: r, hk, h => by
    simp only [octL, oct_odd k r (by simp at hk; omega) (by simp at h; omega)]
    cases nibF x with
    | none => rfl
    | some a => cases nibF y <;> rfl
/-- What is asked, with its text, or its bytes. -/
def contF (a : DAsk) (s : ByteArray) (b : Bool) : Option DAsk := if b = true then (match octL (bts s) with
    | none => none
    | some l => some ⟨a.Text, true, l, a.Moves, a.Fuel⟩)
  else some ⟨s, a.Bytes, a.Image, a.Moves, a.Fuel⟩
def stepF (s : ByteArray) : Option DOp := match mapO valueB (pieces 32 s) with
  | none => none
  | some l => some ⟨2, noAsk, l, 0⟩
def loadF (s : ByteArray) (b : Bool) : Option DOp := match contF noAsk s b with
  | none => none
  | some a => some ⟨1, a, [], 0⟩
def updG (f g m s : ByteArray) (b : Bool) : Option DOp := match numB f with
  | none => none
  | some fuel => match numB g with
    | none => none
    | some fault => match contF ⟨⟨#[]⟩, false, [], m, fuel⟩ s b with
      | none => none
      | some a => some ⟨3, a, [], fault⟩
def updF (s : ByteArray) (b : Bool) : Option DOp := if (hasB 32 s && hasB 32 (aft 32 s) && hasB 124 (aft 32 (aft 32 s))) = true then updG (bef 32 s) (bef 32 (aft 32 s)) (bef 124 (aft 32 (aft 32 s))) (aft 124 (aft 32 (aft 32 s))) b else none
def updP (s : ByteArray) (b : Bool) : Option DOp := if (hasB 124 s && hasB 32 (bef 124 s) && hasB 32 (aft 32 (bef 124 s))) = true then updG (bef 32 (bef 124 s)) (bef 32 (aft 32 (bef 124 s))) (aft 32 (aft 32 (bef 124 s))) (aft 124 s) b else none
/-- A number has no bar, no blank. -/
theorem num_no {t : ByteArray} {v : Int} (h : numB t = some v) {c : UInt8} (hc : c ≠ 45) (hd : isDg c = false) : c ∉ bts t := by
  obtain ⟨l, h1, h2, _⟩ := num_shape h
  rw [List.all_eq_true] at h2
  intro hm
  change c ∈ t.data.toList at hm
  rw [h1] at hm
  have : c ∈ l := by
    split at hm
    · rcases List.mem_cons.1 hm with q | q
      · exact absurd q hc
      · exact q
    · exact hm
  rw [h2 c this] at hd
  cases hd
theorem updG_some {f g m s : ByteArray} {b : Bool} {o : DOp} (h : updG f g m s b = some o) : ∃ fuel fault a, numB f = some fuel ∧ numB g = some fault ∧ contF ⟨⟨#[]⟩, false, [], m, fuel⟩ s b = some a ∧ o = ⟨3, a, [], fault⟩ := by
  unfold updG at h
  split at h
  · cases h
  · rename_i fuel hf
    split at h
    · cases h
    · rename_i fault hg
      split at h
      · cases h
      · rename_i a ha
        cases h
        exact ⟨fuel, fault, a, hf, hg, ha, rfl⟩
theorem upd_eq (s : ByteArray) (b : Bool) : updP s b = updF s b := by
  have key : ∀ o, updF s b = some o → updP s b = some o := fun o h => by
    unfold updF at h
    split at h
    · rename_i hc
      simp only [Bool.and_eq_true] at hc
      obtain ⟨⟨c1, c2⟩, c3⟩ := hc
      obtain ⟨fuel, fault, a, hf, hg, ha, rfl⟩ := updG_some h
      have n1 := num_no hf (c := 124) (by decide) (by decide)
      have n2 := num_no hg (c := 124) (by decide) (by decide)
      obtain ⟨p1, q1, _⟩ := cut_at c1
      obtain ⟨p2, q2, _⟩ := cut_at c2
      obtain ⟨p3, q3, _⟩ := cut_at c3
      have e : bts s = (bts (bef 32 s) ++ 32 :: (bts (bef 32 (aft 32 s)) ++ 32 :: bts (bef 124 (aft 32 (aft 32 s))))) ++ 124 :: bts (aft 124 (aft 32 (aft 32 s))) := by
        rw [p1, p2, p3]
        generalize bts (bef 32 s) = x
        generalize bts (bef 32 (aft 32 s)) = y
        simp only [List.append_assoc, List.cons_append]
      obtain ⟨d1, d2, d3⟩ := cut_uniq e (by
        intro hm
        simp only [List.mem_append, List.mem_cons] at hm
        rcases hm with q | q | q | q | q
        · exact n1 q
        · exact absurd q (by decide)
        · exact n2 q
        · exact absurd q (by decide)
        · exact q3 q)
      obtain ⟨e1, e2, e3⟩ := cut_uniq d2 q1
      obtain ⟨f1, f2, f3⟩ := cut_uniq e3 q2
      unfold updP
      rw [d1, e1, f1, if_pos (show (true && true && true) = true from rfl), bts_inj e2, bts_inj f2, bts_inj f3, bts_inj d3]
      exact h
    · cases h
  have key2 : ∀ o, updP s b = some o → updF s b = some o := fun o h => by
    unfold updP at h
    split at h
    · rename_i hc
      simp only [Bool.and_eq_true] at hc
      obtain ⟨⟨c1, c2⟩, c3⟩ := hc
      obtain ⟨p1, q1, _⟩ := cut_at c1
      obtain ⟨p2, q2, _⟩ := cut_at c2
      obtain ⟨p3, q3, _⟩ := cut_at c3
      have e : bts s = bts (bef 32 (bef 124 s)) ++ 32 :: (bts (bef 32 (aft 32 (bef 124 s))) ++ 32 :: (bts (aft 32 (aft 32 (bef 124 s))) ++ 124 :: bts (aft 124 s))) := by
        have p3' : bts (aft 32 (bef 124 s)) = bts (bef 32 (aft 32 (bef 124 s))) ++ 32 :: bts (aft 32 (aft 32 (bef 124 s))) := p3
        have p2' : bts (bef 124 s) = bts (bef 32 (bef 124 s)) ++ 32 :: bts (aft 32 (bef 124 s)) := p2
        rw [p1, p2', p3']
        simp only [List.append_assoc, List.cons_append]
      have n3 : (124 : UInt8) ∉ bts (aft 32 (aft 32 (bef 124 s))) := fun hm => q1 (by rw [p2, p3]; simp [hm])
      obtain ⟨e1, e2, e3⟩ := cut_uniq e q2
      obtain ⟨f1, f2, f3⟩ := cut_uniq e3 q3
      obtain ⟨g1, g2, g3⟩ := cut_uniq f3 n3
      unfold updF
      rw [e1, f1, g1, if_pos (show (true && true && true) = true from rfl), bts_inj e2, bts_inj f2, bts_inj g2, bts_inj g3]
      exact h
    · cases h
  cases h1 : updF s b with
  | some o => exact key o h1
  | none =>
    cases h2 : updP s b with
    | none => rfl
    | some o => rw [key2 o h2] at h1; cases h1
def stateT : ByteArray := ⟨#[115, 116, 97, 116, 101]⟩
def stepT : ByteArray := ⟨#[115, 116, 101, 112]⟩
def loadT : ByteArray := ⟨#[108, 111, 97, 100]⟩
def imageT : ByteArray := ⟨#[105, 109, 97, 103, 101]⟩
def updateT : ByteArray := ⟨#[117, 112, 100, 97, 116, 101]⟩
def patchT : ByteArray := ⟨#[112, 97, 116, 99, 104]⟩
/-- The operation that a line is. -/
def lineF (s : ByteArray) : Option DOp :=
  if hasB 10 s = true then none
  else if hasB 32 s = true then
    (if bef 32 s = stepT then stepF (aft 32 s)
    else if bef 32 s = loadT then loadF (aft 32 s) false
    else if bef 32 s = imageT then loadF (aft 32 s) true
    else if bef 32 s = updateT then updF (aft 32 s) false
    else if bef 32 s = patchT then updF (aft 32 s) true
    else none)
  else if s = stateT then some ⟨4, noAsk, [], 0⟩
  else if s = stepT then some ⟨2, noAsk, [], 0⟩
  else none
theorem acall_gh {P : Program} {f : FuncId} {args args' : List AV} {h h' : List Blk} {K : AV → List Blk → Prop} (hg : Ghost args h args' h') (hc : ACall P f args' h' K) : ACall P f args h K := by
  unfold ACall Ghost at *
  intro S φ w vs hr ha
  obtain ⟨S1, φ1, k1, k2, k3⟩ := hg S φ w vs ha hr
  obtain ⟨h1, h2⟩ := hc S1 φ1 w vs k2 k1
  refine ⟨h1, Calls.mono h2 ?_⟩
  rintro e w' ⟨v, r, hh, S', φ', e1, e2, e3, e4, e5⟩
  exact ⟨v, r, hh, S', φ', e1, e2, e3, e4, k3.trans e5⟩
/-- What is left of a text behind so many pieces. -/
def restN (c : UInt8) (t : ByteArray) : Nat → ByteArray
  | 0 => t
  | n + 1 => aft c (restN c t n)
theorem rest_pieces {c : UInt8} {t : ByteArray} : ∀ n, n < (pieces c t).length → pieces c (restN c t n) = (pieces c t).drop n ∧ (restN c t n).size ≤ t.size
  | 0, _ => ⟨rfl, Nat.le_refl _⟩
  | n + 1, h => by
    obtain ⟨ih, hz⟩ := rest_pieces (c := c) (t := t) n (by omega)
    cases hb : hasB c (restN c t n) with
    | false =>
      rw [(cut_no hb).2.2] at ih
      have := congrArg List.length ih
      rw [List.length_drop] at this
      simp at this
      omega
    | true =>
      obtain ⟨_, _, h3, h4⟩ := cut_at hb
      rw [h3] at ih
      refine ⟨?_, by show (aft c (restN c t n)).size ≤ _; omega⟩
      have := congrArg List.tail ih
      rw [List.tail_cons, List.tail_drop] at this
      exact this
theorem rest_at {c : UInt8} {t : ByteArray} {n : Nat} (h : n < (pieces c t).length) : (pieces c t)[n]? = some (bef c (restN c t n)) ∧ hasB c (restN c t n) = decide (n + 1 < (pieces c t).length) := by
  obtain ⟨ih, hz⟩ := rest_pieces n h
  have hl := congrArg List.length ih
  rw [List.length_drop] at hl
  have h0 := congrArg (fun l => l[0]?) ih
  simp only [List.getElem?_drop, Nat.add_zero] at h0
  rw [← h0]
  cases hb : hasB c (restN c t n) with
  | false =>
    obtain ⟨e1, _, e3⟩ := cut_no hb
    rw [e3] at hl ⊢
    rw [e1]
    refine ⟨rfl, (decide_eq_false ?_).symm⟩
    simp at hl
    omega
  | true =>
    obtain ⟨_, _, h3, h4⟩ := cut_at hb
    rw [h3] at hl ⊢
    refine ⟨rfl, (decide_eq_true ?_).symm⟩
    have := List.length_pos_iff.2 (pieces_ne c (aft c (restN c t n)))
    simp at hl
    omega
theorem pieces_pos (c : UInt8) (t : ByteArray) : 0 < (pieces c t).length := List.length_pos_iff.2 (pieces_ne c t)
theorem pieces_le (c : UInt8) (t : ByteArray) : (pieces c t).length ≤ t.size + 1 := by
  rw [pieces_len]
  have : (bts t).count c ≤ (bts t).length := List.count_le_length
  rw [bts_len] at this
  omega
theorem piece_size {c : UInt8} {t x : ByteArray} (h : x ∈ pieces c t) : x.size ≤ t.size := by
  obtain ⟨n, hn, rfl⟩ := List.mem_iff_getElem.1 h
  have h1 := (rest_at hn).1
  rw [List.getElem?_eq_getElem hn] at h1
  have h2 := (rest_pieces n hn).2
  rw [Option.some.inj h1]
  cases hb : hasB c (restN c t n) with
  | false => rw [(cut_no hb).1]; exact h2
  | true => have := (cut_at hb).2.2.2; omega
theorem has_idx {c : UInt8} {t : ByteArray} (h : hasB c t = true) : ∃ m : Nat, Lib.indexByte (bts t) c = m ∧ m < t.size ∧ bef c t = t.extract 0 m ∧ aft c t = t.extract (m + 1) t.size := by
  have h' := of_decide_eq_true h
  obtain ⟨m, h1, h2, h3, h4⟩ := idx_at h'
  refine ⟨m, h1, by rw [← bts_len]; exact h2, ?_, ?_⟩
  · unfold bef
    rw [if_pos h', h1]
    rfl
  · unfold aft
    rw [if_pos h', h1]
    rfl
theorem no_idx {c : UInt8} {t : ByteArray} (h : hasB c t = false) : Lib.indexByte (bts t) c = -1 := idx_no (of_decide_eq_false h)

theorem seq59 (t : ByteArray) (c : UInt8) (ht : t.size ≤ 1000000) (yl k m0 : Nat) (I : Nat → ByteArray → List Blk → Prop) (St : List Blk → Prop) (hlen : ∀ n b h, I n b h → h.length = m0) (hst : ∀ h, St h → h.length = m0)
    (hI : ∀ n b h, I n b h → h[k]? = some (.cells 9 [.s b]) ∧ h[k + 1]? = some (.cells 9 [.s ⟨#[c]⟩]) ∧ h[k + 2]? = some (.cells 3 [.i 0]))
    (hset : ∀ n b b' h, I n b h → I n b' (h.set k (.cells 9 [.s b'])))
    (hy : ∀ n x b h r (K : AV → List Blk → Prop), (pieces c t)[n]? = some x → I n b h → (∀ h' r', I (n + 1) b h' → K (.b true) (h' ++ (r ++ r'))) → (∀ h' r', St h' → K (.b false) (h' ++ (r ++ r'))) → YCall Tryz.prog yl [.s x] (h ++ r) K)
    {h : List Blk} {K : AV → List Blk → Prop} (h0 : I 0 t h) (hT : ∀ b h' r', I (pieces c t).length b h' → K (.tup []) (h' ++ r')) (hF : ∀ h' r', St h' → K (.tup []) (h' ++ r')) :
    ACall Tryz.prog 65 [.fn (.yield yl) [] [], .ptr (k + 1) 0, .ptr k 0, .ptr (k + 2) 0] h K := by
  obtain ⟨a0, a1, a2⟩ := hI _ _ _ h0
  refine acallK_of_vc tabOK Tryz.func65 (by kernel_rfl) rfl (n := 52) rfl (rs := []) rfl ?_
  simp only [go_sem, a0, a1, a2]
  refine brK_dec (fun q => absurd (show ((⟨#[c]⟩ : ByteArray).size : Int) = 0 from q) (by rw [one_size]; decide)) (fun _ => ?_)
  simp only [go_sem]
  refine loop_fr [7, 8, 29, 30, 31, 32, 33, 34, 35, 36, 37, 38, 39, 40, 41, 42, 43, 44, 45, 46, 47, 48] (fun m C hh => ∃ (n : Nat) (h' r' : List Blk), n < (pieces c t).length ∧ m = (pieces c t).length - n ∧ I n (restN c t n) h' ∧ C = [] ∧ hh = h' ++ r') (pieces c t).length _ ⟨0, h, [], pieces_pos c t, by omega, h0, rfl, by simp⟩ .nil ?_
  rintro m C j hh ⟨n, h', r', hn, rfl, hIn, rfl, rfl⟩
  obtain ⟨b0, b1, b2⟩ := hI _ _ _ hIn
  have hl := hlen _ _ _ hIn
  have hk : k + 2 < h'.length := (List.getElem?_eq_some_iff.1 b2).1
  have c0 : (h' ++ r')[k]? = some (.cells 9 [.s (restN c t n)]) := by rw [List.getElem?_append_left (by omega)]; exact b0
  have c1 : (h' ++ r')[k + 1]? = some (.cells 9 [.s ⟨#[c]⟩]) := by rw [List.getElem?_append_left (by omega)]; exact b1
  have c2 : (h' ++ r')[k + 2]? = some (.cells 3 [.i 0]) := by rw [List.getElem?_append_left (by omega)]; exact b2
  obtain ⟨hp1, hp2⟩ := rest_at hn
  obtain ⟨_, hz⟩ := rest_pieces n hn
  simp only [go_sem, c0, c1, c2]
  refine PCall.call (index27 (restN c t n) c) ?_
  cases hb : hasB c (restN c t n) with
  | false =>
    rw [no_idx hb]
    simp only [go_sem, c0, c1, c2]
    have hnl : n + 1 = (pieces c t).length := by
      rw [hb] at hp2
      have := of_decide_eq_false hp2.symm
      omega
    rw [(cut_no hb).1] at hp1
    refine hy n _ _ h' r' _ hp1 hIn (fun h2 r2 hI2 => ?_) (fun h2 r2 hS2 => ?_)
    · simp only [go_sem]
      rw [hnl] at hI2
      exact ⟨[], rfl, .tup [], .refl _, hT _ _ _ hI2⟩
    · simp only [go_sem]
      exact ⟨[], rfl, .tup [], .refl _, hF _ _ hS2⟩
  | true =>
    have hnl : n + 1 < (pieces c t).length := by
      rw [hb] at hp2
      exact of_decide_eq_true hp2.symm
    obtain ⟨i, i1, i2, i3, i4⟩ := has_idx hb
    rw [i1]
    have hw4 : IntKind.i64.wrap ((i : Int) + 0) = (i : Int) := by rw [wrap_in _ (by omega) (by omega)]; omega
    have hw5 : IntKind.i64.wrap ((i : Int) + ((1 : Nat) : Int)) = ((i + 1 : Nat) : Int) := by rw [wrap_in _ (by omega) (by omega)]; omega
    simp only [go_sem]
    refine brK_dec (fun q => by exfalso; omega) (fun _ => ?_)
    simp only [go_sem, c0, c1, c2, hw4, Int.toNat_natCast]
    refine And.intro (by first | omega | (simp; omega)) ?_
    rw [i3] at hp1
    refine hy n _ _ h' r' _ hp1 hIn (fun h2 r2 hI2 => ?_) (fun h2 r2 hS2 => ?_)
    · obtain ⟨d0, d1, d2⟩ := hI _ _ _ hI2
      have hl2 := hlen _ _ _ hI2
      have e0 : (h2 ++ (r' ++ r2))[k]? = some (.cells 9 [.s (restN c t n)]) := by rw [List.getElem?_append_left (by omega)]; exact d0
      have e1 : (h2 ++ (r' ++ r2))[k + 1]? = some (.cells 9 [.s ⟨#[c]⟩]) := by rw [List.getElem?_append_left (by omega)]; exact d1
      simp only [go_sem, e0, e1, one_size, hw5, Int.toNat_natCast]
      refine And.intro (by first | omega | (simp; omega)) ?_
      refine loopFr _ (by omega) ⟨n + 1, h2.set k (.cells 9 [.s (restN c t (n + 1))]), r' ++ r2, hnl, rfl, hset _ _ _ _ hI2, rfl, ?_⟩ (.nil) rfl
      show _ = _
      rw [show restN c t (n + 1) = aft c (restN c t n) from rfl, i4, List.set_append_left _ _ (by omega)]
    · simp only [go_sem]
      exact ⟨[], rfl, .tup [], .refl _, hF _ _ hS2⟩
abbrev seqBx (c : UInt8) (b : ByteArray) : List Blk := [.cells 9 [.s b], .cells 9 [.s ⟨#[c]⟩], .cells 3 [.i 0]]

theorem splitSeq39 (t : ByteArray) (c : UInt8) {h : List Blk} {K : AV → List Blk → Prop} (hK : K (.fn (.func 65) [] [.ptr (h.length + 1) 0, .ptr h.length 0, .ptr (h.length + 2) 0]) (h ++ seqBx c t)) : ACall Tryz.prog 53 [.s t, .s ⟨#[c]⟩, .i 0] h K := by
  refine acallK_of_vc tabOK Tryz.func53 (by kernel_rfl) rfl (n := 8) rfl (rs := [.tmp 6]) rfl ?_
  simp only [go_sem]
  exact finK rfl hK

theorem splitSeq23 (t : ByteArray) (c : UInt8) {h : List Blk} {K : AV → List Blk → Prop} (hK : K (.fn (.func 65) [] [.ptr (h.length + 1) 0, .ptr h.length 0, .ptr (h.length + 2) 0]) (h ++ seqBx c t)) : ACall Tryz.prog 32 [.s t, .s ⟨#[c]⟩] h K := by
  refine acallK_of_vc tabOK Tryz.func32 (by kernel_rfl) rfl (n := 8) rfl (rs := [.tmp 4]) rfl ?_
  simp only [go_sem]
  refine splitSeq39 t c ?_
  simp only [go_sem]
  exact finK rfl hK
/-- A range over the pieces of a text. H: what lies ahead of the boxes and the loop's record behind so many rounds, G: behind it; Inv: what holds then; Hs: where a round has returned. -/
theorem seq_range (t : ByteArray) (c : UInt8) (ht : t.size ≤ 1000000) {ps : Array Tmp} {x y : Code} {s : List AV} {l : Nat} {Q : Post} (m g : Nat) (Inv : Nat → Prop) (H G : Nat → List Blk) (Hs : List Blk → Prop) (hH : ∀ n, (H n).length = m) (hG : ∀ n, (G n).length = g) (hHs : ∀ h, Hs h → h.length = m) (hps : ps.size = 1) (hx : noR x = true) (hy : noR y = true) (h0 : Inv 0)
    (hbody : ∀ (n : Nat) (z b : ByteArray) (r : List Blk) (K : AV → List Blk → Prop), (pieces c t)[n]? = some z → Inv n → (Inv (n + 1) → ∀ r', K (.b true) (H (n + 1) ++ (seqBx c b ++ (.lp l .ready none ps x y s :: (G (n + 1) ++ (r ++ r')))))) → (∀ h' r', Hs h' → K (.b false) (h' ++ (seqBx c b ++ (.lp l .done (some .ret) ps x y s :: (G n ++ (r ++ r')))))) →
      vc Tryz.prog ti x (roundA Tryz.prog ti l (m + 3) ps x y s K) (setPs s ps.toList [.s z]) (H n ++ (seqBx c b ++ (.lp l .ready none ps x y s :: (G n ++ r)))))
    (hn : ∀ b r, Inv (pieces c t).length → Q .normal s (H (pieces c t).length ++ (seqBx c b ++ (.dead :: (G (pieces c t).length ++ r))))) (hr : ∀ n b h' r, Hs h' → Q .ret s (h' ++ (seqBx c b ++ (.dead :: (G n ++ r))))) :
    ACall Tryz.prog 65 [.fn (.yield l) [] [], .ptr (m + 1) 0, .ptr m 0, .ptr (m + 2) 0] (H 0 ++ (seqBx c t ++ (.lp l .ready none ps x y s :: G 0))) (fun _ h' => loopEnd Q s (m + 3) h') := by
  have hat : ∀ (n : Nat) (A B : List Blk) (b : ByteArray) (z : Blk), A.length = m → (A ++ (seqBx c b ++ (z :: B)))[m]? = some (.cells 9 [.s b]) ∧ (A ++ (seqBx c b ++ (z :: B)))[m + 1]? = some (.cells 9 [.s ⟨#[c]⟩]) ∧ (A ++ (seqBx c b ++ (z :: B)))[m + 2]? = some (.cells 3 [.i 0]) ∧ (A ++ (seqBx c b ++ (z :: B)))[m + 3]? = some z := fun n A B b z hA => by
    subst hA
    refine ⟨?_, ?_, ?_, ?_⟩ <;> rw [List.getElem?_append_right (by omega)] <;> simp
  have hst3 : ∀ (A B : List Blk) (b : ByteArray) (z z' : Blk), A.length = m → (A ++ (seqBx c b ++ (z :: B))).set (m + 3) z' = A ++ (seqBx c b ++ (z' :: B)) := fun A B b z z' hA => by
    subst hA
    rw [List.set_append_right _ _ (by omega), show A.length + 3 - A.length = 3 by omega]
    rfl
  have hst0 : ∀ (A B : List Blk) (b b' : ByteArray), A.length = m → (A ++ (seqBx c b ++ B)).set m (.cells 9 [.s b']) = A ++ (seqBx c b' ++ B) := fun A B b b' hA => by
    subst hA
    rw [List.set_append_right _ _ (by omega), Nat.sub_self]
    rfl
  refine seq59 t c ht l m (m + 4 + g) (fun n b h => Inv n ∧ h = H n ++ (seqBx c b ++ (.lp l .ready none ps x y s :: G n))) (fun h => ∃ n b h', Hs h' ∧ h = h' ++ (seqBx c b ++ (.lp l .done (some .ret) ps x y s :: G n))) ?_ ?_ ?_ ?_ ?_ ⟨h0, rfl⟩ ?_ ?_
  · rintro n b h ⟨_, rfl⟩
    have h1 := hH n
    have h2 := hG n
    simp
    omega
  · rintro h ⟨n, b, h', hs, rfl⟩
    have h1 := hHs h' hs
    have h2 := hG n
    simp
    omega
  · rintro n b h ⟨_, rfl⟩
    obtain ⟨q1, q2, q3, _⟩ := hat n (H n) (G n) b (.lp l .ready none ps x y s) (hH n)
    exact ⟨q1, q2, q3⟩
  · rintro n b b' h ⟨hi, rfl⟩
    exact ⟨hi, hst0 _ _ _ _ (hH n)⟩
  · rintro n z b h r K hz ⟨hi, rfl⟩ hK1 hK2
    rw [List.append_assoc, List.append_assoc, List.cons_append]
    refine ycall_of_vc tabOK (k := m + 3) (ps := ps) (x := x) (y := y) (s := s) ?_ (by simp [hps]) hx hy (hbody n z b r K hz hi (fun hi' r' => ?_) (fun h' r' hs => ?_))
    · exact (hat n (H n) (G n ++ r) b _ (hH n)).2.2.2
    · have := hK1 _ r' ⟨hi', rfl⟩
      rwa [List.append_assoc, List.append_assoc, List.cons_append] at this
    · have := hK2 _ r' ⟨n, b, h', hs, rfl⟩
      rwa [List.append_assoc, List.append_assoc, List.cons_append] at this
  · rintro b h' r' ⟨hi, rfl⟩
    have e : (H (pieces c t).length ++ (seqBx c b ++ (Blk.lp l .ready none ps x y s :: G (pieces c t).length))) ++ r' = H (pieces c t).length ++ (seqBx c b ++ (Blk.lp l .ready none ps x y s :: (G (pieces c t).length ++ r'))) := by simp
    rw [e]
    unfold loopEnd
    rw [(hat 0 _ _ b _ (hH _)).2.2.2, hst3 _ _ _ _ _ (hH _)]
    exact hn b r' hi
  · rintro h r' ⟨n, b, h', hs, rfl⟩
    have e : (h' ++ (seqBx c b ++ (Blk.lp l .done (some .ret) ps x y s :: G n))) ++ r' = h' ++ (seqBx c b ++ (Blk.lp l .done (some .ret) ps x y s :: (G n ++ r'))) := by simp
    rw [e]
    unfold loopEnd
    rw [(hat 0 _ _ b _ (hHs _ hs)).2.2.2, hst3 _ _ _ _ _ (hHs _ hs)]
    exact hr n b h' r' hs
theorem mapO_at {α β : Type} {f : α → Option β} {l : List α} {n : Nat} {z : α} {v : β} {out : List β} (hz : l[n]? = some z) (hi : mapO f (l.take n) = some out) (hf : f z = some v) : mapO f (l.take (n + 1)) = some (out ++ [v]) := by
  rw [List.take_add_one, hz]
  exact mapO_snoc hi hf
theorem mapO_bad {α β : Type} {f : α → Option β} {l : List α} {n : Nat} {z : α} (hz : l[n]? = some z) (hf : f z = none) : mapO f l = none := by
  obtain ⟨h, rfl⟩ := List.getElem?_eq_some_iff.1 hz
  have e : l = l.take n ++ l[n] :: l.drop (n + 1) := by rw [← List.drop_eq_getElem_cons h, List.take_append_drop]
  rw [e]
  exact mapO_no hf
theorem weak_t2 {a b c d : AV} (h : Weak a c) (h' : Weak b d) : Weak (.tup [a, b]) (.tup [c, d]) := .tup _ _ (WeakL.at (azs := [a, b]) (bs := [c, d]) ⟨h, h', trivial⟩).1 (WeakL.at (azs := [a, b]) (bs := [c, d]) ⟨h, h', trivial⟩).2
/-- Values, and whether there are any. -/
def ilA (o : Option (List Int)) : AV := .tup [.lst 1 ((o.getD []).map AV.i) none, .b o.isSome]
theorem ilA_none : ilA none = .tup [.lst 1 [] none, .b false] := rfl
theorem ilA_some (l : List Int) : ilA (some l) = .tup [.lst 1 (l.map AV.i) none, .b true] := rfl
theorem ilA_pure (o : Option (List Int)) : Go.Abs.Pure (ilA o) := .tup _ (pure_cons (pure_ints _) (pure_cons (.raw _) pure_nil))
abbrev outV (t : ByteArray) (n : Nat) : List Int := (mapO numB ((pieces 44 t).take n)).getD []

theorem value52 (t : ByteArray) (ht : t.size ≤ 100000) : PCall Tryz.prog 33 [.s t] (ilA (valueB t)) := by
  refine pcall_of_vc tabOK Tryz.func33 (by kernel_rfl) rfl (by first | exact pureL | exact pureI) (ilA_pure _) (n := 23) rfl (rs := [.cell 2 38, .cell 3 4]) rfl ?_
  simp only [go_sem]
  refine splitSeq23 t 44 ?_
  simp only [go_sem]
  intro l
  refine acall_gh (ghost_cell 2 0 2 1 rfl rfl) ?_
  refine seq_range t 44 (by omega) 3 1 (fun n => mapO numB ((pieces 44 t).take n) = some (outV t n)) (fun n => [.cells 38 [.raw (.slice none 0 0)], .cells 4 [.b false], .cells 38 [.lst 1 ((outV t n).map AV.i) (some 7)]]) (fun n => [.tok 2 1 (outV t n).length])
    (fun h => valueB t = none ∧ ∃ o, h = [.cells 38 [.raw (.slice none 0 0)], .cells 4 [.b false], .cells 38 [.lst 1 o (some 7)]]) (fun _ => rfl) (fun _ => rfl) (fun h ⟨_, o, e⟩ => by rw [e]; rfl) rfl rfl rfl rfl (fun n z b r K hz hi hK1 hK2 => ?_) (fun b r hi => ?_) (fun n b h' r hs => ?_)
  · have hzs : z.size ≤ t.size := piece_size (List.mem_of_getElem? hz)
    have hlen := mapO_len hi
    rw [List.length_take] at hlen
    have hpl := pieces_le 44 t
    simp only [go_sem, setPs, roundA]
    try refine ⟨rfl, ?_⟩
    try simp only [go_sem]
    refine PCallE.call (number55 z (by omega)) ?_
    rintro r0 ⟨m, bb, rfl, hI, hR⟩
    unfold NumR at hR
    cases hnz : numB z with
    | none =>
      rw [hnz] at hR
      subst hR
      have hno : valueB t = none := mapO_bad hz hnz
      simp only [go_sem, roundB]
      try refine ⟨rfl, ?_⟩
      have := hK2 _ [] ⟨hno, (outV t n).map AV.i, rfl⟩
      simpa using this
    | some v =>
      rw [hnz] at hR
      obtain ⟨rfl, rfl⟩ := hR
      have hnx := mapO_at hz hi hnz
      have hov : outV t (n + 1) = outV t n ++ [m] := by
        show (mapO numB ((pieces 44 t).take (n + 1))).getD [] = _
        rw [hnx]
        rfl
      have hK1 := hK1 (by rw [hov]; exact hnx)
      simp only [go_sem, roundB]
      try refine And.intro (by first | omega | (simp; omega)) ?_
      try simp only [go_sem, roundB]
      try refine ⟨rfl, ?_⟩
      have := hK1 [.tok 2 1 1]
      rw [hov] at this
      simpa using this
  · have he : valueB t = some (outV t (pieces 44 t).length) := by
      rw [List.take_of_length_le (Nat.le_refl _)] at hi
      exact hi
    rw [he]
    simp only [go_sem]
    exact ⟨_, rfl, false, weak_t2 (.tok _ _ _) (.refl _)⟩
  · obtain ⟨hno, o, rfl⟩ := hs
    rw [hno]
    simp only [go_sem]
    exact ⟨_, rfl, false, weak_t2 (.nil _) (.refl _)⟩
/-- An operation, and whether there is one. -/
def opA (o : Option DOp) : AV := .tup [(o.getD noOp).enc, .b o.isSome]
theorem opA_none : opA none = .tup [noOp.enc, .b false] := rfl
theorem opA_some (o : DOp) : opA (some o) = .tup [o.enc, .b true] := rfl
theorem opA_pure (o : Option DOp) : Go.Abs.Pure (opA o) := .tup _ (pure_cons (DOp.pure _) (pure_cons (.raw _) pure_nil))
theorem weak_aggs {cs ds : List AV} (h : WeakL cs ds) : Weak (.agg cs) (.agg ds) := .agg cs ds h.at.1 h.at.2
abbrev insV (t : ByteArray) (n : Nat) : List (List Int) := (mapO valueB ((pieces 32 t).take n)).getD []
abbrev zOp : List AV := [.i 0, .s ⟨#[]⟩, .b false, .raw (.slice none 0 0), .s ⟨#[]⟩, .i 0, .raw (.slice none 0 0), .i 0]
abbrev sOp (l : List AV) (k : Nat) : List AV := [.i 2, .s ⟨#[]⟩, .b false, .raw (.slice none 0 0), .s ⟨#[]⟩, .i 0, .lst 1 l (some k), .i 0]
theorem weak_noOp : Weak (.agg zOp) noOp.enc := by
  rw [DOp.enc_eq]
  exact weak_aggs ⟨.refl _, .refl _, .refl _, .nil _, .refl _, .refl _, .nil _, .refl _, trivial⟩
theorem weak_stepOp (l : List (List Int)) (k : Nat) : Weak (.agg (sOp (l.map AV.il) k)) (DOp.enc ⟨2, noAsk, l, 0⟩) := by
  rw [DOp.enc_eq]
  exact weak_aggs ⟨.refl _, .refl _, .refl _, .nil _, .refl _, .refl _, .tok _ _ _, .refl _, trivial⟩

theorem step31 (t : ByteArray) (ht : t.size ≤ 100000) : PCall Tryz.prog 15 [.s t] (opA (stepF t)) := by
  refine pcall_of_vc tabOK Tryz.func15 (by kernel_rfl) rfl (by first | exact pureL | exact pureI) (opA_pure _) (n := 27) rfl (rs := [.cell 2 27, .cell 3 4]) rfl ?_
  simp only [go_sem]
  refine splitSeq23 t 32 ?_
  simp only [go_sem]
  intro l
  refine acall_gh (ghost_cell 2 6 38 1 rfl rfl) ?_
  refine seq_range t 32 (by omega) 3 1 (fun n => mapO valueB ((pieces 32 t).take n) = some (insV t n)) (fun n => [.cells 27 zOp, .cells 4 [.b false], .cells 27 (sOp ((insV t n).map AV.il) 7)]) (fun n => [.tok 38 1 (insV t n).length])
    (fun h => mapO valueB (pieces 32 t) = none ∧ ∃ o, h = [.cells 27 zOp, .cells 4 [.b false], .cells 27 o]) (fun _ => rfl) (fun _ => rfl) (fun h ⟨_, o, e⟩ => by rw [e]; rfl) rfl rfl rfl rfl (fun n z b r K hz hi hK1 hK2 => ?_) (fun b r hi => ?_) (fun n b h' r hs => ?_)
  · have hzs : z.size ≤ t.size := piece_size (List.mem_of_getElem? hz)
    have hlen := mapO_len hi
    rw [List.length_take] at hlen
    have hpl := pieces_le 32 t
    simp only [go_sem, setPs, roundA]
    try refine ⟨rfl, ?_⟩
    try simp only [go_sem]
    refine PCall.call (value52 z (by omega)) ?_
    cases hnz : valueB z with
    | none =>
      have hno : mapO valueB (pieces 32 t) = none := mapO_bad hz hnz
      rw [ilA_none]
      simp only [go_sem, roundB]
      try refine ⟨rfl, ?_⟩
      have := hK2 _ [] ⟨hno, sOp ((insV t n).map AV.il) 7, rfl⟩
      simpa using this
    | some v =>
      have hnx := mapO_at hz hi hnz
      have hov : insV t (n + 1) = insV t n ++ [v] := by
        show (mapO valueB ((pieces 32 t).take (n + 1))).getD [] = _
        rw [hnx]
        rfl
      have hK1 := hK1 (by rw [hov]; exact hnx)
      rw [ilA_some]
      simp only [go_sem, roundB]
      try refine And.intro (by first | omega | (simp; omega)) ?_
      try simp only [go_sem, roundB]
      try refine ⟨rfl, ?_⟩
      have := hK1 [.tok 38 1 1]
      rw [hov] at this
      simpa using this
  · have he : stepF t = some ⟨2, noAsk, insV t (pieces 32 t).length, 0⟩ := by
      rw [List.take_of_length_le (Nat.le_refl _)] at hi
      unfold stepF
      rw [hi]
    rw [he]
    simp only [go_sem]
    exact ⟨_, rfl, false, weak_t2 (weak_stepOp _ _) (.refl _)⟩
  · obtain ⟨hno, o, rfl⟩ := hs
    have he : stepF t = none := by
      unfold stepF
      rw [hno]
    rw [he]
    simp only [go_sem]
    exact ⟨_, rfl, false, weak_t2 weak_noOp (.refl _)⟩
def sameB (a b : DOp) : Bool := decide (a.Kind = b.Kind) && decide (a.Fault = b.Fault) && decide (a.Ask.Text = b.Ask.Text) && decide (a.Ask.Bytes = b.Ask.Bytes) && decide (a.Ask.Image = b.Ask.Image) && decide (a.Ask.Moves = b.Ask.Moves) && decide (a.Ask.Fuel = b.Ask.Fuel) && decide (a.Ins = b.Ins)
theorem sameB_iff {a b : DOp} : sameB a b = true ↔ a = b := by
  constructor
  · intro h
    unfold sameB at h
    simp only [Bool.and_eq_true, decide_eq_true_eq] at h
    obtain ⟨⟨⟨⟨⟨⟨⟨h1, h2⟩, h3⟩, h4⟩, h5⟩, h6⟩, h7⟩, h8⟩ := h
    obtain ⟨k, ⟨t, y, i, m, f⟩, n, u⟩ := a
    obtain ⟨k', ⟨t', y', i', m', f'⟩, n', u'⟩ := b
    dsimp only at h1 h2 h3 h4 h5 h6 h7 h8
    subst h1 h2 h3 h4 h5 h6 h7 h8
    rfl
  · rintro rfl
    unfold sameB
    simp
theorem sameB_ne {a b : DOp} (h : a ≠ b) : sameB a b = false := by
  cases e : sameB a b with
  | false => rfl
  | true => exact absurd (sameB_iff.1 e) h
/-- The operation is not too great. -/
structure OpOK (o : DOp) : Prop where
  kind : I64 o.Kind
  fault : I64 o.Fault
  fuel : I64 o.Ask.Fuel
  text : o.Ask.Text.size ≤ 100000
  moves : o.Ask.Moves.size ≤ 100000
  imgs : o.Ask.Image.length ≤ 100000
  img : ∀ y ∈ o.Ask.Image, 0 ≤ y ∧ y ≤ 255
  insl : o.Ins.length ≤ 100000
  inl : ∀ v ∈ o.Ins, v.length ≤ 100000
  ins : ∀ v ∈ o.Ins, ∀ n ∈ v, I64 n
def imgL (l : List Int) : List UInt8 := l.map fun n => UInt8.ofNat n.toNat
theorem imgL_inj : ∀ {a b : List Int}, (∀ y ∈ a, 0 ≤ y ∧ y ≤ 255) → (∀ y ∈ b, 0 ≤ y ∧ y ≤ 255) → imgL a = imgL b → a = b
  | [], [], _, _, _ => rfl
  | [], _ :: _, _, _, h => by simp [imgL] at h
  | _ :: _, [], _, _, h => by simp [imgL] at h
  | x :: a, y :: b, ha, hb, h => by
    simp only [imgL, List.map_cons, List.cons.injEq] at h
    have h1 := congrArg UInt8.toNat h.1
    rw [UInt8.toNat_ofNat', UInt8.toNat_ofNat'] at h1
    have hx := ha x List.mem_cons_self
    have hy := hb y List.mem_cons_self
    have : x = y := by omega
    subst this
    rw [imgL_inj (fun z hz => ha z (List.mem_cons_of_mem _ hz)) (fun z hz => hb z (List.mem_cons_of_mem _ hz)) h.2]
/-- A number's text has no comma. -/
theorem dig_no {n : Int} (h : I64 n) {c : UInt8} (hc : c ≠ 45) (hd : isDg c = false) : c ∉ bts (digB n) := num_no (num_dig n h) hc hd
theorem pieces_join {c : UInt8} : ∀ {l : List ByteArray}, l ≠ [] → (∀ x ∈ l, c ∉ bts x) → pieces c (joinB l ⟨#[c]⟩) = l
  | [], h, _ => absurd rfl h
  | [x], _, h => by
    rw [joinB_one]
    exact pieces_no (h x List.mem_cons_self)
  | x :: y :: l, _, h => by
    have e := joinB_c x (y :: l) ⟨#[c]⟩ (by simp)
    obtain ⟨h1, h2, h3⟩ := cut_uniq (c := c) (t := joinB (x :: y :: l) ⟨#[c]⟩) (a := bts x) (b := bts (joinB (y :: l) ⟨#[c]⟩)) e (h x List.mem_cons_self)
    rw [(cut_at h1).2.2.1, bts_inj h2, bts_inj h3, pieces_join (by simp) (fun z hz => h z (List.mem_cons_of_mem _ hz))]
theorem mapO_digs : ∀ {v : List Int}, (∀ n ∈ v, I64 n) → mapO numB (v.map digB) = some v
  | [], _ => rfl
  | n :: v, h => by
    simp only [List.map_cons, mapO, num_dig n (h n List.mem_cons_self), mapO_digs (fun m hm => h m (List.mem_cons_of_mem _ hm))]
theorem value_row {v : List Int} (h : ∀ n ∈ v, I64 n) (hne : v ≠ []) : valueB (rowT v) = some v := by
  unfold valueB rowT rowJ
  rw [if_neg hne, pieces_join (by simpa using hne) (fun x hx => by
    obtain ⟨n, hn, rfl⟩ := List.mem_map.1 hx
    exact dig_no (h n hn) (by decide) (by decide))]
  exact mapO_digs h
theorem value_dash : valueB ⟨#[45]⟩ = none := by decide +kernel
theorem row_inj {v u : List Int} (hv : ∀ n ∈ v, I64 n) (hu : ∀ n ∈ u, I64 n) (h : rowT v = rowT u) : v = u := by
  by_cases h1 : v = []
  · by_cases h2 : u = []
    · rw [h1, h2]
    · have := value_row hu h2
      rw [← h, h1, show rowT [] = ⟨#[45]⟩ from rfl, value_dash] at this
      cases this
  · have e1 := value_row hv h1
    by_cases h2 : u = []
    · rw [h, h2, show rowT [] = ⟨#[45]⟩ from rfl, value_dash] at e1
      cases e1
    · rw [h, value_row hu h2] at e1
      exact (Option.some.inj e1).symm
theorem value_len {t : ByteArray} {v : List Int} (h : valueB t = some v) : v.length ≤ t.size + 1 := by
  rw [mapO_len h]
  exact pieces_le 44 t
theorem i64k (n : Nat) (h : n ≤ 9223372036854775807) : I64 (n : Int) := ⟨by omega, by omega⟩
theorem i0 : I64 0 := i64k 0 (by omega)
theorem z0 : (⟨#[]⟩ : ByteArray).size ≤ 100000 := Nat.zero_le _
theorem n0 {p : Int → Prop} : ∀ y ∈ ([] : List Int), p y := fun y hy => absurd hy List.not_mem_nil
theorem n1 {p : List Int → Prop} : ∀ y ∈ ([] : List (List Int)), p y := fun y hy => absurd hy List.not_mem_nil
theorem step_ok {u : ByteArray} {o : DOp} (hu : u.size ≤ 50000) (h : stepF u = some o) : OpOK o := by
  unfold stepF at h
  split at h
  · cases h
  · rename_i l hl
    cases h
    have hle := mapO_len hl
    have hpl := pieces_le 32 u
    have hm : ∀ v ∈ l, v.length ≤ 100000 ∧ ∀ n ∈ v, I64 n := fun v hv => by
      obtain ⟨x, hx, e⟩ := mapO_mem hl v hv
      have h1 := value_len e
      have h2 := piece_size hx
      exact ⟨by omega, (value_ok e).2.2⟩
    exact ⟨i64k 2 (by omega), i0, i0, z0, z0, Nat.zero_le _, n0, (by show l.length ≤ 100000; omega), fun v hv => (hm v hv).1, fun v hv => (hm v hv).2⟩
theorem cont_ok {a b : DAsk} {s : ByteArray} {w : Bool} (hs : s.size ≤ 50000) (ht : a.Text.size ≤ 100000) (him : a.Image = []) (h : contF a s w = some b) : b.Text.size ≤ 100000 ∧ b.Moves = a.Moves ∧ b.Fuel = a.Fuel ∧ b.Image.length ≤ 100000 ∧ ∀ y ∈ b.Image, 0 ≤ y ∧ y ≤ 255 := by
  unfold contF at h
  split at h
  · split at h
    · cases h
    · rename_i l hl
      cases h
      obtain ⟨h1, h2⟩ := oct_bytes _ _ _ (Nat.le_refl _) hl
      rw [bts_len] at h1
      exact ⟨ht, rfl, rfl, by show l.length ≤ _; omega, h2⟩
  · cases h
    refine ⟨by show s.size ≤ _; omega, rfl, rfl, ?_, ?_⟩
    · show a.Image.length ≤ _
      rw [him]
      exact Nat.zero_le _
    · intro y hy
      change y ∈ a.Image at hy
      rw [him] at hy
      exact absurd hy List.not_mem_nil
theorem load_ok {u : ByteArray} {w : Bool} {o : DOp} (hu : u.size ≤ 50000) (h : loadF u w = some o) : OpOK o := by
  unfold loadF at h
  split at h
  · cases h
  · rename_i a ha
    cases h
    obtain ⟨h1, h2, h3, h4, h5⟩ := cont_ok hu z0 rfl ha
    exact ⟨i64k 1 (by omega), i0, (by show I64 a.Fuel; rw [h3]; exact i0), h1, (by show a.Moves.size ≤ _; rw [h2]; exact z0), h4, h5, Nat.zero_le _, n1, n1⟩
theorem aft_le (c : UInt8) (t : ByteArray) : (aft c t).size ≤ t.size := by
  cases h : hasB c t with
  | false => rw [(cut_no h).2.1]; exact Nat.zero_le _
  | true => have := (cut_at h).2.2.2; omega
theorem bef_le (c : UInt8) (t : ByteArray) : (bef c t).size ≤ t.size := by
  cases h : hasB c t with
  | false => rw [(cut_no h).1]; exact Nat.le_refl _
  | true => have := (cut_at h).2.2.2; omega
theorem upd_ok {u : ByteArray} {w : Bool} {o : DOp} (hu : u.size ≤ 50000) (h : updF u w = some o) : OpOK o := by
  unfold updF at h
  split at h
  · obtain ⟨fuel, fault, a, hf, hg, ha, rfl⟩ := updG_some h
    have z1 := aft_le 32 u
    have z2 := aft_le 32 (aft 32 u)
    have z3 := bef_le 124 (aft 32 (aft 32 u))
    have z4 := aft_le 124 (aft 32 (aft 32 u))
    obtain ⟨h1, h2, h3, h4, h5⟩ := cont_ok (by omega) z0 rfl ha
    exact ⟨i64k 3 (by omega), (num_some hg).2.2, (by show I64 a.Fuel; rw [h3]; exact (num_some hf).2.2), h1, (by show a.Moves.size ≤ _; rw [h2]; show (bef 124 (aft 32 (aft 32 u))).size ≤ _; omega), h4, h5, Nat.zero_le _, n1, n1⟩
  · cases h
/-- What a line is, is not too great. -/
theorem line_ok {s : ByteArray} {o : DOp} (hs : s.size ≤ 50000) (h : lineF s = some o) : OpOK o := by
  have za := aft_le 32 s
  unfold lineF at h
  split at h
  · cases h
  · split at h
    · split at h
      · exact step_ok (by omega) h
      · split at h
        · exact load_ok (by omega) h
        · split at h
          · exact load_ok (by omega) h
          · split at h
            · exact upd_ok (by omega) h
            · split at h
              · exact upd_ok (by omega) h
              · cases h
    · split at h
      · cases h
        exact ⟨i64k 4 (by omega), i0, i0, z0, z0, Nat.zero_le _, n0, Nat.zero_le _, n1, n1⟩
      · split at h
        · cases h
          exact ⟨i64k 2 (by omega), i0, i0, z0, z0, Nat.zero_le _, n0, Nat.zero_le _, n1, n1⟩
        · cases h
theorem no_ok : OpOK noOp := ⟨i0, i0, i0, z0, z0, Nat.zero_le _, n0, Nat.zero_le _, n1, n1⟩
def blankT : ByteArray := ⟨#[32]⟩
/-- The line of a step. -/
def stepW (l : List (List Int)) : ByteArray := l.foldl (fun s v => s ++ (blankT ++ rowT v)) stepT
theorem stepW_next {l : List (List Int)} {i : Nat} {v : List Int} (h : l[i]? = some v) : stepW (l.take (i + 1)) = stepW (l.take i) ++ (blankT ++ rowT v) := by
  unfold stepW
  rw [List.take_add_one, h, List.foldl_append]
  rfl
def bodyW (o : DOp) : ByteArray := if o.Ask.Bytes = true then hexT o.Ask.Image else o.Ask.Text
def wordW (o : DOp) : ByteArray := if o.Kind = 3 then (if o.Ask.Bytes = true then patchT else updateT) else if o.Ask.Bytes = true then imageT else loadT
def partsW (o : DOp) : List ByteArray := if o.Kind = 3 then [digB o.Ask.Fuel, digB o.Fault, o.Ask.Moves ++ ⟨#[124]⟩] else [⟨#[]⟩]
def aheadW (o : DOp) : ByteArray := (wordW o ++ blankT) ++ joinB (partsW o) blankT
/-- The line of an operation. -/
def writtenP (o : DOp) : ByteArray := if o.Kind = 2 then stepW o.Ins else if o.Kind = 4 then stateT else aheadW o ++ bodyW o
theorem foldl_join : ∀ (l : List (List Int)) (s : ByteArray), l ≠ [] → bts (l.foldl (fun s v => s ++ (blankT ++ rowT v)) s) = bts s ++ (bts blankT ++ bts (joinB (l.map rowT) blankT))
  | [], _, h => absurd rfl h
  | [v], s, _ => by
    rw [List.foldl_cons, List.foldl_nil, List.map_cons, List.map_nil, joinB_one, app_bts, app_bts]
  | v :: u :: l, s, _ => by
    have e := joinB_c (rowT v) ((u :: l).map rowT) blankT (by simp)
    have e2 : List.map rowT (v :: u :: l) = rowT v :: List.map rowT (u :: l) := rfl
    rw [List.foldl_cons, foldl_join (u :: l) _ (by simp), app_bts, app_bts, e2, e]
    simp only [List.append_assoc]
theorem back_step {s : ByteArray} {x : DOp} (h : stepF s = some x) : x.Kind = 2 ∧ bts (writtenP x) = bts stepT ++ (bts blankT ++ bts s) := by
  unfold stepF at h
  split at h
  · cases h
  · rename_i l hl
    cases h
    refine ⟨rfl, ?_⟩
    have hm : l.map rowT = pieces 32 s := by
      revert hl
      generalize pieces 32 s = ps
      intro hl
      induction ps generalizing l with
      | nil => cases hl; rfl
      | cons p ps ih =>
        simp only [mapO] at hl
        split at hl
        · cases hl
        · rename_i b hb
          split at hl
          · cases hl
          · rename_i hl2
            cases hl
            rw [List.map_cons, ih _ hl2, (value_ok hb).1]
    have hne : l ≠ [] := fun q => by
      subst q
      exact absurd hm.symm (pieces_ne _ _)
    show bts (stepW l) = _
    unfold stepW
    rw [foldl_join l stepT hne, hm]
    rw [show blankT = (⟨#[32]⟩ : ByteArray) from rfl, join_pieces 32 _ s rfl]
/-- The line of an operation, and whether it has one. -/
def writeP (o : DOp) : ByteArray × Bool := match lineF (writtenP o) with
  | none => (⟨#[]⟩, false)
  | some x => if sameB x o = true then (writtenP o, true) else (⟨#[]⟩, false)
end Go.Proofs.YtfhhboohlblnfaaGreatDoor

namespace Go.Proofs.YtfhhboohlblnfaaGreatDoor
open Go.Abs
set_option maxRecDepth 20000
set_option linter.unusedSimpArgs false
set_option linter.unusedVariables false
set_option maxHeartbeats 1000000
attribute [local irreducible] vc vcOps vcStep vcGuard prK hrK gK gsK brK callK ElemK SeqK BlockK ScopeK OpsK CallK LoopK LoopGo finPost ACall PCall PCallE BCall vqOps vqStep vqGuard qrK heK pcK gqK gqsK QOpsK qcallK DrawK
theorem nn {p : Prop} (h : ¬ ¬ p) : p := Classical.byContradiction h
theorem img_eq {a b : DOp} (ha : OpOK a) (hb : OpOK b) (h : (⟨(a.Ask.Image.map fun n => UInt8.ofNat n.toNat).toArray⟩ : ByteArray) = ⟨(b.Ask.Image.map fun n => UInt8.ofNat n.toNat).toArray⟩) : a.Ask.Image = b.Ask.Image := by
  have h1 := congrArg (fun x : ByteArray => x.data.toList) h
  simp only [List.toList_toArray] at h1
  exact imgL_inj ha.img hb.img h1

theorem same14 (a b : DOp) (ha : OpOK a) (hb : OpOK b) : PCall Tryz.prog 10 [a.enc, b.enc] (.b (sameB a b)) := by
  refine pcall_of_vc tabOK Tryz.func10 (by kernel_rfl) rfl (by first | exact pureL | exact pureI) (.raw _) (n := 94) rfl (rs := [.tmp 4]) rfl ?_
  have hbn : (!(a.Ask.Bytes == b.Ask.Bytes)) = decide (¬ a.Ask.Bytes = b.Ask.Bytes) := by cases a.Ask.Bytes <;> cases b.Ask.Bytes <;> rfl
  have hla := ha.insl
  have hlb := hb.insl
  simp only [go_sem]
  simp only [List.append]
  repeat' first
    | simp only [go_sem, hbn]
    | refine gK_dec (fun _ => ?_) (fun _ => ?_)
    | refine brK_dec (fun _ => ?_) (fun _ => ?_)
    | (intro _)
    | (refine finBq rfl (sameB_ne ?_).symm; rintro rfl; contradiction)
  have h1 : a.Kind = b.Kind := nn ‹_›
  have h2 : a.Fault = b.Fault := nn ‹_›
  have h3 : a.Ask.Text = b.Ask.Text := nn ‹_›
  have h4 : a.Ask.Bytes = b.Ask.Bytes := nn ‹_›
  have h5 : a.Ask.Image = b.Ask.Image := img_eq ha hb (nn ‹_›)
  have h6 : a.Ask.Moves = b.Ask.Moves := nn ‹_›
  have h7 : a.Ask.Fuel = b.Ask.Fuel := nn ‹_›
  have h8 : (a.Ins.length : Int) = (b.Ins.length : Int) := nn ‹_›
  have hS : ∀ l, a.Ins = l → b.Ins = l → sameB a b = true := fun l q r => by
    unfold sameB
    simp [h1, h2, h3, h4, h5, h6, h7, q, r]
  refine loop_frH [4, 5, 74, 75, 76, 77, 78, 79, 80, 81, 82, 83, 84, 85, 86, 87, 88, 89, 90, 91, 92, 93] (fun m C => ∃ i : Nat, i ≤ a.Ins.length ∧ m = a.Ins.length - i ∧ a.Ins.take i = b.Ins.take i ∧ C = [(5, .raw (.int .i64 (i : Nat)))]) a.Ins.length _ ⟨0, by omega, by omega, rfl, rfl⟩ (.cons rfl .nil) ?_
  rintro m C j ⟨i, hi, rfl, htk, rfl⟩
  simp only [go_sem]
  intro _
  refine brK_dec (fun hlt => ?_) (fun hge => ?_)
  · obtain ⟨v, hv⟩ : ∃ v, a.Ins[i]? = some v := ⟨_, List.getElem?_eq_getElem (by omega)⟩
    obtain ⟨u, hu⟩ : ∃ u, b.Ins[i]? = some u := ⟨_, List.getElem?_eq_getElem (by omega)⟩
    have hvm := List.mem_of_getElem? hv
    have hum := List.mem_of_getElem? hu
    have cv := row20 v (ha.inl v hvm) (ha.ins v hvm)
    have cu := row20 u (hb.inl u hum) (hb.ins u hum)
    by_cases hvu : v = u
    · subst hvu
      have hnx : a.Ins.take (i + 1) = b.Ins.take (i + 1) := by rw [List.take_add_one, List.take_add_one, hv, hu, htk]
      repeat' first
        | simp only [go_sem]
        | refine drawK mo (by kernel_rfl) ?_
        | refine elemHave (x := v) (l := a.Ins) (by omega) (by simpa using hv) ?_
        | refine elemHave (x := v) (l := b.Ins) (by omega) (by simpa using hu) ?_
        | (refine pcK_of cv ?_)
        | refine And.intro (by first | omega | (simp; omega)) ?_
        | refine brK_dec (fun _ => ?_) (fun _ => ?_)
        | (exfalso; apply_assumption; rfl)
        | exact loopFrH _ (by omega) ⟨i + 1, by omega, rfl, hnx, rfl⟩ (.next rfl (by omega) .nil) rfl
    · have hne : ¬ rowT v = rowT u := fun q => hvu (row_inj (ha.ins v hvm) (hb.ins u hum) q)
      have hbad : sameB a b = false := sameB_ne (fun q => by
        subst q
        rw [hv] at hu
        exact hvu (Option.some.inj hu))
      rw [hbad]
      repeat' first
        | simp only [go_sem]
        | refine drawK mo (by kernel_rfl) ?_
        | refine elemHave (x := v) (l := a.Ins) (by omega) (by simpa using hv) ?_
        | refine elemHave (x := u) (l := b.Ins) (by omega) (by simpa using hu) ?_
        | (refine pcK_of cv ?_)
        | (refine pcK_of cu ?_)
        | refine And.intro (by first | omega | (simp; omega)) ?_
        | refine brK_dec (fun _ => ?_) (fun _ => ?_)
        | (exfalso; exact ‹¬ ¬ rowT v = rowT u› hne)
        | exact finBq rfl rfl
  · have hie : i = a.Ins.length := by omega
    rw [hie, List.take_length, List.take_of_length_le (by omega)] at htk
    simp only [go_sem]
    exact finBq rfl (hS _ htk rfl).symm
end Go.Proofs.YtfhhboohlblnfaaGreatDoor

/-
  The abstract layer, part Q: what is read as data is an abstract value.
-/
namespace Go.Abs
open Go.RowKit

def mkT (x : TI) (cs : List AV) : AV := match x.agg with | true => .agg cs | false => cs.headD (.tup [])

def FieldsTy (Q : TypeId → List AV → Prop) : List (Nat × TypeId) → List AV → Prop
  | [], cs => cs = []
  | f :: fs, cs => ∃ a b, cs = a ++ b ∧ Q f.2 a ∧ FieldsTy Q fs b

/-- A row of cells is data of a type, to a depth. -/
def Ty (T : TypeId → TI) : Nat → TypeId → List AV → Prop
  | 0, _, _ => False
  | n + 1, t, cs => match (T t).kind with
    | .bool => ∃ b, cs = [.raw (.bool b)]
    | .int k => ∃ m, cs = [.raw (.int k m)] ∧ (Lit.int k m).wf = true
    | .string => ∃ s : ByteArray, cs = [.raw (.string s)] ∧ s.size ≤ maxLen
    | .slice e => ∃ es : List (List AV), cs = [.lst (T e).size (es.map (mkT (T e))) none] ∧ es.length ≤ maxLen ∧ ∀ x ∈ es, Ty T n e x
    | .struct fs => FieldsTy (Ty T n) fs cs
    | .array m e => ∃ es : List (List AV), cs = es.flatten ∧ es.length = m ∧ ∀ x ∈ es, Ty T n e x
    | _ => False

def rowOK (T : TypeId → TI) : Nat → List (Nat × TypeId) → Nat → Bool
  | n, [], m => decide (n = m)
  | n, f :: fs, m => decide (f.1 = n) && rowOK T (n + (T f.2).size) fs m

/-- A list of types that holds what its types are made of, all of them data. -/
def closedT (T : TypeId → TI) (ts : List TypeId) : Bool :=
  ts.all fun t => match (T t).kind with
    | .bool | .int _ | .string => decide ((T t).size = 1)
    | .slice e => ts.contains e && decide ((T t).size = 1)
    | .struct fs => fs.all (fun f => ts.contains f.2) && rowOK T 0 fs (T t).size
    | .array m e => ts.contains e && decide ((T t).size = m * (T e).size)
    | _ => false

theorem mapM_at {α β : Type} {f : α → Option β} : ∀ {l : List α} {ys : List β}, l.mapM f = some ys → l.length = ys.length ∧ ∀ (i : Nat) x, l[i]? = some x → ∃ y, f x = some y := by
  intro l
  induction l with
  | nil => intro ys h; simp at h; subst h; exact ⟨rfl, fun i x hx => by simp at hx⟩
  | cons a l ih =>
    intro ys h
    rw [List.mapM_cons] at h
    cases ha : f a with
    | none => simp [ha] at h
    | some b =>
      cases hl : l.mapM f with
      | none => simp [ha, hl] at h
      | some bs =>
        simp [ha, hl] at h
        subst h
        obtain ⟨h1, h2⟩ := ih hl
        refine ⟨by simp [h1], fun i x hx => ?_⟩
        cases i with
        | zero => simp at hx; subst hx; exact ⟨b, ha⟩
        | succ i => exact h2 i x (by simpa using hx)

section
variable {P : Program} {T : TypeId → TI} {H : Type} {enc : TypeId × Value → H} {w : World} {φ : Nat → Loc}

abbrev Old (w : World) : Addr → Prop := fun a => a.block < w.heap.size

/-- Cells that are told by abstract ones. -/
def CellsAre (w : World) (φ : Nat → Loc) (azs : List AV) (cs : List Value) : Prop :=
  azs.length = cs.length ∧ ∀ (j : Nat) a v, azs[j]? = some a → cs[j]? = some v → C (Old w) w φ a v ∧ v.oneCell' = true

theorem CellsAre.nil : CellsAre w φ [] [] := ⟨rfl, fun j a v h => by simp at h⟩
theorem CellsAre.one {a : AV} {v : Value} (h : C (Old w) w φ a v) (h1 : v.oneCell' = true) : CellsAre w φ [a] [v] := by
  refine ⟨rfl, fun j b u hb hu => ?_⟩
  cases j with
  | zero => simp at hb hu; subst hb; subst hu; exact ⟨h, h1⟩
  | succ j => simp at hb
theorem CellsAre.append {azs bs : List AV} {cs ds : List Value} (h : CellsAre w φ azs cs) (k : CellsAre w φ bs ds) : CellsAre w φ (azs ++ bs) (cs ++ ds) := by
  refine ⟨by simp [h.1, k.1], fun j a v ha hv => ?_⟩
  rw [List.getElem?_append] at ha hv
  rw [← h.1] at hv
  split at ha
  · rename_i hj; rw [if_pos hj] at hv; exact h.2 j a v ha hv
  · rename_i hj; rw [if_neg hj] at hv; exact k.2 _ a v ha hv

theorem cellsOf_eq (hT : TabOK P T) {t : TypeId} (hk : (T t).kind ≠ .other) : P.cellsOf t = (T t).size := by
  obtain ⟨i, z, hi, hs, _⟩ := (hT t).known hk
  simp [Program.cellsOf, hi, hs]

theorem mkT_cells {n : Nat} {t : TypeId} {azs : List AV} (h : Ty T n t azs) : (mkT (T t) azs).cells = azs := by
  cases n with
  | zero => exact h.elim
  | succ n =>
    unfold Ty at h
    unfold mkT TI.agg
    cases hk : (T t).kind <;> simp only [hk] at h ⊢
    case bool => obtain ⟨b, rfl⟩ := h; rfl
    case int => obtain ⟨b, rfl, _⟩ := h; rfl
    case string => obtain ⟨b, rfl, _⟩ := h; rfl
    case slice => obtain ⟨es, rfl, _⟩ := h; rfl
    case struct => rfl
    case array => rfl

theorem cells_of {w : World} {base : Nat} {a : Addr} {n : Nat} {cs : List Value} (h : w.cells? base a n = some cs) : cs.length = n ∧ ∀ (j : Nat) v, cs[j]? = some v → w.cell? (a.add j) = some v := by
  unfold World.cells? at h
  split at h
  · have key : ∀ (l : List Nat) (cs : List Value), l.mapM (fun i => w.cell? (a.add i)) = some cs → cs.length = l.length ∧ ∀ (j : Nat) v, cs[j]? = some v → ∃ i, l[j]? = some i ∧ w.cell? (a.add i) = some v := by
      intro l
      induction l with
      | nil => intro cs h; simp at h; subst h; exact ⟨rfl, fun j v hv => by simp at hv⟩
      | cons i l ih =>
        intro cs h
        rw [List.mapM_cons] at h
        cases hi : w.cell? (a.add i) with
        | none => simp [hi] at h
        | some u =>
          cases hl : l.mapM (fun i => w.cell? (a.add i)) with
          | none => simp [hi, hl] at h
          | some us =>
            simp [hi, hl] at h
            subst h
            obtain ⟨h1, h2⟩ := ih us hl
            refine ⟨by simp [h1], fun j v hv => ?_⟩
            cases j with
            | zero => simp at hv; subst hv; exact ⟨i, rfl, hi⟩
            | succ j => simpa using h2 j v (by simpa using hv)
    obtain ⟨h1, h2⟩ := key _ _ h
    refine ⟨by simpa using h1, fun j v hv => ?_⟩
    obtain ⟨i, hi, hc⟩ := h2 j v hv
    have hlt : j < n := by have := (List.getElem?_eq_some_iff.1 hv).1; rw [h1] at this; simpa using this
    rw [List.getElem?_range hlt] at hi
    cases hi
    exact hc
  · cases h

theorem cell_lt {w : World} {a : Addr} {v : Value} (h : w.cell? a = some v) : a.block < w.heap.size := by
  unfold World.cell? at h
  split at h
  · rename_i c e f hb; exact (Array.getElem?_eq_some_iff.1 hb).1
  · cases h

theorem exists_row {β : Type} {Q : Nat → β → Prop} (n : Nat) (h : ∀ i, i < n → ∃ y, Q i y) : ∃ ys : List β, ys.length = n ∧ ∀ (i : Nat) y, ys[i]? = some y → Q i y := by
  induction n with
  | zero => exact ⟨[], rfl, fun i y hy => by simp at hy⟩
  | succ n ih =>
    obtain ⟨ys, h1, h2⟩ := ih fun i hi => h i (by omega)
    obtain ⟨y, hy⟩ := h n (by omega)
    refine ⟨ys ++ [y], by simp [h1], fun i z hz => ?_⟩
    rw [List.getElem?_append] at hz
    split at hz
    · exact h2 i z hz
    · rename_i hi
      have := (List.getElem?_eq_some_iff.1 hz).1
      simp at this
      have e : i = n := by omega
      subst e
      simp [h1] at hz
      subst hz
      exact hy

theorem fields_trod {n : Nat} {ts : List TypeId} {R : TypeId → List Value → Option (DataW H × List MemPlace)}
    (ih : ∀ (t : TypeId) (cs : List Value) x, t ∈ ts → R t cs = some x → ∃ azs, Ty T n t azs ∧ CellsAre w φ azs cs ∧ cs.length = (T t).size) :
    ∀ (F : List Field) (off m : Nat) (cs : List Value) (ys : List (DataW H × List MemPlace)), (∀ f ∈ F, f.type ∈ ts ∧ P.cellsOf f.type = (T f.type).size) → rowOK T off (F.map fun f => (f.offset, f.type)) m = true → cs.length = m →
      off ≤ m → F.mapM (fun f => R f.type ((cs.drop f.offset).take (P.cellsOf f.type))) = some ys → ∃ azs, FieldsTy (Ty T n) (F.map fun f => (f.offset, f.type)) azs ∧ CellsAre w φ azs (cs.drop off) := by
  intro F
  induction F with
  | nil =>
    intro off m cs ys _ hr hl _ _
    simp only [List.map_nil, rowOK, decide_eq_true_eq] at hr
    refine ⟨[], rfl, ?_⟩
    rw [List.drop_of_length_le (by omega)]
    exact CellsAre.nil
  | cons f F ihF =>
    intro off m cs ys hf hr hl hom hm
    simp only [List.map_cons, rowOK, Bool.and_eq_true, decide_eq_true_eq] at hr
    obtain ⟨hoff, hr⟩ := hr
    rw [List.mapM_cons] at hm
    obtain ⟨hft, hfs⟩ := hf f (by simp)
    cases h0 : R f.type ((cs.drop f.offset).take (P.cellsOf f.type)) with
    | none => simp [h0] at hm
    | some y =>
      cases h1 : F.mapM (fun f => R f.type ((cs.drop f.offset).take (P.cellsOf f.type))) with
      | none => simp [h0, h1] at hm
      | some ys' =>
        obtain ⟨a, ha, hca, hla⟩ := ih _ _ _ hft h0
        rw [hfs, hoff, List.length_take, List.length_drop] at hla
        have hle : off + (T f.type).size ≤ m ∨ (T f.type).size = 0 := by omega
        obtain ⟨azs, has, hcas⟩ := ihF (off + (T f.type).size) m cs ys' (fun g hg => hf g (by simp [hg])) hr hl (by omega) h1
        refine ⟨a ++ azs, ⟨a, azs, rfl, ha, has⟩, ?_⟩
        have e : cs.drop off = (cs.drop off).take (T f.type).size ++ cs.drop (off + (T f.type).size) := by
          rw [← List.drop_drop, List.take_append_drop]
        rw [e]
        rw [hfs, hoff] at hca
        exact hca.append hcas

theorem CellsAre.cons2 {azs : List (List AV)} {m sz : Nat} {cs : List Value} (hl : azs.length = m) (hcs : cs.length = m * sz) (h : ∀ (i : Nat) a, azs[i]? = some a → a.length = sz ∧ CellsAre w φ a ((cs.drop (i * sz)).take sz)) : CellsAre w φ azs.flatten cs := by
  induction azs generalizing m cs with
  | nil => simp at hl; subst hl; simp at hcs; subst hcs; exact CellsAre.nil
  | cons a azs ih =>
    simp only [List.flatten_cons]
    have h0 := h 0 a rfl
    simp only [Nat.zero_mul, List.drop_zero] at h0
    have e : cs = cs.take sz ++ cs.drop sz := (List.take_append_drop _ _).symm
    rw [e]
    refine h0.2.append (ih (m := m - 1) (by simp at hl; omega) ?_ fun i b hb => ?_)
    · rw [List.length_drop, hcs, Nat.sub_mul, Nat.one_mul]
    · have := h (i + 1) b (by simpa using hb)
      rw [List.drop_drop]
      have e2 : sz + i * sz = (i + 1) * sz := by rw [Nat.succ_mul]; omega
      rw [e2]
      exact this

theorem flatten_flat {n : Nat} {t : TypeId} : ∀ {es : List (List AV)}, (∀ x ∈ es, Ty T n t x) → flat (es.map (mkT (T t))) = es.flatten
  | [], _ => rfl
  | x :: es, h => by
    simp only [List.map_cons, flat, List.flatMap_cons, List.flatten_cons]
    rw [mkT_cells (h x (by simp))]
    congr 1
    exact flatten_flat fun y hy => h y (by simp [hy])

theorem trod_Ty (hT : TabOK P T) {ts : List TypeId} (hc : closedT T ts = true) {base : Nat} {sp : Nat → Bool} {hd : Bool} : ∀ (n : Nat) (t : TypeId) (cs : List Value) (x : DataW H × List MemPlace),
    t ∈ ts → DataW.trod enc P w base sp hd n t cs = some x → ∃ azs, Ty T n t azs ∧ CellsAre w φ azs cs ∧ cs.length = (T t).size := by
  have hnoT : ∀ t ∈ ts, (T t).kind ≠ .other := by
    intro t ht e
    have hct := List.all_eq_true.1 hc t ht
    simp [e] at hct
  intro n
  induction n with
  | zero => intro t cs x _ h; simp [DataW.trod] at h
  | succ n ih =>
    intro t cs x ht h
    have hct := List.all_eq_true.1 hc t ht
    have hno := hnoT t ht
    obtain ⟨i, z, hi, hsz, _, hz, hzc, hzz, hza, _, hzl, hK⟩ := (hT t).known hno
    unfold Ty
    cases hk : (T t).kind <;> simp only [hk] at hct hK ⊢ <;> try contradiction
    case bool =>
      simp only [KindOK] at hK
      have hct := of_decide_eq_true hct
      simp only [DataW.trod, hK] at h
      match cs, h with
      | [.bool b], _ => exact ⟨_, ⟨b, rfl⟩, .one (.raw _) rfl, hct.symm⟩
    case int k =>
      simp only [KindOK] at hK
      have hct := of_decide_eq_true hct
      simp only [DataW.trod, hK] at h
      match cs, h with
      | [.int k' m], h =>
        simp only at h
        split at h
        · rename_i hh
          obtain ⟨rfl, hw⟩ := hh
          exact ⟨_, ⟨m, rfl, hw⟩, .one (.raw _) rfl, hct.symm⟩
        · cases h
    case string =>
      simp only [KindOK] at hK
      have hct := of_decide_eq_true hct
      simp only [DataW.trod, hK] at h
      match cs, h with
      | [.string b], h =>
        simp only at h
        split at h
        · rename_i hh
          exact ⟨_, ⟨b, rfl, hh⟩, .one (.raw _) rfl, hct.symm⟩
        · cases h
    case slice e =>
      simp only [KindOK] at hK
      simp only [Bool.and_eq_true, List.contains_iff_mem, decide_eq_true_eq] at hct
      obtain ⟨hes, hct⟩ := hct
      simp only [DataW.trod, hK] at h
      have hsz := cellsOf_eq hT (hnoT e hes)
      match cs, h with
      | [.slice none 0 0], _ => exact ⟨_, ⟨[], rfl, by simp, by simp⟩, .one (.lstnil _ _ trivial) rfl, hct.symm⟩
      | [.slice (some a) len cap], h =>
        simp only at h
        split at h
        · rename_i hh
          obtain ⟨_, hcap, hmax⟩ := hh
          simp only [Option.bind_eq_some_iff] at h
          obtain ⟨elems, hel, _⟩ := h
          obtain ⟨hlen, hat⟩ := mapM_at hel
          simp only [List.length_range] at hlen
          have key : ∀ i, i < len → ∃ azs, Ty T n e azs ∧ ∃ vs, w.cells? base (a.add (i * P.cellsOf e)) (P.cellsOf e) = some vs ∧ CellsAre w φ azs vs := by
            intro i hi
            obtain ⟨y, hy⟩ := hat i i (List.getElem?_range hi)
            simp only [Option.bind_eq_some_iff] at hy
            obtain ⟨vs, hvs, hy⟩ := hy
            obtain ⟨azs, h1, h2, _⟩ := ih e vs y hes hy
            exact ⟨azs, h1, vs, hvs, h2⟩
          obtain ⟨es, hesl, hee⟩ := exists_row len key
          have hty : ∀ x ∈ es, Ty T n e x := by
            intro x hx
            obtain ⟨j, hj, rfl⟩ := List.getElem_of_mem hx
            exact (hee j _ (List.getElem?_eq_getElem hj)).1
          have hflat := flatten_flat hty
          have hcl : ∀ x ∈ es.map (mkT (T e)), x.cells.length = (T e).size := by
            intro x hx
            obtain ⟨y, hy, rfl⟩ := List.mem_map.1 hx
            rw [mkT_cells (hty y hy)]
            obtain ⟨j, hj, rfl⟩ := List.getElem_of_mem hy
            obtain ⟨_, vs, hvs, hca⟩ := hee j _ (List.getElem?_eq_getElem hj)
            rw [hca.1, (cells_of hvs).1, hsz]
          have hcells : ∀ (j : Nat) c, (flat (es.map (mkT (T e))))[j]? = some c → ∃ u, w.cell? (a.add j) = some u ∧ C (Old w) w φ c u ∧ u.oneCell' = true := by
            intro j c hj
            have hjl : j < (flat (es.map (mkT (T e)))).length := (List.getElem?_eq_some_iff.1 hj).1
            rw [flat_length hcl, List.length_map, hesl] at hjl
            have hpos : 0 < (T e).size := by
              rcases Nat.eq_zero_or_pos (T e).size with h0 | h0
              · rw [h0] at hjl; simp at hjl
              · exact h0
            have hil : j / (T e).size < len := by rw [Nat.div_lt_iff_lt_mul hpos]; exact hjl
            have hdm : j / (T e).size * (T e).size + j % (T e).size = j := by rw [Nat.mul_comm]; exact Nat.div_add_mod _ _
            have hx : es[j / (T e).size]? = some (es[j / (T e).size]'(by rw [hesl]; exact hil)) := List.getElem?_eq_getElem _
            obtain ⟨ht', vs, hvs, hca⟩ := hee _ _ hx
            obtain ⟨hvl, hva⟩ := cells_of hvs
            rw [hsz] at hvs hvl hva
            have hxm : (es.map (mkT (T e)))[j / (T e).size]? = some (mkT (T e) (es[j / (T e).size]'(by rw [hesl]; exact hil))) := by rw [List.getElem?_map, hx]; rfl
            have hml : j % (T e).size < (es[j / (T e).size]'(by rw [hesl]; exact hil)).length := by rw [hca.1, hvl]; exact Nat.mod_lt _ hpos
            have hcc := flat_at hcl hxm (j := j % (T e).size) (c := (es[j / (T e).size]'(by rw [hesl]; exact hil))[j % (T e).size]) (by rw [mkT_cells ht']; exact List.getElem?_eq_getElem _)
            rw [hdm, hj] at hcc
            have hvj : vs[j % (T e).size]? = some (vs[j % (T e).size]'(by rw [hvl]; exact Nat.mod_lt _ hpos)) := List.getElem?_eq_getElem _
            refine ⟨vs[j % (T e).size]'(by rw [hvl]; exact Nat.mod_lt _ hpos), ?_, ?_⟩
            · have := hva _ _ hvj
              rw [add_add, hdm] at this
              exact this
            · have := hca.2 _ _ _ (List.getElem?_eq_getElem hml) hvj
              cases hcc
              exact this
          obtain ⟨us, hul, hu⟩ := exists_vals (Q := fun j c u => w.cell? (a.add j) = some u ∧ C (Old w) w φ c u ∧ u.oneCell' = true) _ hcells
          have hget : ∀ (j : Nat) c, (flat (es.map (mkT (T e))))[j]? = some c → us[j]? = some (us.getD j undef) := by
            intro j c hj
            have hj' : j < us.length := by rw [hul]; exact (List.getElem?_eq_some_iff.1 hj).1
            rw [List.getD_eq_getElem?_getD, List.getElem?_eq_getElem hj']; rfl
          refine ⟨_, ⟨es, rfl, by omega, hty⟩, .one ?_ rfl, hct.symm⟩
          refine .lst _ _ _ a len cap (fun j => us.getD j undef) (by simp [hesl]) hcap hmax hcl (fun j c hj => ?_) (fun j c hj => ?_) (fun j c hj => ?_) trivial
          · have := hu j c _ hj (hget j c hj)
            exact ⟨this.1, by have := cell_lt this.1; unfold Addr.add at this ⊢; split <;> simpa [*] using this⟩
          · exact (hu j c _ hj (hget j c hj)).2.1
          · exact (hu j c _ hj (hget j c hj)).2.2
        · cases h
    case struct fs =>
      obtain ⟨F, hu, hF, _, _⟩ := hK
      simp only [Bool.and_eq_true, List.all_eq_true, List.contains_iff_mem] at hct
      obtain ⟨hfs, hrow⟩ := hct
      have hco := cellsOf_eq hT hno
      subst hF
      simp only [DataW.trod, hu] at h
      split at h
      · rename_i hl
        simp only [Option.map_eq_some_iff] at h
        obtain ⟨ys, hys, _⟩ := h
        obtain ⟨azs, h1, h2⟩ := fields_trod (P := P) (T := T) (H := H) (w := w) (φ := φ) (n := n) (ts := ts) (R := fun t cs => DataW.trod enc P w base sp hd n t cs) (fun t cs x ht hx => ih t cs x ht hx) F.toList 0 (T t).size cs ys
          (fun f hf => by
            have := hfs (f.offset, f.type) (List.mem_map.2 ⟨f, hf, rfl⟩)
            exact ⟨this, cellsOf_eq hT (hnoT _ this)⟩) hrow (by rw [hl, hco]) (Nat.zero_le _) hys
        exact ⟨azs, h1, h2, by rw [hl, hco]⟩
      · cases h
    case array m e =>
      simp only [KindOK] at hK
      simp only [Bool.and_eq_true, List.contains_iff_mem, decide_eq_true_eq] at hct
      obtain ⟨hes, hct⟩ := hct
      have hco := cellsOf_eq hT hno
      have hsz := cellsOf_eq hT (hnoT e hes)
      have hu := hK.1
      simp only [DataW.trod, hu] at h
      split at h
      · rename_i hl
        simp only [Option.map_eq_some_iff] at h
        obtain ⟨ys, hys, _⟩ := h
        obtain ⟨_, hat⟩ := mapM_at hys
        have key : ∀ i, i < m → ∃ azs, Ty T n e azs ∧ CellsAre w φ azs ((cs.drop (i * (T e).size)).take (T e).size) ∧ azs.length = (T e).size := by
          intro i hi
          obtain ⟨y, hy⟩ := hat i i (List.getElem?_range hi)
          obtain ⟨azs, h1, h2, h3⟩ := ih e _ y hes hy
          rw [hsz] at h2 h3
          exact ⟨azs, h1, h2, by rw [h2.1, h3]⟩
        obtain ⟨es, hesl, hee⟩ := exists_row m key
        refine ⟨es.flatten, ⟨es, rfl, hesl, fun x hx => ?_⟩, ?_, by rw [hl, hco]⟩
        · obtain ⟨j, hj, rfl⟩ := List.getElem_of_mem hx
          exact (hee j _ (List.getElem?_eq_getElem hj)).1
        · exact CellsAre.cons2 hesl (by rw [hl, hco, hct]) fun i a ha => ⟨(hee i a ha).2.2, (hee i a ha).2.1⟩
      · cases h
theorem trod_val (hT : TabOK P T) {ts : List TypeId} (hc : closedT T ts = true) {base b' : Nat} {sp : Nat → Bool} {hd : Bool} {rc : Reach} {t : TypeId} {v : Value} {d : DataW H} {ps : List MemPlace} (ht : t ∈ ts)
    (hf : Value.okWide P w rc b' t v) (h : DataW.Trod enc P w base sp hd t v d ps) : ∃ n azs, Ty T n t azs ∧ C (Old w) w φ (mkT (T t) azs) v := by
  obtain ⟨n, hn⟩ := h
  obtain ⟨azs, h1, h2, h3⟩ := trod_Ty (w := w) (φ := φ) hT hc n t _ _ ht hn
  refine ⟨n, azs, h1, ?_⟩
  have hct := List.all_eq_true.1 hc t ht
  have hno : (T t).kind ≠ .other := by intro e; simp [e] at hct
  obtain ⟨i, z, hi, hsz, _, hz, hzc, hzz, hza, _, hzl, hK⟩ := (hT t).known hno
  have scalar : ∀ u, v = u → u.cells = #[u] → (∃ a, azs = [a]) → C (Old w) w φ (azs.headD (.tup [])) v := by
    rintro u rfl hu ⟨a, rfl⟩
    rw [hu] at h2
    exact (h2.2 0 a v rfl rfl).1
  have agg : ∀ cs, v = .agg cs → C (Old w) w φ (.agg azs) v := by
    rintro cs rfl
    refine .agg azs cs (by have := h2.1; simpa [Value.cells] using this.symm) (fun i a v ha hv => (h2.2 i a v ha (by simpa [Value.cells] using hv)).1) (fun v hv => ?_)
    obtain ⟨k, hk, rfl⟩ := List.getElem_of_mem hv
    have hkl : k < azs.length := by rw [h2.1]; simpa [Value.cells] using hk
    exact (h2.2 k _ _ (List.getElem?_eq_getElem hkl) (by simp [Value.cells])).2
  cases n with
  | zero => exact h1.elim
  | succ n =>
  unfold Ty at h1
  unfold mkT TI.agg
  cases hk : (T t).kind <;> simp only [hk] at hct hK h1 ⊢ <;> try contradiction
  case bool =>
    simp only [KindOK] at hK
    obtain ⟨b, rfl⟩ := WideShapes.okWide_bool hK hf
    obtain ⟨b', rfl⟩ := h1
    exact scalar _ rfl rfl ⟨_, rfl⟩
  case int k =>
    simp only [KindOK] at hK
    obtain ⟨b, rfl⟩ := WideShapes.okWide_int hK hf
    obtain ⟨b', rfl, _⟩ := h1
    exact scalar _ rfl rfl ⟨_, rfl⟩
  case string =>
    simp only [KindOK] at hK
    obtain ⟨b, rfl⟩ := WideShapes.okWide_string hK hf
    obtain ⟨b', rfl, _⟩ := h1
    exact scalar _ rfl rfl ⟨_, rfl⟩
  case slice e =>
    simp only [KindOK] at hK
    obtain ⟨a, l, c, rfl⟩ := WideShapes.okWide_slice hK hf
    obtain ⟨b', rfl, _⟩ := h1
    exact scalar _ rfl rfl ⟨_, rfl⟩
  case struct fs =>
    obtain ⟨F, hu, _⟩ := hK
    simp only [Value.okWide, hu] at hf
    obtain ⟨cs, rfl, _⟩ := hf
    exact agg _ rfl
  case array m e =>
    simp only [KindOK] at hK
    simp only [Value.okWide, hK.1] at hf
    obtain ⟨cs, rfl, _⟩ := hf
    exact agg _ rfl

/-- Arguments that are data of their types. -/
def TyAll (T : TypeId → TI) : List TypeId → List AV → Prop
  | [], azs => azs = []
  | t :: ts, azs => ∃ n a r, azs = mkT (T t) a :: r ∧ Ty T n t a ∧ TyAll T ts r

theorem trodAll_vals (hT : TabOK P T) {ts : List TypeId} (hc : closedT T ts = true) {base b' : Nat} {sp : Nat → Bool} {hd : Bool} {rc : Reach} : ∀ {us : List TypeId} {vs : List Value} {ds : List (DataW H)} {ps : List MemPlace}, (∀ t ∈ us, t ∈ ts) →
    (∀ (j : Nat) t v, us[j]? = some t → vs[j]? = some v → Value.okWide P w rc b' t v) → DataW.TrodAll enc P w base sp hd us vs ds ps → ∃ azs, TyAll T us azs ∧ CAll (Old w) w φ azs vs.toArray ∧ ds.length = us.length
  | [], vs, ds, ps, _, _, h => by
    obtain ⟨rfl, rfl, rfl⟩ := ChangeShapes.trodAll_nil h
    exact ⟨[], rfl, CAll.nil, rfl⟩
  | t :: us, vs, ds, ps, hm, hv, h => by
    obtain ⟨v, vs1, d, ds1, a, b, rfl, rfl, rfl, h1, h2⟩ := ChangeShapes.trodAll_cons h
    obtain ⟨azs, k1, k2, k3⟩ := trodAll_vals hT hc (fun t ht => hm t (by simp [ht])) (fun j t v hj hjv => hv (j + 1) t v (by simpa using hj) (by simpa using hjv)) h2
    obtain ⟨n, x, q1, q2⟩ := trod_val (φ := φ) hT hc (hm t (by simp)) (hv 0 t v rfl rfl) h1
    exact ⟨_ :: azs, ⟨n, x, azs, rfl, q1, k1⟩, CAll.cons q2 k2, by simp [k3]⟩

theorem args_stay (hl : laidOutB P = true) {W W' : World} (hb : Below W.heap.size W W') : ∀ {us : List TypeId} {vs : List Value} {ds : List (DataW H)} {ps : List MemPlace}, (∀ t ∈ us, P.readableRec t = true ∧ t < P.types.size) →
    (∀ p ∈ ps, p.block < W.heap.size) → DataW.TrodAll enc P W 0 (fun _ => true) true us vs ds ps → DataW.TrodAll enc P W' 0 (fun b => decide (b < W.heap.size)) true us vs ds ps
  | [], vs, ds, ps, _, _, h => by
    obtain ⟨rfl, rfl, rfl⟩ := ChangeShapes.trodAll_nil h
    exact ChangeShapes.trodAll_mk0
  | t :: us, vs, ds, ps, hm, hp, h => by
    obtain ⟨v, vs1, d, ds1, a, b, rfl, rfl, rfl, h1, h2⟩ := ChangeShapes.trodAll_cons h
    exact ⟨a, b, Below.trod hl (hm t (by simp)).1 (hm t (by simp)).2 h1 hb (fun x hx => hp x (by simp [hx])), args_stay hl hb (fun t ht => hm t (by simp [ht])) (fun x hx => hp x (by simp [hx])) h2, rfl⟩

/-- **A law's contract, out of the abstract one.** -/
theorem law_contract {f : FuncId} {fn : Func} {s : ChangeSpec} {tb : TypeId} {ts : List TypeId} (hT : TabOK P T) (hc : closedT T ts = true) (hl : laidOutB P = true) (hpar : fn.params.toList.all (fun t => ts.contains t && P.readableRec t && decide (t < P.types.size)) = true)
    (hres : fn.resultTypes = #[tb]) (htb : P.underlying tb = some .bool) (hsv : s.vars = []) (hs : ∀ ds : List (DataW H), ds.length = fn.params.toList.length → (s.fn H ds).results = [.lit (.bool true)] ∧ (s.fn H ds).args = ds ∧ (s.fn H ds).vars = [])
    (hcall : ∀ azs, TyAll T fn.params.toList azs → PCall P f azs (.raw (.bool true)))
    (W : World) (base : Nat) (args : Array Value) (ds gs : List (DataW H)) (before : List MemPlace) (hval : ∀ (j : Nat) t v, fn.params[j]? = some t → args[j]? = some v → Value.okWide P W .any base t v)
    (hW : DataW.Whole enc P fn.params.toList s.vars false W args.toList ds gs before) (htab : ∀ x ∈ tabL, ∃ cs t l, W.heap[x.1]? = some (.cells cs t l) ∧ x.2 cs) :
    Calls P f args W fun e W' => ∃ v, e = .returned v ∧ s.post enc P fn false true false false W args v W' := by
  have hW' := hW
  obtain ⟨p, q, hA, hV, rfl, hfz, hnd⟩ := hW
  rw [hsv] at hV
  have hg : gs = [] ∧ q = [] := by
    cases gs with
    | nil => exact ⟨rfl, hV⟩
    | cons g gs => exact hV.elim
  obtain ⟨rfl, rfl⟩ := hg
  have hm : ∀ t ∈ fn.params.toList, t ∈ ts ∧ P.readableRec t = true ∧ t < P.types.size := by
    intro t ht
    have := List.all_eq_true.1 hpar t ht
    simp only [Bool.and_eq_true, List.contains_iff_mem, decide_eq_true_eq] at this
    exact ⟨this.1.1, this.1.2, this.2⟩
  obtain ⟨azs, k1, k2, k3⟩ := trodAll_vals (φ := fun _ => .no) hT hc (fun t ht => (hm t ht).1) (fun j t v hj hv => hval j t v (by simpa using hj) (by simpa using hv)) hA
  obtain ⟨_, _, h3⟩ := hcall azs k1
  obtain ⟨_, hcalls⟩ := h3 (Old W) W args (fun a ha => ha) (fun x hx => ⟨htab x hx, no_owns⟩) k2
  refine Calls.mono hcalls ?_
  rintro e W' ⟨v, S', rfl, hcv, hr, hx⟩
  cases hcv
  have hb : Below W.heap.size W W' := ⟨hx.os, hx.tape, hx.output, hx.size, fun k hk => hx.keep k hk no_owns⟩
  obtain ⟨e1, e2, e3⟩ := hs ds k3
  refine ⟨_, rfl, ds, [], _, [], p, [], hW', ?_, ?_, ?_, hb.frame _, fun h => by cases h⟩
  · rw [List.append_nil, e1, hres]
    exact ChangeShapes.trodAll_mk1 (shut_bool htb true)
  · rw [List.append_nil, e2]
    exact args_stay hl hb (fun t ht => (hm t ht).2) (fun x hx => hW'.lt x (by simp [hx])) hA
  · rw [List.append_nil, e3, hsv]
    rfl
end
end Go.Abs

namespace Go.Proofs.YtfhhboohlblnfaaGreatDoor
open Go.Abs
set_option maxRecDepth 20000
set_option linter.unusedSimpArgs false
set_option linter.unusedVariables false
set_option maxHeartbeats 1000000
attribute [local irreducible] vc vcOps vcStep vcGuard prK hrK gK gsK brK callK ElemK SeqK BlockK ScopeK OpsK CallK LoopK LoopGo finPost ACall PCall PCallE BCall vqOps vqStep vqGuard qrK heK pcK gqK gqsK QOpsK qcallK DrawK

theorem ty_list {α : Type} {enc : α → AV} {n : Nat} {t : TypeId} {q : α → Prop} (h : ∀ cs, Ty ti n t cs → ∃ x : α, mkT (ti t) cs = enc x ∧ q x) : ∀ {es : List (List AV)}, (∀ x ∈ es, Ty ti n t x) → ∃ l : List α, es.map (mkT (ti t)) = l.map enc ∧ ∀ x ∈ l, q x
  | [], _ => ⟨[], rfl, by simp⟩
  | x :: es, hx => by
    obtain ⟨y, hy, hq⟩ := h x (hx x (by simp))
    obtain ⟨l, hl, hql⟩ := ty_list h (es := es) fun z hz => hx z (by simp [hz])
    exact ⟨y :: l, by simp [hy, hl], by simp only [List.mem_cons]; rintro z (rfl | hz); exact hq; exact hql z hz⟩
theorem ty_slice {α : Type} {enc : α → AV} {t e sz : Nat} (hk : (ti t).kind = .slice e) (hs : (ti e).size = sz) {n : Nat} {q : α → Prop} (h : ∀ n' cs, n' < n → Ty ti n' e cs → ∃ x : α, mkT (ti e) cs = enc x ∧ q x) {cs : List AV} (hc : Ty ti n t cs) : ∃ l : List α, cs = [.lst sz (l.map enc) none] ∧ ∀ x ∈ l, q x := by
  cases n with
  | zero => exact hc.elim
  | succ n =>
    unfold Ty at hc
    simp only [hk] at hc
    obtain ⟨es, rfl, _, hes⟩ := hc
    obtain ⟨l, hl, hq⟩ := ty_list (enc := enc) (t := e) (fun cs hcs => h n cs (by omega) hcs) hes
    exact ⟨l, by rw [hl, hs], hq⟩
theorem ty_iK {t : Nat} (hk : (ti t).kind = .int .i64) {n : Nat} {cs : List AV} (h : Ty ti n t cs) : ∃ k : Int, cs = [.i k] ∧ I64 k := by
  cases n with
  | zero => exact h.elim
  | succ n =>
    unfold Ty at h
    simp only [hk] at h
    obtain ⟨k, rfl, hw⟩ := h
    simp only [Lit.wf, Bool.and_eq_true, decide_eq_true_eq] at hw
    exact ⟨k, rfl, (hw : (IntKind.i64.min : Int) ≤ k ∧ k ≤ IntKind.i64.max)⟩
theorem ty_uK {t : Nat} (hk : (ti t).kind = .int .u8) {n : Nat} {cs : List AV} (h : Ty ti n t cs) : ∃ k : Int, cs = [.raw (.int .u8 k)] ∧ 0 ≤ k ∧ k ≤ 255 := by
  cases n with
  | zero => exact h.elim
  | succ n =>
    unfold Ty at h
    simp only [hk] at h
    obtain ⟨k, rfl, hw⟩ := h
    simp only [Lit.wf, Bool.and_eq_true, decide_eq_true_eq] at hw
    exact ⟨k, rfl, (hw : (IntKind.u8.min : Int) ≤ k ∧ k ≤ IntKind.u8.max)⟩
theorem ty_sK {t : Nat} (hk : (ti t).kind = .string) {n : Nat} {cs : List AV} (h : Ty ti n t cs) : ∃ k : ByteArray, cs = [.s k] ∧ S47 k := by
  cases n with
  | zero => exact h.elim
  | succ n => unfold Ty at h; simp only [hk] at h; obtain ⟨k, rfl, hw⟩ := h; exact ⟨k, rfl, hw⟩
theorem ty_bK {t : Nat} (hk : (ti t).kind = .bool) {n : Nat} {cs : List AV} (h : Ty ti n t cs) : ∃ k : Bool, cs = [.b k] := by
  cases n with
  | zero => exact h.elim
  | succ n => unfold Ty at h; simp only [hk] at h; obtain ⟨k, rfl⟩ := h; exact ⟨k, rfl⟩
theorem ty_l {n : Nat} {cs : List AV} (h : Ty ti n 2 cs) : ∃ k : Int, cs = [.i k] ∧ I64 k := ty_iK rfl h
theorem ty_s {n : Nat} {cs : List AV} (h : Ty ti n 9 cs) : ∃ k : ByteArray, cs = [.s k] ∧ S47 k := ty_sK rfl h
theorem ty_b {n : Nat} {cs : List AV} (h : Ty ti n 4 cs) : ∃ k : Bool, cs = [.b k] := ty_bK rfl h
theorem ty_il {n : Nat} {cs : List AV} (h : Ty ti n 38 cs) : ∃ l : List Int, cs = [.lst 1 (l.map AV.i) none] ∧ ∀ y ∈ l, I64 y := ty_slice (e := 2) rfl rfl (fun _ _ _ hc => by obtain ⟨s, rfl, hs⟩ := ty_l hc; exact ⟨s, rfl, hs⟩) h
theorem ty_ill {n : Nat} {cs : List AV} (h : Ty ti n 25 cs) : ∃ l : List (List Int), cs = [.lst 1 (l.map AV.il) none] ∧ ∀ z ∈ l, ∀ y ∈ z, I64 y := ty_slice (e := 38) rfl rfl (fun _ _ _ hc => by obtain ⟨s, rfl, hs⟩ := ty_il hc; exact ⟨s, rfl, hs⟩) h
theorem ty_bl {n : Nat} {cs : List AV} (h : Ty ti n 22 cs) : ∃ l : List Int, cs = [.lst 1 (l.map AV.u8) none] ∧ ∀ y ∈ l, 0 ≤ y ∧ y ≤ 255 := ty_slice (e := 5) rfl rfl (fun _ _ _ hc => by obtain ⟨s, rfl, hs⟩ := ty_uK rfl hc; exact ⟨s, rfl, hs⟩) h

theorem ty_DAsk {n : Nat} {cs : List AV} (h : Ty ti n 24 cs) : ∃ x : DAsk, .agg cs = x.enc ∧ x.ok := by
  cases n with
  | zero => exact h.elim
  | succ n =>
    simp only [Ty, ti, FieldsTy] at h
    obtain ⟨a0, b0, rfl, h0, a1, b1, rfl, h1, a2, b2, rfl, h2, a3, b3, rfl, h3, a4, b4, rfl, h4, rfl⟩ := h
    obtain ⟨x0, rfl, q0⟩ := ty_s h0
    obtain ⟨x1, rfl⟩ := ty_b h1
    obtain ⟨x2, rfl, q2⟩ := ty_bl h2
    obtain ⟨x3, rfl, q3⟩ := ty_s h3
    obtain ⟨x4, rfl, q4⟩ := ty_iK rfl h4
    exact ⟨⟨x0, x1, x2, x3, x4⟩, by rw [DAsk.enc_eq]; rfl, ⟨q0, q2, q3, q4⟩⟩
theorem ty_DOp {n : Nat} {cs : List AV} (h : Ty ti n 27 cs) : ∃ x : DOp, .agg cs = x.enc ∧ x.ok := by
  cases n with
  | zero => exact h.elim
  | succ n =>
    simp only [Ty, ti, FieldsTy] at h
    obtain ⟨a0, b0, rfl, h0, a1, b1, rfl, h1, a2, b2, rfl, h2, a3, b3, rfl, h3, rfl⟩ := h
    obtain ⟨x0, rfl, q0⟩ := ty_iK rfl h0
    obtain ⟨x1, e1, q1⟩ := ty_DAsk h1
    obtain ⟨x2, rfl, q2⟩ := ty_ill h2
    obtain ⟨x3, rfl, q3⟩ := ty_iK rfl h3
    rw [DAsk.enc_eq] at e1
    cases e1
    exact ⟨⟨x0, x1, x2, x3⟩, by rw [DOp.enc_eq]; rfl, ⟨q0, q1, q2, q3⟩⟩
abbrev dataTypes : List TypeId := [2, 3, 4, 5, 9, 22, 24, 25, 27, 29, 38, 40, 41, 43, 55, 57]
theorem dataClosed : closedT ti dataTypes = true := by kernel_rfl
noncomputable def eqB {α : Type} (x y : α) : Bool := @decide (x = y) (Classical.propDecidable _)
theorem eqB_eq {α : Type} {x y : α} (h : x = y) : eqB x y = true := by unfold eqB; simp [h]
theorem eqB_ne {α : Type} {x y : α} (h : ¬ x = y) : eqB x y = false := by unfold eqB; simp [h]
theorem eqB_t {α : Type} {x y : α} (h : eqB x y = true) : x = y := by unfold eqB at h; simpa using h
theorem eqB_f {α : Type} {x y : α} (h : eqB x y = false) : ¬ x = y := by unfold eqB at h; simpa using h
attribute [irreducible] eqB
theorem len_ne {α : Type} {l m : List α} (h : ¬ l.length = m.length) : ¬ l = m := fun e => h (congrArg List.length e)
theorem at_ne' {α : Type} {l m : List α} {i : Nat} {x y : α} (hx : l[((i : Int)).toNat]? = some x) (hy : m[((i : Int)).toNat]? = some y) (h : ¬ x = y) : ¬ l = m := by
  rintro rfl
  rw [hx] at hy
  exact h (Option.some.inj hy)
theorem at_ne {α : Type} {l m : List α} {i : Nat} {x y : α} (hx : l[((i : Int)).toNat]? = some x) (hy : m[((i : Int)).toNat]? = some y) (h : x ≠ y) : ¬ l = m := at_ne' hx hy h
theorem take_eq_step' {α : Type} {l m : List α} {i : Nat} {x y : α} (hp : l.take i = m.take i) (hx : l[((i : Int)).toNat]? = some x) (hy : m[((i : Int)).toNat]? = some y) (h : x = y) : l.take (i + 1) = m.take (i + 1) := by
  subst h
  rw [Int.toNat_natCast] at hx hy
  rw [List.take_add_one, List.take_add_one, hp, hx, hy]
theorem take_eq_step {α : Type} {l m : List α} {i : Nat} {x y : α} (hp : l.take i = m.take i) (hx : l[((i : Int)).toNat]? = some x) (hy : m[((i : Int)).toNat]? = some y) (h : ¬ x ≠ y) : l.take (i + 1) = m.take (i + 1) := take_eq_step' hp hx hy (Classical.not_not.1 h)
theorem take_eq_full {α : Type} {l m : List α} {i : Nat} (h : l.length = m.length) (hp : l.take i = m.take i) (hi : l.length ≤ i) : l = m := by
  rw [List.take_of_length_le hi, List.take_of_length_le (by omega)] at hp
  exact hp

theorem equalByte (l m : List Int) : PCall Tryz.prog 42 [.lst 1 (l.map (AV.u8)) none, .lst 1 (m.map (AV.u8)) none] (.b (eqB l m)) := by
  refine pcall_of_vc tabOK Tryz.func42 (by kernel_rfl) rfl pureL pureI (n := 26) rfl (rs := [.tmp 4]) rfl ?_
  repeat' first
    | exact finB rfl
    | exact finI rfl
    | exact finP rfl
    | exact absurd rfl (by assumption)
    | simp only [go_sem]
    | (intro _)
    | refine brK_dec (fun _ => ?_) (fun _ => ?_)
    | refine brK_any ?_ ?_
    | refine gK_dec (fun _ => ?_) (fun _ => ?_)
    | refine gK_any ?_ ?_
    | refine gqK_dec (fun _ => ?_) (fun _ => ?_)
    | refine ⟨by omega, ?_⟩
    | refine elemHave (by omega) (by assumption) ?_
    | refine elemMap (by omega) (by omega) (fun x hx => ?_)
    | refine drawK mo (by kernel_rfl) ?_
    | (rw [eqB_ne (len_ne (l := l) (m := m) (by omega))]; exact ⟨_, rfl, false, .refl _⟩)
    | (rw [eqB_ne (at_ne (l := l) (m := m) (i := i) (by assumption) (by assumption) (by assumption))]; exact ⟨_, rfl, false, .refl _⟩)
    | (rw [eqB_eq (take_eq_full (l := l) (m := m) (i := i) (by omega) hpi (by omega))]; exact ⟨_, rfl, false, .refl _⟩)
    | exact loopFrH _ (by omega) ⟨i + 1, by omega, rfl, take_eq_step hpi (by assumption) (by assumption) (by assumption), rfl⟩ (.next rfl (by omega) .nil) rfl
    | (refine loop_frH [4, 5, 13, 14, 15, 16, 17, 18, 19, 20, 21, 22, 23, 24, 25] (fun mm_ CC_ => ∃ (i : Nat), i ≤ l.length ∧ mm_ = l.length - i ∧ (l.take i = m.take i) ∧ CC_ = [(13, .raw (.int .i64 ((i : Nat) : Int)))]) (l.length) _ ⟨0, by omega, by omega, rfl, rfl⟩ (.cons rfl .nil) ?_; rintro mm_ CC_ ji ⟨i, hi, rfl, hpi, rfl⟩)

theorem equalInt (l m : List Int) : PCall Tryz.prog 44 [.lst 1 (l.map (AV.i)) none, .lst 1 (m.map (AV.i)) none] (.b (eqB l m)) := by
  refine pcall_of_vc tabOK Tryz.func44 (by kernel_rfl) rfl pureL pureI (n := 26) rfl (rs := [.tmp 4]) rfl ?_
  repeat' first
    | exact finB rfl
    | exact finI rfl
    | exact finP rfl
    | exact absurd rfl (by assumption)
    | simp only [go_sem]
    | (intro _)
    | refine brK_dec (fun _ => ?_) (fun _ => ?_)
    | refine brK_any ?_ ?_
    | refine gK_dec (fun _ => ?_) (fun _ => ?_)
    | refine gK_any ?_ ?_
    | refine gqK_dec (fun _ => ?_) (fun _ => ?_)
    | refine ⟨by omega, ?_⟩
    | refine elemHave (by omega) (by assumption) ?_
    | refine elemMap (by omega) (by omega) (fun x hx => ?_)
    | refine drawK mo (by kernel_rfl) ?_
    | (rw [eqB_ne (len_ne (l := l) (m := m) (by omega))]; exact ⟨_, rfl, false, .refl _⟩)
    | (rw [eqB_ne (at_ne (l := l) (m := m) (i := i) (by assumption) (by assumption) (by assumption))]; exact ⟨_, rfl, false, .refl _⟩)
    | (rw [eqB_eq (take_eq_full (l := l) (m := m) (i := i) (by omega) hpi (by omega))]; exact ⟨_, rfl, false, .refl _⟩)
    | exact loopFrH _ (by omega) ⟨i + 1, by omega, rfl, take_eq_step hpi (by assumption) (by assumption) (by assumption), rfl⟩ (.next rfl (by omega) .nil) rfl
    | (refine loop_frH [4, 5, 13, 14, 15, 16, 17, 18, 19, 20, 21, 22, 23, 24, 25] (fun mm_ CC_ => ∃ (i : Nat), i ≤ l.length ∧ mm_ = l.length - i ∧ (l.take i = m.take i) ∧ CC_ = [(13, .raw (.int .i64 ((i : Nat) : Int)))]) (l.length) _ ⟨0, by omega, by omega, rfl, rfl⟩ (.cons rfl .nil) ?_; rintro mm_ CC_ ji ⟨i, hi, rfl, hpi, rfl⟩)

theorem equalInts (l m : List (List Int)) {g : Nat} (hp : ∀ x ∈ l, ∀ y ∈ m, PCall Tryz.prog g [AV.il x, AV.il y] (.b (eqB x y))) : PCall Tryz.prog 43 [.lst 1 (l.map (AV.il)) none, .lst 1 (m.map (AV.il)) none, .fn (.func g) [] []] (.b (eqB l m)) := by
  refine pcall_of_vc tabOK Tryz.func43 (by kernel_rfl) rfl pureL pureI (n := 32) rfl (rs := [.tmp 6]) rfl ?_
  repeat' first
    | exact finB rfl
    | exact finI rfl
    | exact finP rfl
    | exact absurd rfl (by assumption)
    | simp only [go_sem]
    | (intro _)
    | refine brK_dec (fun _ => ?_) (fun _ => ?_)
    | refine brK_any ?_ ?_
    | refine gK_dec (fun _ => ?_) (fun _ => ?_)
    | refine gK_any ?_ ?_
    | refine gqK_dec (fun _ => ?_) (fun _ => ?_)
    | refine ⟨by omega, ?_⟩
    | refine elemHave (by omega) (by assumption) ?_
    | refine elemMap (by omega) (by omega) (fun x hx => ?_)
    | refine drawK mo (by kernel_rfl) ?_
    | (rw [eqB_ne (len_ne (l := l) (m := m) (by omega))]; exact ⟨_, rfl, false, .refl _⟩)
    | (rw [eqB_ne (at_ne' (l := l) (m := m) (i := i) (by assumption) (by assumption) (by assumption))]; exact ⟨_, rfl, false, .refl _⟩)
    | (rw [eqB_eq (take_eq_full (l := l) (m := m) (i := i) (by omega) hpi (by omega))]; exact ⟨_, rfl, false, .refl _⟩)
    | (refine PCall.call (hp _ (List.mem_of_getElem? (by assumption)) _ (List.mem_of_getElem? (by assumption))) ?_; generalize he : eqB (α := (List Int)) _ _ = b; cases b <;> first | replace he := eqB_t he | replace he := eqB_f he)
    | exact loopFrX _ (by omega) _ ⟨i + 1, by omega, rfl, take_eq_step' hpi (by assumption) (by assumption) (by assumption), rfl⟩ (.next rfl (by omega) .nil) rfl (by first | rfl | (simp only [List.append_assoc, List.cons_append, List.nil_append]; rfl))
    | (refine loop_frX [6, 7, 8, 9, 17, 18, 19, 20, 21, 22, 23, 24, 25, 26, 27, 28, 29, 30, 31] (fun mm_ CC_ => ∃ (i : Nat), i ≤ l.length ∧ mm_ = l.length - i ∧ (l.take i = m.take i) ∧ CC_ = [(17, .raw (.int .i64 ((i : Nat) : Int)))]) (l.length) _ ⟨0, by omega, by omega, rfl, rfl⟩ (.cons rfl .nil) ?_; rintro mm_ CC_ ji ri ⟨i, hi, rfl, hpi, rfl⟩)

theorem ext_DOp {a b : DOp} (h1 : a.Kind = b.Kind) (h2 : a.Fault = b.Fault) (h3 : a.Ask.Text = b.Ask.Text) (h4 : a.Ask.Bytes = b.Ask.Bytes) (h5 : a.Ask.Image = b.Ask.Image) (h6 : a.Ask.Moves = b.Ask.Moves) (h7 : a.Ask.Fuel = b.Ask.Fuel) (h8 : a.Ins = b.Ins) : sameB a b = true := by
  unfold sameB
  simp [h1, h2, h3, h4, h5, h6, h7, h8]
abbrev trS : Tr := .one 0 (.one 1 (.one 2 (.one 3 (.two 4 (.one 5 (.one 6 (.one 7 .nil))) 5 (.one 4 (.one 6 (.one 7 .nil)))))))

theorem same28 (a b : DOp) : PCall Tryz.prog 24 [a.enc, b.enc] (.b (sameB a b)) := by
  refine pcall_of_vc tabOK Tryz.func24 (by kernel_rfl) rfl (by first | exact pureL | exact pureI) (.raw _) (n := 67) rfl (rs := [.tmp 4]) rfl ?_
  have hbn : (a.Ask.Bytes == b.Ask.Bytes) = decide (a.Ask.Bytes = b.Ask.Bytes) := by cases a.Ask.Bytes <;> cases b.Ask.Bytes <;> rfl
  simp only [go_sem]
  refine drawT trS mo (by kernel_rfl) ?_
  simp only [go_sem]
  refine And.intro ?_ ?_
  all_goals
    repeat' first
      | simp only [go_sem, hbn]
      | (refine PCall.call (equalByte _ _) ?_; generalize he : eqB (α := List Int) _ _ = w; cases w <;> first | replace he := eqB_t he | replace he := eqB_f he)
      | (refine PCall.call (equalInts a.Ins b.Ins (fun x _ y _ => equalInt x y)) ?_; generalize he : eqB (α := List (List Int)) _ _ = w; cases w <;> first | replace he := eqB_t he | replace he := eqB_f he)
      | refine gK_dec (fun _ => ?_) (fun _ => ?_)
      | exact finBq rfl (ext_DOp (by assumption) (by assumption) (by assumption) (by assumption) (by assumption) (by assumption) (by assumption) (by assumption)).symm
      | (refine finBq rfl (sameB_ne ?_).symm; rintro rfl; contradiction)
def hexC : ByteArray := ⟨#[48, 49, 50, 51, 52, 53, 54, 55, 56, 57, 97, 98, 99, 100, 101, 102]⟩
/-- A digit's place in the row of digits. -/
def nibI (c : UInt8) : Int := match nibF c with
  | some n => n
  | none => -1
theorem nib_idx : ∀ c : UInt8, Lib.indexByte (bts hexC) c = nibI c := by
  have : ∀ k : Fin 256, Lib.indexByte (bts hexC) (UInt8.ofNat k.val) = nibI (UInt8.ofNat k.val) := by decide +kernel
  intro c
  have h := this ⟨c.toNat, c.toNat_lt⟩
  simpa using h
theorem nib92 (t : ByteArray) (c : UInt8) : PCall Tryz.prog 81 [.s t, .raw (.int .u8 c.toNat)] (.i (Lib.indexByte (bts t) c)) := by
  refine pcall_of_vc tabOK Tryz.func81 (by kernel_rfl) rfl pureL pureI (n := 8) rfl (rs := [.tmp 4]) rfl ?_
  simp only [go_sem]
  refine PCall.call (idxByte34 _ _) ?_
  simp only [go_sem]
  exact finP rfl
theorem nib80 (c : UInt8) : PCall Tryz.prog 67 [.raw (.int .u8 c.toNat)] (.i (nibI c)) := by
  refine pcall_of_vc tabOK Tryz.func67 (by kernel_rfl) rfl pureL pureI (n := 5) rfl (rs := [.tmp 2]) rfl ?_
  simp only [go_sem]
  refine PCall.call (nib92 hexC c) ?_
  rw [nib_idx]
  simp only [go_sem]
  exact finP rfl
theorem and15 (n : Int) (h : 0 ≤ n ∧ n ≤ 255) : bits .and .u8 n 15 = n % 16 := by
  have h' : ∀ x : Fin 256, bits .and .u8 (x.val : Int) 15 = (x.val : Int) % 16 := by decide +kernel
  have := h' ⟨n.toNat, by omega⟩
  rw [show ((⟨n.toNat, by omega⟩ : Fin 256).val : Int) = n by simp; omega] at this
  exact this
theorem hexC_at (n : Int) (h : 0 ≤ n ∧ n ≤ 15) : hexC.data.toList.getD n.toNat 0 = hexD n := by
  have h' : ∀ x : Fin 16, hexC.data.toList.getD ((x.val : Int)).toNat 0 = hexD (x.val : Int) := by decide +kernel
  have := h' ⟨n.toNat, by omega⟩
  rw [show ((⟨n.toNat, by omega⟩ : Fin 16).val : Int) = n by simp; omega] at this
  exact this
def natsL (l : List UInt8) : List Int := l.map fun b => (b.toNat : Int)
theorem natsL_img (l : List UInt8) : (natsL l).map (fun n => UInt8.ofNat n.toNat) = l := by
  unfold natsL
  rw [List.map_map]
  conv => rhs; rw [← List.map_id l]
  apply List.map_congr_left
  intro b _
  simp
theorem hexL_next {l : List Int} {i : Nat} {n : Int} (h : l[i]? = some n) : natsL (hexL (l.take (i + 1))) = natsL (hexL (l.take i)) ++ [((hexD (n / 16)).toNat : Int), ((hexD (n % 16)).toNat : Int)] := by
  rw [List.take_add_one, h, hexL_app]
  unfold natsL
  rw [List.map_append]
  rfl
theorem natsL_len (l : List Int) : (natsL (hexL l)).length = 2 * l.length := by
  unfold natsL
  rw [List.length_map, hexL_len]

theorem digits46 (l : List Int) (hl : l.length ≤ 100000) (hb : ∀ n ∈ l, 0 ≤ n ∧ n ≤ 255) : PCall Tryz.prog 41 [.lst 1 (l.map AV.u8) none] (.s (hexT l)) := by
  refine pcall_of_vc tabOK Tryz.func41 (by kernel_rfl) rfl (by first | exact pureL | exact pureI) (.raw _) (n := 24) rfl (rs := [.tmp 2]) rfl ?_
  simp only [go_sem]
  intro _
  refine loop_ghost (ghost_tok 3 5 1 rfl) ?_
  refine loop_fr [3, 5, 8, 9, 10, 11, 12, 13, 14, 15, 16, 17, 18, 19, 20, 21] (fun m C hh => ∃ (i : Nat) (r : List Blk), i ≤ l.length ∧ m = l.length - i ∧ C = [(8, .raw (.int .i64 (i : Nat))), (3, .lst 1 ((natsL (hexL (l.take i))).map AV.u8) (some 0))] ∧ hh = .tok 5 1 (natsL (hexL (l.take i))).length :: r) l.length _ ⟨0, [], by omega, by omega, rfl, rfl⟩ (.cons rfl (.cons rfl .nil)) ?_
  rintro m C j hh ⟨i, r, hi, rfl, rfl, rfl⟩
  simp only [go_sem]
  refine brK_dec (fun hlt => ?_) (fun hge => ?_)
  · obtain ⟨n, hn⟩ : ∃ n, l[i]? = some n := ⟨_, List.getElem?_eq_getElem (by omega)⟩
    have hbn := hb n (List.mem_of_getElem? hn)
    have hnx := hexL_next hn
    have hnl := natsL_len (l.take i)
    rw [List.length_take] at hnl
    have ha := and15 n hbn
    have e1 := hexC_at (n / 16) (by omega)
    have e2 := hexC_at (n % 16) (by omega)
    have hsz : hexC.size = 16 := rfl
    unfold hexC at e1 e2
    dsimp only at e1 e2
    repeat' first
      | simp only [go_sem, ha, e1, e2]
      | refine drawK mo (by kernel_rfl) ?_
      | refine elemHave (x := n) (by omega) (by simpa using hn) ?_
      | refine loopFr _ (by omega) ⟨i + 1, r ++ [.tok 5 1 2], by omega, rfl, rfl, by rw [hnx]; simp⟩ (.next rfl (by omega) (.cons (by rw [hnx]; simp [-List.getD_eq_getElem?_getD, e1, e2]) .nil)) rfl
      | refine And.intro (by first | omega | decide | (simp <;> omega)) ?_
  · have hie : i = l.length := by omega
    subst hie
    rw [List.take_length]
    simp only [go_sem]
    exact finSq rfl (by rw [natsL_img]; rfl)

theorem joinB_app2 (a : ByteArray) (l : List ByteArray) : (joinB (a :: l) blankT).size ≤ a.size + 1 + (joinB l blankT).size := by
  cases l with
  | nil => rw [joinB_one]; omega
  | cons b l =>
    have h := congrArg List.length (joinB_c a (b :: l) blankT (by simp))
    rw [List.length_append, List.length_append, bts_len, bts_len, bts_len, bts_len] at h
    have : blankT.size = 1 := rfl
    omega
theorem ahead45 (o : DOp) (ho : OpOK o) : PCall Tryz.prog 40 [o.enc] (.s (aheadW o)) := by
  refine pcall_of_vc tabOK Tryz.func40 (by kernel_rfl) rfl (by first | exact pureL | exact pureI) (.raw _) (n := 31) rfl (rs := [.tmp 2]) rfl ?_
  have hf := itoa16 o.Ask.Fuel ho.fuel
  have hu := itoa16 o.Fault ho.fault
  have hfz := dig_size o.Ask.Fuel ho.fuel
  have huz := dig_size o.Fault ho.fault
  have hmz := ho.moves
  have e1 : (⟨#[124]⟩ : ByteArray).size = 1 := rfl
  have hms : (o.Ask.Moves ++ ⟨#[124]⟩).size = o.Ask.Moves.size + 1 := by rw [ByteArray.size_append, e1]
  unfold aheadW
  by_cases hk : o.Kind = 3
  · have hp : partsW o = [digB o.Ask.Fuel, digB o.Fault, o.Ask.Moves ++ ⟨#[124]⟩] := if_pos hk
    have hsz : (joinB (partsW o) blankT).size ≤ 200000 := by
      rw [hp]
      have j1 := joinB_app2 (digB o.Ask.Fuel) [digB o.Fault, o.Ask.Moves ++ ⟨#[124]⟩]
      have j2 := joinB_app2 (digB o.Fault) [o.Ask.Moves ++ ⟨#[124]⟩]
      rw [joinB_one] at j2
      omega
    have hj := join18 (partsW o) blankT (by rw [hp]; show 3 ≤ 1000000; decide) (by omega)
    rw [hp] at hj hsz ⊢
    have hw : wordW o = if o.Ask.Bytes = true then patchT else updateT := if_pos hk
    rw [hw]
    generalize joinB [digB o.Ask.Fuel, digB o.Fault, o.Ask.Moves ++ ⟨#[124]⟩] blankT = J at hj hsz ⊢
    cases hby : o.Ask.Bytes with
    | false =>
      repeat' first
        | (exfalso; contradiction)
        | simp only [go_sem, hby]
        | refine drawK mo (by kernel_rfl) ?_
        | refine brK_dec (fun _ => ?_) (fun _ => ?_)
        | (refine pcK_of hf ?_)
        | (refine pcK_of hu ?_)
        | (refine PCall.callW hj ⟨.tok _ _ _, .refl _, trivial⟩ ?_)
        | exact finSq rfl rfl
        | refine And.intro (by first | omega | (simp <;> omega)) ?_
    | true =>
      repeat' first
        | (exfalso; contradiction)
        | simp only [go_sem, hby]
        | refine drawK mo (by kernel_rfl) ?_
        | refine brK_dec (fun _ => ?_) (fun _ => ?_)
        | (refine pcK_of hf ?_)
        | (refine pcK_of hu ?_)
        | (refine PCall.callW hj ⟨.tok _ _ _, .refl _, trivial⟩ ?_)
        | exact finSq rfl rfl
        | refine And.intro (by first | omega | (simp <;> omega)) ?_
  · have hp : partsW o = [⟨#[]⟩] := if_neg hk
    have hj := join18 [⟨#[]⟩] blankT (by decide) (by rw [joinB_one]; decide)
    rw [hp, joinB_one]
    rw [joinB_one] at hj
    have hw : wordW o = if o.Ask.Bytes = true then imageT else loadT := if_neg hk
    rw [hw]
    cases hby : o.Ask.Bytes with
    | false =>
      repeat' first
        | (exfalso; contradiction)
        | simp only [go_sem, hby]
        | refine brK_dec (fun _ => ?_) (fun _ => ?_)
        | (refine PCall.callW hj ⟨.tok _ _ _, .refl _, trivial⟩ ?_)
        | exact finSq rfl rfl
        | refine And.intro (by first | omega | decide | (simp <;> omega)) ?_
    | true =>
      repeat' first
        | (exfalso; contradiction)
        | simp only [go_sem, hby]
        | refine brK_dec (fun _ => ?_) (fun _ => ?_)
        | (refine PCall.callW hj ⟨.tok _ _ _, .refl _, trivial⟩ ?_)
        | exact finSq rfl rfl
        | refine And.intro (by first | omega | decide | (simp <;> omega)) ?_
def fewA (a : DAsk) : Prop := a.Text.size ≤ 2500 ∧ a.Image.length ≤ 6000 ∧ a.Moves.size ≤ 1500
def fewO (o : DOp) : Prop := fewA o.Ask ∧ o.Ins.length ≤ 20 ∧ ∀ v ∈ o.Ins, v.length ≤ 30
theorem few_ok {o : DOp} (h : o.ok) (hf : fewO o) : OpOK o := by
  obtain ⟨h1, ⟨_, h3, _, h5⟩, h6, h7⟩ := h
  obtain ⟨⟨f1, f2, f3⟩, f4, f5⟩ := hf
  exact ⟨h1, h7, h5, by omega, by omega, by omega, h3, by omega, fun v hv => by have := f5 v hv; omega, h6⟩

theorem few26 (a : DAsk) : PCallE Tryz.prog 11 [a.enc] (fun r => ∃ b : Bool, r = .b b ∧ (b = true → fewA a)) := by
  refine pcallE_of_vc tabOK Tryz.func11 (by kernel_rfl) rfl pureL (n := 24) rfl (rs := [.tmp 2]) rfl ?_
  repeat' first
    | simp only [go_sem]
    | refine gK_dec (fun _ => ?_) (fun _ => ?_)
    | (intro _)
    | exact finBk (K := fun b => b = true → fewA a) rfl (fun h => Bool.noConfusion h)
    | exact finBk (K := fun b => b = true → fewA a) rfl (fun hb => ⟨by omega, by omega, by omega⟩)

theorem few15 (l : List DOp) (hl : l.length ≤ 50) : PCallE Tryz.prog 4 [.lst 8 (l.map DOp.enc) none] (fun r => ∃ b : Bool, r = .b b ∧ (b = true → ∀ o ∈ l, fewO o)) := by
  refine pcallE_of_vc tabOK Tryz.func4 (by kernel_rfl) rfl pureL (n := 54) rfl (rs := [.tmp 2]) rfl ?_
  simp only [go_sem]
  refine loop_frH [2, 3, 4, 5, 6, 7, 8, 9, 10, 11, 12, 13, 14, 15, 16, 17, 18, 19, 20, 21, 22, 23, 24, 25, 26, 27, 28, 29, 30, 31, 32, 33, 34, 35, 36, 37, 38, 39, 40, 41, 42, 43, 44, 45, 46, 47, 48, 49, 50] (fun m C => ∃ i : Nat, i ≤ l.length ∧ m = l.length - i ∧ (∀ o ∈ l.take i, fewO o) ∧ C = [(3, .raw (.int .i64 (i : Nat)))]) l.length _ ⟨0, by omega, by omega, by simp, rfl⟩ (.cons rfl .nil) ?_
  rintro m C j ⟨i, hi, rfl, hp, rfl⟩
  simp only [go_sem]
  intro _
  by_cases hlt : i < l.length
  · obtain ⟨o, ho⟩ : ∃ o, l[i]? = some o := ⟨_, List.getElem?_eq_getElem hlt⟩
    refine gK_dec (fun _ => ?_) (fun q => by exfalso; omega)
    simp only [go_sem]
    refine brK_dec (fun _ => ?_) (fun q => by exfalso; omega)
    simp only [go_sem]
    refine elemHave (x := o) (by omega) (by simpa using ho) ?_
    simp only [go_sem]
    refine PCallE.call (few26 o.Ask) ?_
    rintro _ ⟨b, rfl, hb⟩
    cases b with
    | false =>
      simp only [go_sem]
      exact finBk (K := fun b => b = true → ∀ o ∈ l, fewO o) rfl (fun h => Bool.noConfusion h)
    | true =>
    have hb := hb rfl
    simp only [go_sem]
    refine elemHave (x := o) (by omega) (by simpa using ho) ?_
    simp only [go_sem]
    intro _
    refine brK_dec (fun _ => ?_) (fun hins => ?_)
    · simp only [go_sem]
      exact finBk (K := fun b => b = true → ∀ o ∈ l, fewO o) rfl (fun h => Bool.noConfusion h)
    simp only [go_sem]
    refine loop_frH [2, 4, 31, 32, 33, 34, 35, 36, 37, 38, 39, 40, 41, 42, 43, 44, 45, 46, 47, 48, 49, 50] (fun m C => ∃ k : Nat, k ≤ o.Ins.length ∧ m = o.Ins.length - k ∧ (∀ v ∈ o.Ins.take k, v.length ≤ 30) ∧ C = [(4, .raw (.int .i64 (k : Nat)))]) o.Ins.length _ ⟨0, by omega, by omega, by simp, rfl⟩ (.cons rfl .nil) ?_
    rintro m C j2 ⟨k, hk, rfl, hq, rfl⟩
    simp only [go_sem]
    refine elemHave (x := o) (by omega) (by simpa using ho) ?_
    simp only [go_sem]
    intro _
    refine brK_dec (fun hlt2 => ?_) (fun hge2 => ?_)
    · obtain ⟨v, hv⟩ : ∃ v, o.Ins[k]? = some v := ⟨_, List.getElem?_eq_getElem (by omega)⟩
      simp only [go_sem]
      refine elemHave (x := o) (by omega) (by simpa using ho) ?_
      simp only [go_sem]
      refine elemHave (x := v) (by omega) (by simpa using hv) ?_
      simp only [go_sem]
      intro _
      refine brK_dec (fun _ => ?_) (fun hv30 => ?_)
      · simp only [go_sem]
        exact finBk (K := fun b => b = true → ∀ o ∈ l, fewO o) rfl (fun h => Bool.noConfusion h)
      · simp only [go_sem]
        exact loopFrH _ (by omega) ⟨k + 1, by omega, rfl, take_all hq hv (by omega), rfl⟩ (.next rfl (by omega) .nil) rfl
    · have hvall := take_full hq (by omega)
      simp only [go_sem]
      exact loopFrH _ (by omega) ⟨i + 1, by omega, rfl, take_all hp ho ⟨hb, by omega, hvall⟩, rfl⟩ (.next rfl (by omega) .nil) rfl
  · have hall := take_full hp (by omega)
    repeat' first
      | simp only [go_sem]
      | refine gK_dec (fun _ => ?_) (fun _ => ?_)
      | (exfalso; omega)
      | refine brK_dec (fun _ => ?_) (fun _ => ?_)
      | (intro _)
      | exact finBk (K := fun b => b = true → ∀ o ∈ l, fewO o) rfl (fun _ => hall)
theorem cut_here {c : UInt8} {t : ByteArray} {i : Nat} (hi : i < t.size) (hc : (bts t)[i]? = some c) (hno : c ∉ (bts t).take i) : cutA t c = .tup [.s (t.extract 0 i), .s (t.extract (i + 1) t.size), .b true] := by
  obtain ⟨h, he⟩ := List.getElem?_eq_some_iff.1 hc
  have e : bts t = (bts t).take i ++ c :: (bts t).drop (i + 1) := by
    conv => lhs; rw [← List.take_append_drop i (bts t), List.drop_eq_getElem_cons h, he]
  obtain ⟨h1, h2, h3⟩ := cut_uniq e hno
  rw [cutA_eq, h1]
  have e1 : bts (t.extract 0 i) = (bts t).take i := by rw [bts_extract]; simp
  rw [bts_inj (h2.trans e1.symm), bts_inj (h3.trans (bts_from _ _).symm)]
theorem cut_none {c : UInt8} {t : ByteArray} (hno : c ∉ bts t) : cutA t c = .tup [.s t, .s ⟨#[]⟩, .b false] := by
  have h : hasB c t = false := decide_eq_false hno
  obtain ⟨h1, h2, _⟩ := cut_no h
  rw [cutA_eq, h1, h2, h]
theorem no_nx {c x : UInt8} {l : List UInt8} {i : Nat} (h : c ∉ l.take i) (hx : l[i]? = some x) (hne : ¬ x = c) : c ∉ l.take (i + 1) := by
  rw [List.take_add_one, hx]
  intro hm
  rcases List.mem_append.1 hm with q | q
  · exact h q
  · simp at q
    exact hne q.symm

theorem cut40 (t : ByteArray) (c : UInt8) (ht : t.size ≤ 1000000) : PCall Tryz.prog 18 [.s t, .raw (.int .u8 c.toNat)] (cutA t c) := by
  refine pcall_of_vc tabOK Tryz.func18 (by kernel_rfl) rfl (by first | exact pureL | exact pureI) (pure_cutA _ _) (n := 27) rfl (rs := [.tmp 4, .tmp 5, .tmp 6]) rfl ?_
  simp only [go_sem]
  refine loop_frH [4, 5, 6, 7, 8, 9, 10, 11, 12, 13, 14, 15, 16, 17, 18, 19, 20, 21, 22, 23, 24, 25] (fun m C => ∃ i : Nat, i ≤ t.size ∧ m = t.size - i ∧ c ∉ (bts t).take i ∧ C = [(7, .raw (.int .i64 (i : Nat)))]) t.size _ ⟨0, by omega, by omega, by simp, rfl⟩ (.cons rfl .nil) ?_
  rintro m C j ⟨i, hi, rfl, hno, rfl⟩
  simp only [go_sem]
  refine brK_dec (fun hlt => ?_) (fun hge => ?_)
  · have hlt' : i < t.size := by omega
    obtain ⟨x, hcc⟩ := bts_at hlt'
    have hbi := bat hcc
    simp only [go_sem]
    refine And.intro (by first | omega | (simp; omega)) ?_
    try simp only [go_sem]
    try rw [hbi]
    by_cases hxc : x = c
    · subst hxc
      rw [cut_here hlt' hcc hno]
      have hw5 : IntKind.i64.wrap ((i : Int) + 1) = ((i + 1 : Nat) : Int) := by rw [wrap_in _ (by omega) (by omega)]; omega
      repeat' first
        | (exfalso; omega)
        | simp only [go_sem, hw5, Int.toNat_natCast]
        | refine brK_dec (fun _ => ?_) (fun _ => ?_)
        | refine drawK mo (by kernel_rfl) ?_
        | refine And.intro (by first | omega | (simp; omega)) ?_
        | exact ⟨_, rfl, false, .refl _⟩
    · have hn : ¬ x.toNat = c.toNat := fun e => hxc (UInt8.toNat_inj.1 e)
      repeat' first
        | (exfalso; omega)
        | simp only [go_sem]
        | refine brK_dec (fun _ => ?_) (fun _ => ?_)
        | exact loopFrH _ (by omega) ⟨i + 1, by omega, rfl, no_nx hno hcc hxc, rfl⟩ (.next rfl (by omega) .nil) rfl
  · rw [List.take_of_length_le (by rw [bts_len]; omega)] at hno
    rw [cut_none hno]
    simp only [go_sem]
    exact ⟨_, rfl, false, .refl _⟩
theorem cut40' (t : ByteArray) (c : UInt8) (k : Int) (hk : (c.toNat : Int) = k) (ht : t.size ≤ 1000000) : PCall Tryz.prog 18 [.s t, .raw (.int .u8 k)] (.tup [.s (bef c t), .s (aft c t), .b (hasB c t)]) := by
  rw [← cutA_eq]
  exact hk ▸ cut40 t c ht
theorem has41 (t : ByteArray) (c : UInt8) (ht : t.size ≤ 1000000) : PCall Tryz.prog 19 [.s t, .raw (.int .u8 c.toNat)] (.b (hasB c t)) := by
  refine pcall_of_vc tabOK Tryz.func19 (by kernel_rfl) rfl pureL pureI (n := 16) rfl (rs := [.tmp 4]) rfl ?_
  simp only [go_sem]
  refine PCall.call (cut40' t c _ rfl ht) ?_
  simp only [go_sem]
  exact finBq rfl rfl
/-- Bytes, and whether there are any. -/
def byA (o : Option (List Int)) : AV := .tup [.lst 1 ((o.getD []).map AV.u8) none, .b o.isSome]
theorem byA_none : byA none = .tup [.lst 1 [] none, .b false] := rfl
theorem byA_some (l : List Int) : byA (some l) = .tup [.lst 1 (l.map AV.u8) none, .b true] := rfl
theorem byA_pure (o : Option (List Int)) : Go.Abs.Pure (byA o) := .tup _ (pure_cons (pure_u8s _) (pure_cons (.raw _) pure_nil))
theorem nib_or (a b : Int) (ha : 0 ≤ a ∧ a ≤ 15) (hb : 0 ≤ b ∧ b ≤ 15) : IntKind.u8.wrap (bits .or .i64 (IntKind.i64.wrap (a * 16)) b) = a * 16 + b := by
  have h : ∀ x y : Fin 16, IntKind.u8.wrap (bits .or .i64 (IntKind.i64.wrap ((x.val : Int) * 16)) (y.val : Int)) = (x.val : Int) * 16 + (y.val : Int) := by decide +kernel
  have := h ⟨a.toNat, by omega⟩ ⟨b.toNat, by omega⟩
  rw [show ((⟨a.toNat, by omega⟩ : Fin 16).val : Int) = a by simp; omega, show ((⟨b.toNat, by omega⟩ : Fin 16).val : Int) = b by simp; omega] at this
  exact this
theorem bytes_two {t : ByteArray} {k : Nat} (h : 2 * k + 1 < t.size) : ∃ x y, (bts t)[2 * k]? = some x ∧ (bts t)[2 * k + 1]? = some y ∧ bts t = (bts t).take (2 * k) ++ x :: y :: (bts t).drop (2 * k + 2) ∧ (bts t).take (2 * k + 2) = (bts t).take (2 * k) ++ [x, y] := by
  have hl : (bts t).length = t.size := bts_len t
  generalize bts t = l at *
  have h1 : 2 * k < l.length := by omega
  have h2 : 2 * k + 1 < l.length := by omega
  refine ⟨l[2 * k], l[2 * k + 1], List.getElem?_eq_getElem h1, List.getElem?_eq_getElem h2, ?_, ?_⟩
  · conv => lhs; rw [← List.take_append_drop (2 * k) l, List.drop_eq_getElem_cons h1, List.drop_eq_getElem_cons h2]
  · rw [show 2 * k + 2 = (2 * k + 1) + 1 by omega, List.take_succ_eq_append_getElem h2, List.take_succ_eq_append_getElem h1, List.append_assoc]
    rfl
theorem oct_two {t : ByteArray} {k : Nat} {l : List Int} {x y : UInt8} {a b : Int} (hl : octL ((bts t).take (2 * k)) = some l) (ht : (bts t).take (2 * k + 2) = (bts t).take (2 * k) ++ [x, y]) (ha : nibF x = some a) (hb : nibF y = some b) : octL ((bts t).take (2 * (k + 1))) = some (l ++ [a * 16 + b]) := by
  rw [show 2 * (k + 1) = 2 * k + 2 by omega, ht, oct_snoc _ _ _ _ (Nat.le_refl _) hl]
  simp only [octL, ha, hb]
theorem oct_bad {t : ByteArray} {k : Nat} {l : List Int} {x y : UInt8} (hl : octL ((bts t).take (2 * k)) = some l) (ht : bts t = (bts t).take (2 * k) ++ x :: y :: (bts t).drop (2 * k + 2)) (h : nibF x = none ∨ nibF y = none) : octL (bts t) = none := by
  rw [ht, oct_snoc _ _ _ _ (Nat.le_refl _) hl]
  rcases h with h | h
  · simp only [octL, h]
  · simp only [octL, h]
    cases nibF x <;> rfl

theorem octets65 (t : ByteArray) (ht : t.size ≤ 100000) : PCall Tryz.prog 54 [.s t] (byA (octL (bts t))) := by
  refine pcall_of_vc tabOK Tryz.func54 (by kernel_rfl) rfl (by first | exact pureL | exact pureI) (byA_pure _) (n := 42) rfl (rs := [.tmp 2, .tmp 3]) rfl ?_
  have hl : (bts t).length = t.size := bts_len t
  have hmod : ((t.size : Int)).tmod 2 = ((t.size % 2 : Nat) : Int) := by rw [Int.tmod_eq_emod_of_nonneg (by omega)]; omega
  simp only [go_sem, hmod]
  try refine And.intro (by decide) ?_
  try simp only [go_sem, hmod]
  refine brK_dec (fun hodd => ?_) (fun heven => ?_)
  · rw [oct_odd _ (bts t) (Nat.le_refl _) (by rw [hl]; omega), byA_none]
    simp only [go_sem]
    exact ⟨_, rfl, false, weak_t2 (.nil _) (.refl _)⟩
  · have he : t.size % 2 = 0 := by omega
    simp only [go_sem]
    refine loop_ghost (ghost_tok 4 5 1 rfl) ?_
    refine loop_fr [2, 3, 4, 5, 6, 7, 12, 13, 14, 15, 16, 17, 18, 19, 20, 21, 22, 23, 24, 25, 26, 27, 28, 29, 30, 31, 32, 33, 34, 35, 36, 37, 38, 39, 40] (fun m C hh => ∃ (k : Nat) (l : List Int) (r : List Blk), 2 * k ≤ t.size ∧ octL ((bts t).take (2 * k)) = some l ∧ m = t.size - 2 * k ∧ C = [(5, .raw (.int .i64 ((2 * k : Nat) : Int))), (4, .lst 1 (l.map AV.u8) (some 0))] ∧ hh = .tok 5 1 l.length :: r) t.size _ ⟨0, [], [], by omega, by simp [octL], by omega, rfl, rfl⟩ (.cons rfl (.cons rfl .nil)) ?_
    rintro m C j hh ⟨k, l, r, hk, hol, rfl, rfl, rfl⟩
    simp only [go_sem]
    refine brK_dec (fun hlt => ?_) (fun hge => ?_)
    · have hlt2 : 2 * k + 1 < t.size := by omega
      obtain ⟨x, y, hx, hy, e1, e2⟩ := bytes_two hlt2
      have hbx := bat hx
      have hby := bat hy
      have hll := (oct_bytes _ _ _ (Nat.le_refl _) hol).1
      rw [List.length_take] at hll
      have hw1 : IntKind.i64.wrap (((2 * k : Nat) : Int) + 1) = ((2 * k + 1 : Nat) : Int) := by rw [wrap_in _ (by omega) (by omega)]; omega
      have hw2 : IntKind.i64.wrap (((2 * k : Nat) : Int) + 2) = ((2 * (k + 1) : Nat) : Int) := by rw [wrap_in _ (by omega) (by omega)]; omega
      have hcx := nib80 x
      have hcy := nib80 y
      cases hnx : nibF x with
      | none =>
        have hbad := oct_bad hol e1 (.inl hnx)
        have hix : nibI x = -1 := by unfold nibI; rw [hnx]
        rw [hix] at hcx
        rw [hbad, byA_none]
        generalize nibI y = ny at hcy
        repeat' first
          | simp only [go_sem, hw1, hw2, hbx, hby]
          | refine drawK mo (by kernel_rfl) ?_
          | (refine pcK_of hcx ?_)
          | (refine pcK_of hcy ?_)
          | refine And.intro (by first | omega | (simp; omega)) ?_
          | exact ⟨_, rfl, false, weak_t2 (.nil _) (.refl _)⟩
      | some a =>
        have hix : nibI x = a := by unfold nibI; rw [hnx]
        rw [hix] at hcx
        have ha := nib_bd hnx
        cases hny : nibF y with
        | none =>
          have hbad := oct_bad hol e1 (.inr hny)
          have hiy : nibI y = -1 := by unfold nibI; rw [hny]
          rw [hiy] at hcy
          rw [hbad, byA_none]
          repeat' first
            | (exfalso; omega)
            | simp only [go_sem, hw1, hw2, hbx, hby]
            | refine drawK mo (by kernel_rfl) ?_
            | (refine pcK_of hcx ?_)
            | (refine pcK_of hcy ?_)
            | refine gK_dec (fun _ => ?_) (fun _ => ?_)
            | refine And.intro (by first | omega | (simp; omega)) ?_
            | exact ⟨_, rfl, false, weak_t2 (.nil _) (.refl _)⟩
        | some b =>
          have hiy : nibI y = b := by unfold nibI; rw [hny]
          rw [hiy] at hcy
          have hb := nib_bd hny
          have hor := nib_or a b ha hb
          have hnext := oct_two hol e2 hnx hny
          repeat' first
            | (exfalso; omega)
            | simp only [go_sem, hw1, hw2, hbx, hby, hor]
            | refine drawK mo (by kernel_rfl) ?_
            | (refine pcK_of hcx ?_)
            | (refine pcK_of hcy ?_)
            | refine gK_dec (fun _ => ?_) (fun _ => ?_)
            | refine brK_dec (fun _ => ?_) (fun _ => ?_)
            | exact loopFr _ (by omega) ⟨k + 1, _, r ++ [.tok 5 1 1], by omega, hnext, rfl, rfl, by simp⟩ (.cons rfl (.cons (by simp [hor]) .nil)) rfl
            | refine And.intro (by first | omega | (simp; omega)) ?_
    · have hie : 2 * k = t.size := by omega
      rw [hie, List.take_of_length_le (by omega)] at hol
      rw [hol, byA_some]
      simp only [go_sem]
      exact ⟨_, rfl, false, weak_t2 (.tok _ _ _) (.refl _)⟩
/-- A digit's value, 16: it is none. -/
def hexI (c : UInt8) : Int := match nibF c with
  | some n => n
  | none => 16
theorem hex75 (c : UInt8) : PCall Tryz.prog 57 [.raw (.int .u8 c.toNat)] (.raw (.int .u8 (hexI c))) := by
  refine pcall_of_vc tabOK Tryz.func57 (by kernel_rfl) rfl pureL pureI (n := 20) rfl (rs := [.tmp 2]) rfl ?_
  have hc := c.toNat_lt
  unfold hexI nibF
  by_cases h1 : 48 ≤ c.toNat ∧ c.toNat ≤ 57
  · rw [if_pos h1]
    have hw1 : IntKind.u8.wrap ((c.toNat : Int) - 48) = (c.toNat : Int) - 48 := u8_in _ (by omega) (by omega)
    repeat' first
      | (exfalso; omega)
      | simp only [go_sem, hw1]
      | refine gK_dec (fun _ => ?_) (fun _ => ?_)
      | refine brK_dec (fun _ => ?_) (fun _ => ?_)
      | exact finP rfl
  · rw [if_neg h1]
    by_cases h2 : 97 ≤ c.toNat ∧ c.toNat ≤ 102
    · rw [if_pos h2]
      have hw1 : IntKind.u8.wrap ((c.toNat : Int) - 97) = (c.toNat : Int) - 97 := u8_in _ (by omega) (by omega)
      have hw2 : IntKind.u8.wrap ((c.toNat : Int) - 97 + 10) = (c.toNat : Int) - 87 := by rw [u8_in _ (by omega) (by omega)]; omega
      repeat' first
        | (exfalso; omega)
        | simp only [go_sem, hw1, hw2]
        | refine gK_dec (fun _ => ?_) (fun _ => ?_)
        | refine brK_dec (fun _ => ?_) (fun _ => ?_)
        | exact finP rfl
    · rw [if_neg h2]
      repeat' first
        | (exfalso; omega)
        | simp only [go_sem]
        | refine gK_dec (fun _ => ?_) (fun _ => ?_)
        | refine brK_dec (fun _ => ?_) (fun _ => ?_)
        | exact finP rfl

theorem bytes63 (t : ByteArray) (ht : t.size ≤ 100000) : PCall Tryz.prog 39 [.s t] (byA (octL (bts t))) := by
  refine pcall_of_vc tabOK Tryz.func39 (by kernel_rfl) rfl (by first | exact pureL | exact pureI) (byA_pure _) (n := 42) rfl (rs := [.tmp 2, .tmp 3]) rfl ?_
  have hl : (bts t).length = t.size := bts_len t
  have hmod : ((t.size : Int)).tmod 2 = ((t.size % 2 : Nat) : Int) := by rw [Int.tmod_eq_emod_of_nonneg (by omega)]; omega
  simp only [go_sem, hmod]
  try refine And.intro (by decide) ?_
  try simp only [go_sem, hmod]
  refine brK_dec (fun hodd => ?_) (fun heven => ?_)
  · rw [oct_odd _ (bts t) (Nat.le_refl _) (by rw [hl]; omega), byA_none]
    simp only [go_sem]
    exact ⟨_, rfl, false, weak_t2 (.nil _) (.refl _)⟩
  · have he : t.size % 2 = 0 := by omega
    simp only [go_sem]
    refine loop_fr [2, 3, 4, 5, 6, 7, 13, 14, 15, 16, 17, 18, 19, 20, 21, 22, 23, 24, 25, 26, 27, 28, 29, 30, 31, 32, 33, 34, 35, 36, 37, 38, 39, 40] (fun m C hh => ∃ (k : Nat) (l : List Int) (r : List Blk), 2 * k ≤ t.size ∧ octL ((bts t).take (2 * k)) = some l ∧ m = t.size - 2 * k ∧ C = [(5, .raw (.int .i64 ((2 * k : Nat) : Int))), (4, .lst 1 (l.map AV.u8) (some 0))] ∧ hh = .tok 5 1 l.length :: r) t.size _ ⟨0, [], [], by omega, by simp [octL], by omega, rfl, rfl⟩ (.cons rfl (.cons rfl .nil)) ?_
    rintro m C j hh ⟨k, l, r, hk, hol, rfl, rfl, rfl⟩
    simp only [go_sem]
    refine brK_dec (fun hlt => ?_) (fun hge => ?_)
    · have hlt2 : 2 * k + 1 < t.size := by omega
      obtain ⟨x, y, hx, hy, e1, e2⟩ := bytes_two hlt2
      have hbx := bat hx
      have hby := bat hy
      have hll := (oct_bytes _ _ _ (Nat.le_refl _) hol).1
      rw [List.length_take] at hll
      have hw1 : IntKind.i64.wrap (((2 * k : Nat) : Int) + 1) = ((2 * k + 1 : Nat) : Int) := by rw [wrap_in _ (by omega) (by omega)]; omega
      have hw2 : IntKind.i64.wrap (((2 * k : Nat) : Int) + 2) = ((2 * (k + 1) : Nat) : Int) := by rw [wrap_in _ (by omega) (by omega)]; omega
      have hcx := hex75 x
      have hcy := hex75 y
      cases hnx : nibF x with
      | none =>
        have hbad := oct_bad hol e1 (.inl hnx)
        have hix : hexI x = 16 := by unfold hexI; rw [hnx]
        rw [hix] at hcx
        rw [hbad, byA_none]
        generalize hexI y = ny at hcy
        repeat' first
          | simp only [go_sem, hw1, hw2, hbx, hby]
          | refine drawK mo (by kernel_rfl) ?_
          | (refine pcK_of hcx ?_)
          | (refine pcK_of hcy ?_)
          | refine And.intro (by first | omega | (simp; omega)) ?_
          | exact ⟨_, rfl, false, weak_t2 (.nil _) (.refl _)⟩
      | some a =>
        have hix : hexI x = a := by unfold hexI; rw [hnx]
        rw [hix] at hcx
        have ha := nib_bd hnx
        cases hny : nibF y with
        | none =>
          have hbad := oct_bad hol e1 (.inr hny)
          have hiy : hexI y = 16 := by unfold hexI; rw [hny]
          rw [hiy] at hcy
          rw [hbad, byA_none]
          repeat' first
            | (exfalso; omega)
            | simp only [go_sem, hw1, hw2, hbx, hby]
            | refine drawK mo (by kernel_rfl) ?_
            | (refine pcK_of hcx ?_)
            | (refine pcK_of hcy ?_)
            | refine gK_dec (fun _ => ?_) (fun _ => ?_)
            | refine And.intro (by first | omega | (simp; omega)) ?_
            | exact ⟨_, rfl, false, weak_t2 (.nil _) (.refl _)⟩
        | some b =>
          have hiy : hexI y = b := by unfold hexI; rw [hny]
          rw [hiy] at hcy
          have hb := nib_bd hny
          have hor : IntKind.u8.wrap (IntKind.u8.wrap (a * 16) + b) = a * 16 + b := by rw [u8_in (a * 16) (by omega) (by omega), u8_in _ (by omega) (by omega)]
          have hnext := oct_two hol e2 hnx hny
          repeat' first
            | (exfalso; omega)
            | simp only [go_sem, hw1, hw2, hbx, hby, hor]
            | refine drawK mo (by kernel_rfl) ?_
            | (refine pcK_of hcx ?_)
            | (refine pcK_of hcy ?_)
            | refine gK_dec (fun _ => ?_) (fun _ => ?_)
            | refine brK_dec (fun _ => ?_) (fun _ => ?_)
            | exact loopFr _ (by omega) ⟨k + 1, _, r ++ [.tok 5 1 1], by omega, hnext, rfl, rfl, by simp⟩ (.cons rfl (.cons (by simp [hor]) .nil)) rfl
            | refine And.intro (by first | omega | (simp; omega)) ?_
    · have hie : 2 * k = t.size := by omega
      rw [hie, List.take_of_length_le (by omega)] at hol
      rw [hol, byA_some]
      simp only [go_sem]
      exact ⟨_, rfl, false, weak_t2 (.tok _ _ _) (.refl _)⟩
theorem num_shape' {t : ByteArray} {v : Int} (h : numB t = some v) {f : Nat} (hf : f = if (bts t).head? = some 45 then 1 else 0) : ((bts t).drop f).all isDg = true ∧ 1 ≤ t.size - f ∧ t.size - f ≤ 19 ∧ decV 0 ((bts t).drop f) = v.natAbs ∧ (v < 0 ↔ f = 1) := by
  obtain ⟨l, h1, h2, h3, h4, h5⟩ := num_shape h
  change bts t = _ at h1
  have hl : (bts t).length = t.size := bts_len t
  rw [h1] at hf hl ⊢
  by_cases hv : v < 0
  · rw [if_pos hv] at hf hl ⊢
    simp at hf
    subst hf
    simp at hl ⊢
    refine ⟨by simpa using h2, by omega, by omega, h5, by omega⟩
  · rw [if_neg hv] at hf hl ⊢
    have hh : ¬ l.head? = some 45 := fun q => by
      cases l with
      | nil => cases q
      | cons c l =>
        simp at q
        subst q
        rw [List.all_cons, Bool.and_eq_true] at h2
        exact absurd h2.1 (by decide)
    rw [if_neg hh] at hf
    subst hf
    simp at hl ⊢
    refine ⟨by simpa using h2, by omega, by omega, h5, by omega⟩
theorem decV_ge : ∀ (l r : List UInt8) (a : Nat), decV a l ≤ decV a (l ++ r)
  | l, [], a => by rw [List.append_nil]; exact Nat.le_refl _
  | l, c :: r, a => by
    have h := decV_ge (l ++ [c]) r a
    rw [decV_snoc, List.append_assoc] at h
    exact Nat.le_trans (by omega) h
theorem decV_take {l : List UInt8} {k : Nat} : decV 0 (l.take k) ≤ decV 0 l := by
  have := decV_ge (l.take k) (l.drop k) 0
  rwa [List.take_append_drop] at this
theorem i64_wrap (n : Int) : I64 (IntKind.i64.wrap n) := by
  unfold I64 IntKind.wrap
  simp [IntKind.bits, IntKind.signed]
  constructor <;> (split <;> omega)
theorem u64_wrap (n : Int) : 0 ≤ IntKind.u64.wrap n ∧ IntKind.u64.wrap n < 18446744073709551616 := by
  unfold IntKind.wrap
  simp [IntKind.bits, IntKind.signed]
  omega
theorem i64_of_neg (n : Int) (h1 : 1 ≤ n) (h2 : n ≤ 9223372036854775808) : IntKind.i64.wrap (IntKind.u64.wrap (0 - n)) = -n := by
  have h : IntKind.u64.wrap (0 - n) = 18446744073709551616 - n := by
    unfold IntKind.wrap
    simp [IntKind.bits, IntKind.signed]
    omega
  rw [h]
  unfold IntKind.wrap
  simp [IntKind.bits, IntKind.signed]
  split <;> omega
theorem numR_no {t : ByteArray} {n : Int} (h : ∀ v, numB t = some v → False) : NumR t n false := by
  unfold NumR
  cases e : numB t with
  | some v => exact (h v e).elim
  | none => rfl
/-- The digit's step. -/
theorem dig_step (n : Int) (x : UInt8) (h1 : 48 ≤ x.toNat) (h2 : x.toNat ≤ 57) (k : Nat) (hn : n = k) (hk : k * 10 + (x.toNat - 48) ≤ 9223372036854775808) :
    IntKind.u64.wrap (IntKind.u64.wrap (n * 10) + IntKind.u64.wrap (IntKind.u8.wrap ((x.toNat : Int) - 48))) = ((k * 10 + (x.toNat - 48) : Nat) : Int) := by
  subst hn
  rw [u8_in _ (by omega) (by omega), u64_in ((k : Int) * 10) (by omega) (by omega), u64_in ((x.toNat : Int) - 48) (by omega) (by omega), u64_in _ (by omega) (by omega)]
  omega
/-- What holds of a number read so far. -/
def NumI (t : ByteArray) (f i : Nat) (n : Int) : Prop := 0 ≤ n ∧ n < 18446744073709551616 ∧ ∀ v, numB t = some v → n = (decV 0 (((bts t).drop f).take (i - f)) : Nat)
theorem numI_next {t : ByteArray} {f i : Nat} {n : Int} {x : UInt8} (hf : f = if (bts t).head? = some 45 then 1 else 0) (h : NumI t f i n) (hfi : f ≤ i) (hx : (bts t)[i]? = some x) (h1 : 48 ≤ x.toNat) (h2 : x.toNat ≤ 57) :
    NumI t f (i + 1) (IntKind.u64.wrap (IntKind.u64.wrap (n * 10) + IntKind.u64.wrap (IntKind.u8.wrap ((x.toNat : Int) - 48)))) := by
  refine ⟨(u64_wrap _).1, (u64_wrap _).2, fun v hv => ?_⟩
  obtain ⟨_, _, _, h5, _⟩ := num_shape' hv hf
  have hI := (num_some hv).2.2
  have hnx : decV 0 (((bts t).drop f).take (i + 1 - f)) = decV 0 (((bts t).drop f).take (i - f)) * 10 + (x.toNat - 48) := by
    rw [show i + 1 - f = (i - f) + 1 by omega, List.take_add_one, List.getElem?_drop, show f + (i - f) = i by omega, hx]
    exact decV_snoc _ _ _
  have hle := decV_take (l := (bts t).drop f) (k := i + 1 - f)
  rw [h5, hnx] at hle
  rw [dig_step n x h1 h2 _ (h.2.2 v hv) (by have := hI.1; have := hI.2; omega), hnx]
theorem numI_bad {t : ByteArray} {f i : Nat} {x : UInt8} (hf : f = if (bts t).head? = some 45 then 1 else 0) (hfi : f ≤ i) (hx : (bts t)[i]? = some x) (h1 : x.toNat < 48 ∨ 57 < x.toNat) {n : Int} : NumR t n false := numR_no fun v hv => by
  obtain ⟨h2, _⟩ := num_shape' hv hf
  rw [List.all_eq_true] at h2
  have := h2 x (List.mem_iff_getElem?.2 ⟨i - f, by rw [List.getElem?_drop, show f + (i - f) = i by omega]; exact hx⟩)
  simp [isDg] at this
  omega
theorem numI_len {t : ByteArray} {f : Nat} (hf : f = if (bts t).head? = some 45 then 1 else 0) (h : ¬ (1 ≤ t.size - f ∧ t.size - f ≤ 19)) {n : Int} : NumR t n false := numR_no fun v hv => by
  obtain ⟨_, h2, h3, _⟩ := num_shape' hv hf
  exact h ⟨h2, h3⟩
theorem numI_end0 {t : ByteArray} {n : Int} (hf : 0 = if (bts t).head? = some 45 then 1 else 0) (h : NumI t 0 t.size n) : NumR t (IntKind.i64.wrap n) (decide (digB (IntKind.i64.wrap n) = t)) := numR_dec (i64_wrap _) fun v hv => by
  obtain ⟨_, _, _, h5, h6⟩ := num_shape' hv hf
  have h1 := h.2.2 v hv
  have hI := (num_some hv).2.2
  rw [List.take_of_length_le (by rw [List.length_drop, bts_len]; omega), h5] at h1
  have hv0 : ¬ v < 0 := fun q => absurd (h6.1 q) (by decide)
  rw [h1, show ((v.natAbs : Nat) : Int) = v by omega, wrap_in v hI.1 hI.2]
theorem numI_end1 {t : ByteArray} {n : Int} (hf : 1 = if (bts t).head? = some 45 then 1 else 0) (h : NumI t 1 t.size n) : NumR t (IntKind.i64.wrap (IntKind.u64.wrap (0 - n))) (decide (digB (IntKind.i64.wrap (IntKind.u64.wrap (0 - n))) = t)) := numR_dec (i64_wrap _) fun v hv => by
  obtain ⟨_, _, _, h5, h6⟩ := num_shape' hv hf
  have h1 := h.2.2 v hv
  have hI := (num_some hv).2.2
  rw [List.take_of_length_le (by rw [List.length_drop, bts_len]; omega), h5] at h1
  have hv0 : v < 0 := h6.2 rfl
  have := hI.1
  rw [h1, i64_of_neg _ (by omega) (by omega)]
  omega

theorem number62 (t : ByteArray) (ht : t.size ≤ 1000000) : PCallE Tryz.prog 38 [.s t] (NumRes t) := by
  have hz64 : I64 0 := ⟨by decide, by decide⟩
  refine pcallE_of_vc tabOK Tryz.func38 (by kernel_rfl) rfl pureL (n := 65) rfl (rs := [.tmp 2, .tmp 3]) rfl ?_
  simp only [go_sem]
  by_cases h0 : t.size = 0
  · have hR : NumR t 0 false := numR_no fun v hv => by
      have := (num_shape' hv rfl).2.1
      omega
    have hw0 : IntKind.i64.wrap ((t.size : Int) - 0) = (t.size : Int) := by rw [wrap_in _ (by omega) (by omega)]; omega
    repeat' first
      | simp only [go_sem, hw0]
      | refine gK_dec (fun _ => ?_) (fun _ => ?_)
      | refine brK_dec (fun _ => ?_) (fun _ => ?_)
      | (exfalso; omega)
      | exact finT2 rfl rfl (.raw _) (.raw _) ⟨_, _, rfl, hz64, hR⟩
  have hlt' : 0 < t.size := by omega
  obtain ⟨x0, hx0⟩ := bts_at hlt'
  have hb0 : (t.data.toList.getD 0 0).toNat = x0.toNat := bat hx0
  have hhd : (bts t).head? = some x0 := by rw [List.head?_eq_getElem?]; exact hx0
  refine gK_dec (fun _ => ?_) (fun _ => by exfalso; omega)
  simp only [go_sem]
  refine And.intro (by first | omega | (simp; omega)) ?_
  try simp only [go_sem]
  by_cases h45 : x0 = 45
  · subst h45
    have hf : 1 = if (bts t).head? = some 45 then 1 else 0 := by rw [hhd]; rfl
    rw [show (45 : UInt8).toNat = 45 from rfl] at hb0
    have hw0 : IntKind.i64.wrap ((t.size : Int) - 1) = ((t.size - 1 : Nat) : Int) := by rw [wrap_in _ (by omega) (by omega)]; omega
    rw [hb0]
    repeat' first
      | simp only [go_sem, hw0]
      | (refine gK_dec (fun _ => ?_) (fun _ => ?_))
      | (refine brK_dec (fun _ => ?_) (fun _ => ?_))
      | (exfalso; omega)
      | exact finT2 rfl rfl (.raw _) (.raw _) ⟨_, _, rfl, hz64, numI_len hf (by omega)⟩
    refine loop_frH [2, 3, 4, 6, 29, 30, 31, 32, 33, 34, 35, 36, 37, 38, 39, 40, 41, 42, 43, 44, 45, 46, 47, 48, 49, 50, 51, 52] (fun m C => ∃ (i : Nat) (n : Int), 1 ≤ i ∧ i ≤ t.size ∧ m = t.size - i ∧ NumI t 1 i n ∧ C = [(6, .raw (.int .i64 (i : Nat))), (4, .raw (.int .u64 n))]) (t.size - 1) _ ⟨1, 0, by omega, by omega, by omega, ⟨by omega, by omega, fun v _ => by simp [decV]⟩, rfl⟩ (.cons rfl (.cons rfl .nil)) ?_
    rintro m C j ⟨i, n, hfi, hi, rfl, hN, rfl⟩
    simp only [go_sem]
    refine brK_dec (fun hlt => ?_) (fun hge => ?_)
    · have hlt2 : i < t.size := by omega
      obtain ⟨x, hcc⟩ := bts_at hlt2
      have hbi := bat hcc
      repeat' first
        | simp only [go_sem, hbi]
        | (refine gK_dec (fun _ => ?_) (fun _ => ?_))
        | (refine brK_dec (fun _ => ?_) (fun _ => ?_))
        | (exfalso; omega)
        | refine And.intro (by first | omega | (simp; omega)) ?_
        | exact finT2 rfl rfl (.raw _) (.raw _) ⟨_, _, rfl, hz64, numI_bad hf hfi hcc (by omega)⟩
        | exact loopFrH _ (by omega) ⟨i + 1, _, by omega, by omega, rfl, numI_next hf hN hfi hcc (by omega) (by omega), rfl⟩ (.next rfl (by omega) (.cons rfl .nil)) rfl
    · have hie : i = t.size := by omega
      subst hie
      have hE := numI_end1 hf hN
      repeat' first
        | simp only [go_sem]
        | (refine PCall.call (digits59 _ (i64_wrap _)) ?_)
        | (refine brK_dec (fun _ => ?_) (fun _ => ?_))
        | (exfalso; omega)
        | exact finT2 rfl rfl (.raw _) (.raw _) ⟨_, _, rfl, i64_wrap _, hE⟩

  · have hf : 0 = if (bts t).head? = some 45 then 1 else 0 := by
      rw [hhd, if_neg]
      intro q
      exact h45 (Option.some.inj q)
    have hb45 : ¬ x0.toNat = 45 := fun q => h45 (UInt8.toNat_inj.1 q)
    have hw0 : IntKind.i64.wrap ((t.size : Int) - 0) = ((t.size - 0 : Nat) : Int) := by rw [wrap_in _ (by omega) (by omega)]; omega
    rw [hb0]
    repeat' first
      | simp only [go_sem, hw0]
      | (refine gK_dec (fun _ => ?_) (fun _ => ?_))
      | (refine brK_dec (fun _ => ?_) (fun _ => ?_))
      | (exfalso; omega)
      | exact finT2 rfl rfl (.raw _) (.raw _) ⟨_, _, rfl, hz64, numI_len hf (by omega)⟩
    refine loop_frH [2, 3, 4, 6, 29, 30, 31, 32, 33, 34, 35, 36, 37, 38, 39, 40, 41, 42, 43, 44, 45, 46, 47, 48, 49, 50, 51, 52] (fun m C => ∃ (i : Nat) (n : Int), 0 ≤ i ∧ i ≤ t.size ∧ m = t.size - i ∧ NumI t 0 i n ∧ C = [(6, .raw (.int .i64 (i : Nat))), (4, .raw (.int .u64 n))]) (t.size - 0) _ ⟨0, 0, by omega, by omega, by omega, ⟨by omega, by omega, fun v _ => by simp [decV]⟩, rfl⟩ (.cons rfl (.cons rfl .nil)) ?_
    rintro m C j ⟨i, n, hfi, hi, rfl, hN, rfl⟩
    simp only [go_sem]
    refine brK_dec (fun hlt => ?_) (fun hge => ?_)
    · have hlt2 : i < t.size := by omega
      obtain ⟨x, hcc⟩ := bts_at hlt2
      have hbi := bat hcc
      repeat' first
        | simp only [go_sem, hbi]
        | (refine gK_dec (fun _ => ?_) (fun _ => ?_))
        | (refine brK_dec (fun _ => ?_) (fun _ => ?_))
        | (exfalso; omega)
        | refine And.intro (by first | omega | (simp; omega)) ?_
        | exact finT2 rfl rfl (.raw _) (.raw _) ⟨_, _, rfl, hz64, numI_bad hf hfi hcc (by omega)⟩
        | exact loopFrH _ (by omega) ⟨i + 1, _, by omega, by omega, rfl, numI_next hf hN hfi hcc (by omega) (by omega), rfl⟩ (.next rfl (by omega) (.cons rfl .nil)) rfl
    · have hie : i = t.size := by omega
      subst hie
      have hE := numI_end0 hf hN
      repeat' first
        | simp only [go_sem]
        | (refine PCall.call (digits59 _ (i64_wrap _)) ?_)
        | (refine brK_dec (fun _ => ?_) (fun _ => ?_))
        | (exfalso; omega)
        | exact finT2 rfl rfl (.raw _) (.raw _) ⟨_, _, rfl, i64_wrap _, hE⟩

theorem outV_step {t z : ByteArray} {n : Nat} {v : Int} (hz : (pieces 44 t)[n]? = some z) (hi : mapO numB ((pieces 44 t).take n) = some (outV t n)) (hf : numB z = some v) : outV t (n + 1) = outV t n ++ [v] ∧ mapO numB ((pieces 44 t).take (n + 1)) = some (outV t (n + 1)) := by
  have h := mapO_at hz hi hf
  have e : outV t (n + 1) = outV t n ++ [v] := by
    show (mapO numB ((pieces 44 t).take (n + 1))).getD [] = _
    rw [h]
    rfl
  exact ⟨e, by rw [e]; exact h⟩
theorem insV_step {t z : ByteArray} {n : Nat} {v : List Int} (hz : (pieces 32 t)[n]? = some z) (hi : mapO valueB ((pieces 32 t).take n) = some (insV t n)) (hf : valueB z = some v) : insV t (n + 1) = insV t n ++ [v] ∧ mapO valueB ((pieces 32 t).take (n + 1)) = some (insV t (n + 1)) := by
  have h := mapO_at hz hi hf
  have e : insV t (n + 1) = insV t n ++ [v] := by
    show (mapO valueB ((pieces 32 t).take (n + 1))).getD [] = _
    rw [h]
    rfl
  exact ⟨e, by rw [e]; exact h⟩

theorem value61 (t : ByteArray) (ht : t.size ≤ 100000) : PCall Tryz.prog 37 [.s t] (ilA (valueB t)) := by
  refine pcall_of_vc tabOK Tryz.func37 (by kernel_rfl) rfl (by first | exact pureL | exact pureI) (ilA_pure _) (n := 29) rfl (rs := [.tmp 2, .tmp 3]) rfl ?_
  have hpl := pieces_le 44 t
  have hpp := pieces_pos 44 t
  simp only [go_sem]
  refine loop_fr [0, 2, 3, 4, 5, 6, 7, 8, 10, 11, 12, 13, 14, 15, 16, 17, 18, 19, 20, 21, 22, 23, 24, 25, 26, 27] (fun m C hh => ∃ (n : Nat) (s : ByteArray) (r : List Blk), n ≤ (pieces 44 t).length ∧ (n < (pieces 44 t).length → s = restN 44 t n) ∧ m = (pieces 44 t).length - n ∧ mapO numB ((pieces 44 t).take n) = some (outV t n) ∧ C = [(5, .b (decide (n < (pieces 44 t).length))), (0, .s s), (4, .lst 1 ((outV t n).map AV.i) (some 0))] ∧ hh = .tok 2 1 (outV t n).length :: r) (pieces 44 t).length _ ⟨0, t, [], by omega, fun _ => rfl, by omega, rfl, rfl, rfl⟩ (.cons (by rw [decide_eq_true hpp]; rfl) (.cons rfl (.cons rfl .nil))) ?_
  rintro m C j hh ⟨n, s, r, hn, hs, rfl, hi, rfl, rfl⟩
  simp only [go_sem]
  refine brK_dec (fun hlt => ?_) (fun hge => ?_)
  · obtain rfl := hs hlt
    obtain ⟨hz, hh⟩ := rest_at hlt
    have hrs := (rest_pieces n hlt).2
    have hbs : (bef 44 (restN 44 t n)).size ≤ t.size := piece_size (List.mem_of_getElem? hz)
    have hlen := mapO_len hi
    rw [List.length_take] at hlen
    simp only [go_sem]
    refine PCall.call (cut40' (restN 44 t n) 44 44 rfl (by omega)) ?_
    simp only [go_sem]
    refine PCallE.call (number62 _ (by omega)) ?_
    rintro r0 ⟨m, bb, rfl, hI, hR⟩
    unfold NumR at hR
    cases hnz : numB (bef 44 (restN 44 t n)) with
    | none =>
      rw [hnz] at hR
      subst hR
      have hno : valueB t = none := mapO_bad hz hnz
      rw [hno]
      simp only [go_sem]
      exact ⟨_, rfl, false, weak_t2 (.nil _) (.refl _)⟩
    | some v =>
      rw [hnz] at hR
      obtain ⟨rfl, rfl⟩ := hR
      obtain ⟨e1, e2⟩ := outV_step hz hi hnz
      simp only [go_sem]
      refine And.intro (by first | omega | (simp; omega)) ?_
      rw [hh]
      exact loopFr _ (by omega) ⟨n + 1, restN 44 t (n + 1), r ++ [.tok 2 1 1], by omega, fun _ => rfl, rfl, e2, rfl, by rw [e1]; simp⟩ (.cons rfl (.cons rfl (.cons (by rw [e1]; simp) .nil))) rfl
  · have hie : n = (pieces 44 t).length := by omega
    subst hie
    have he : valueB t = some (outV t (pieces 44 t).length) := by
      rw [List.take_of_length_le (Nat.le_refl _)] at hi
      exact hi
    rw [he]
    simp only [go_sem]
    exact ⟨_, rfl, false, weak_t2 (.tok _ _ _) (.refl _)⟩

theorem step42 (t : ByteArray) (ht : t.size ≤ 100000) : PCall Tryz.prog 20 [.s t, .b true] (opA (stepF t)) := by
  refine pcall_of_vc tabOK Tryz.func20 (by kernel_rfl) rfl (by first | exact pureL | exact pureI) (opA_pure _) (n := 33) rfl (rs := [.cell 4 27, .tmp 5]) rfl ?_
  have hpl := pieces_le 32 t
  have hpp := pieces_pos 32 t
  simp only [go_sem]
  refine loop_ghost (ghost_cell 1 6 38 1 rfl rfl) ?_
  refine loop_fr [0, 1, 5, 7, 8, 9, 11, 12, 13, 14, 15, 16, 17, 18, 19, 20, 21, 22, 23, 24, 25, 26, 27, 28, 29, 30, 31] (fun m C hh => ∃ (n : Nat) (s : ByteArray) (r : List Blk), n ≤ (pieces 32 t).length ∧ (n < (pieces 32 t).length → s = restN 32 t n) ∧ m = (pieces 32 t).length - n ∧ mapO valueB ((pieces 32 t).take n) = some (insV t n) ∧ C = [(1, .b (decide (n < (pieces 32 t).length))), (0, .s s)] ∧ hh = .cells 27 zOp :: .cells 27 (sOp ((insV t n).map AV.il) 2) :: .tok 38 1 (insV t n).length :: r) (pieces 32 t).length _ ⟨0, t, [], by omega, fun _ => rfl, by omega, rfl, rfl, rfl⟩ (.cons (by rw [decide_eq_true hpp]; rfl) (.cons rfl .nil)) ?_
  rintro m C j hh ⟨n, s, r, hn, hs, rfl, hi, rfl, rfl⟩
  simp only [go_sem]
  refine brK_dec (fun hlt => ?_) (fun hge => ?_)
  · obtain rfl := hs hlt
    obtain ⟨hz, hh⟩ := rest_at hlt
    have hrs := (rest_pieces n hlt).2
    have hbs : (bef 32 (restN 32 t n)).size ≤ t.size := piece_size (List.mem_of_getElem? hz)
    have hlen := mapO_len hi
    rw [List.length_take] at hlen
    simp only [go_sem]
    refine PCall.call (cut40' (restN 32 t n) 32 32 rfl (by omega)) ?_
    simp only [go_sem]
    refine PCall.call (value61 _ (by omega)) ?_
    cases hnz : valueB (bef 32 (restN 32 t n)) with
    | none =>
      have hno : mapO valueB (pieces 32 t) = none := mapO_bad hz hnz
      have he : stepF t = none := by
        unfold stepF
        rw [hno]
      rw [ilA_none, he]
      simp only [go_sem]
      exact ⟨_, rfl, false, weak_t2 weak_noOp (.refl _)⟩
    | some v =>
      obtain ⟨e1, e2⟩ := insV_step hz hi hnz
      rw [ilA_some]
      simp only [go_sem]
      refine And.intro (by first | omega | (simp; omega)) ?_
      try simp only [go_sem]
      rw [hh]
      refine loopFr _ (by omega) ⟨n + 1, restN 32 t (n + 1), r ++ [.tok 38 1 1], by omega, fun _ => rfl, rfl, e2, rfl, ?_⟩ (.cons rfl (.cons rfl .nil)) rfl
      rw [e1]
      simp
  · have hie : n = (pieces 32 t).length := by omega
    subst hie
    have he : stepF t = some ⟨2, noAsk, insV t (pieces 32 t).length, 0⟩ := by
      rw [List.take_of_length_le (Nat.le_refl _)] at hi
      unfold stepF
      rw [hi]
    rw [he]
    simp only [go_sem]
    exact ⟨_, rfl, false, weak_t2 (weak_stepOp _ _) (.refl _)⟩
theorem step42' (t : ByteArray) : PCall Tryz.prog 20 [.s t, .b false] (opA (some ⟨2, noAsk, [], 0⟩)) := by
  refine pcall_of_vc tabOK Tryz.func20 (by kernel_rfl) rfl (by first | exact pureL | exact pureI) (opA_pure _) (n := 33) rfl (rs := [.cell 4 27, .tmp 5]) rfl ?_
  simp only [go_sem]
  refine loop_frH [0, 1, 5, 7, 8, 9, 11, 12, 13, 14, 15, 16, 17, 18, 19, 20, 21, 22, 23, 24, 25, 26, 27, 28, 29, 30, 31] (fun m C => m = 0 ∧ C = [(1, .b false)]) 0 _ ⟨rfl, rfl⟩ (.cons rfl .nil) ?_
  rintro m C j ⟨rfl, rfl⟩
  simp only [go_sem]
  refine ⟨_, rfl, false, weak_t2 ?_ (.refl _)⟩
  rw [DOp.enc_eq]
  exact weak_aggs ⟨.refl _, .refl _, .refl _, .nil _, .refl _, .refl _, .nil _, .refl _, trivial⟩
/-- What is asked with its text, or its bytes, and whether that is right. -/
def contW (a : DAsk) (s : ByteArray) (b : Bool) : DAsk × Bool := if b = true then (⟨a.Text, true, (octL (bts s)).getD [], a.Moves, a.Fuel⟩, (octL (bts s)).isSome) else (⟨s, a.Bytes, a.Image, a.Moves, a.Fuel⟩, true)
theorem contF_W (a : DAsk) (s : ByteArray) (b : Bool) : contF a s b = if (contW a s b).2 = true then some (contW a s b).1 else none := by
  unfold contF contW
  cases b with
  | false => rfl
  | true =>
    simp only [if_true]
    cases octL (bts s) <;> rfl
def askA (p : DAsk × Bool) : AV := .tup [p.1.enc, .b p.2]
theorem askA_pure (p : DAsk × Bool) : Go.Abs.Pure (askA p) := .tup _ (pure_cons (DAsk.pure _) (pure_cons (.raw _) pure_nil))
theorem weak_ask {cs : List AV} (x : DAsk) (h : WeakL cs [.s x.Text, .b x.Bytes, .lst 1 (x.Image.map AV.u8) none, .s x.Moves, .i x.Fuel]) : Weak (.agg cs) x.enc := by
  rw [DAsk.enc_eq]
  exact weak_aggs h
theorem weak_op {cs : List AV} (x : DOp) (h : WeakL cs [.i x.Kind, .s x.Ask.Text, .b x.Ask.Bytes, .lst 1 (x.Ask.Image.map AV.u8) none, .s x.Ask.Moves, .i x.Ask.Fuel, .lst 1 (x.Ins.map AV.il) none, .i x.Fault]) : Weak (.agg cs) x.enc := by
  rw [DOp.enc_eq]
  exact weak_aggs h

theorem body53 (a : DAsk) (s : ByteArray) (b : Bool) (hs : s.size ≤ 100000) : PCall Tryz.prog 34 [a.enc, .s s, .b b] (askA (contW a s b)) := by
  refine pcall_of_vc tabOK Tryz.func34 (by kernel_rfl) rfl (pure_cons (DAsk.pure _) (pure_cons (.raw _) (pure_cons (.raw _) pure_nil))) (askA_pure _) (n := 25) rfl (rs := [.cell 6 24, .tmp 7]) rfl ?_
  cases b with
  | false =>
    simp only [go_sem]
    exact ⟨_, rfl, false, weak_t2 (weak_ask _ ⟨.refl _, .refl _, .refl _, .refl _, .refl _, trivial⟩) (.refl _)⟩
  | true =>
    simp only [go_sem]
    refine PCall.call (octets65 s hs) ?_
    unfold byA
    simp only [go_sem]
    exact ⟨_, rfl, false, weak_t2 (weak_ask _ ⟨.refl _, .refl _, .refl _, .refl _, .refl _, trivial⟩) (.refl _)⟩

theorem content44 (a : DAsk) (s : ByteArray) (b : Bool) (hs : s.size ≤ 100000) : PCall Tryz.prog 22 [a.enc, .s s, .b b] (askA (contW a s b)) := by
  refine pcall_of_vc tabOK Tryz.func22 (by kernel_rfl) rfl (pure_cons (DAsk.pure _) (pure_cons (.raw _) (pure_cons (.raw _) pure_nil))) (askA_pure _) (n := 25) rfl (rs := [.cell 6 24, .tmp 7]) rfl ?_
  cases b with
  | false =>
    simp only [go_sem]
    exact ⟨_, rfl, false, weak_t2 (weak_ask _ ⟨.refl _, .refl _, .refl _, .refl _, .refl _, trivial⟩) (.refl _)⟩
  | true =>
    simp only [go_sem]
    refine PCall.call (bytes63 s hs) ?_
    unfold byA
    simp only [go_sem]
    exact ⟨_, rfl, false, weak_t2 (weak_ask _ ⟨.refl _, .refl _, .refl _, .refl _, .refl _, trivial⟩) (.refl _)⟩
theorem weak_zAsk : Weak (.agg [.s ⟨#[]⟩, .b false, .raw (.slice none 0 0), .s ⟨#[]⟩, .i 0]) noAsk.enc := weak_ask _ ⟨.refl _, .refl _, .nil _, .refl _, .refl _, trivial⟩
theorem loadF_W (s : ByteArray) (b : Bool) : loadF s b = if (contW noAsk s b).2 = true then some ⟨1, (contW noAsk s b).1, [], 0⟩ else none := by
  unfold loadF
  rw [contF_W]
  cases (contW noAsk s b).2 <;> rfl

theorem load32 (s : ByteArray) (b : Bool) (hs : s.size ≤ 100000) : PCall Tryz.prog 16 [.s s, .b b] (opA (loadF s b)) := by
  refine pcall_of_vc tabOK Tryz.func16 (by kernel_rfl) rfl (by first | exact pureL | exact pureI) (opA_pure _) (n := 20) rfl (rs := [.cell 4 27, .tmp 5]) rfl ?_
  have hb := body53 noAsk s b hs
  rw [loadF_W]
  generalize contW noAsk s b = p at hb ⊢
  obtain ⟨a, ok⟩ := p
  simp only [go_sem]
  refine PCall.callW hb ⟨weak_zAsk, .refl _, .refl _, trivial⟩ ?_
  unfold askA
  cases ok with
  | true =>
    simp only [go_sem]
    exact ⟨_, rfl, false, weak_t2 (weak_op _ ⟨.refl _, .refl _, .refl _, .refl _, .refl _, .refl _, .nil _, .refl _, trivial⟩) (.refl _)⟩
  | false =>
    simp only [go_sem]
    exact ⟨_, rfl, false, weak_t2 weak_noOp (.refl _)⟩
/-- A text cut at most so often. -/
def splitK (c : UInt8) : Nat → ByteArray → List ByteArray
  | 0, s => [s]
  | k + 1, s => if hasB c s = true then bef c s :: splitK c k (aft c s) else [s]
theorem splitK_no {c : UInt8} {s : ByteArray} (h : hasB c s = false) (k : Nat) : splitK c k s = [s] := by
  cases k with
  | zero => rfl
  | succ k => rw [splitK, h]; rfl
theorem splitK_min (c : UInt8) : ∀ (k : Nat) (s : ByteArray), splitK c (min k s.size) s = splitK c k s
  | 0, s => by rw [Nat.zero_min]
  | k + 1, s => by
    cases h : hasB c s with
    | false => rw [splitK_no h, splitK_no h]
    | true =>
      have hz := (cut_at h).2.2.2
      have e : min (k + 1) s.size = min k (s.size - 1) + 1 := by omega
      rw [e, splitK, splitK, if_pos h, if_pos h, ← splitK_min c k (aft c s)]
      by_cases hk : k ≤ (aft c s).size
      · rw [Nat.min_eq_left hk, Nat.min_eq_left (by omega)]
      · rw [← splitK_min c (min k (s.size - 1)) (aft c s)]
        congr 2
        omega
theorem split66 (t : ByteArray) (c : UInt8) (ht : t.size ≤ 1000000) : PCall Tryz.prog 55 [.s t, .s ⟨#[c]⟩, .i 0, .i 3] (.lst 1 ((splitK c 2 t).map AV.s) none) := by
  refine pcall_of_vc tabOK Tryz.func55 (by kernel_rfl) rfl (by first | exact pureL | exact pureI) (pure_strs _) (n := 66) rfl (rs := [.tmp 8]) rfl ?_
  rw [← splitK_min]
  generalize hM : min 2 t.size = M
  have hw2 : IntKind.i64.wrap ((t.size : Int) + 1) = ((t.size + 1 : Nat) : Int) := by rw [wrap_in _ (by omega) (by omega)]; omega
  have hmin : (if ((t.size + 1 : Nat) : Int) < 3 then ((t.size + 1 : Nat) : Int) else 3) = ((M + 1 : Nat) : Int) := by split <;> omega
  have hw3 : IntKind.i64.wrap (((M + 1 : Nat) : Int) - 1) = ((M : Nat) : Int) := by rw [wrap_in _ (by omega) (by omega)]; omega
  simp only [go_sem]
  refine brK_dec (fun h => absurd h (one_ne c)) (fun _ => ?_)
  simp only [go_sem, hw2, hmin, hw3, Int.toNat_natCast]
  refine And.intro (by omega) ?_
  refine loop_fr [0, 10, 11, 34, 35, 36, 37, 38, 39, 40, 41, 42, 43, 44, 45, 46, 47, 48, 49, 50, 51, 52, 53, 54, 55, 56, 57] (fun m C hh => ∃ (i : Nat) (s : ByteArray) (D : List ByteArray) (X : List AV), D.length = i ∧ i ≤ M ∧ D ++ splitK c (M - i) s = splitK c M t ∧ s.size ≤ t.size ∧ X.length = M + 1 ∧ X.take i = D.map AV.s ∧ X.all AV.one = true ∧ m = M - i ∧ C = [(10, .raw (.int .i64 (i : Nat))), (0, .s s)] ∧ hh = [.cells 9 X])
    M _ ⟨0, t, [], _, rfl, by omega, rfl, Nat.le_refl _, by simp, rfl, by simp [AV.one, Value.oneCell'], by omega, rfl, rfl⟩ (.cons rfl (.cons rfl .nil)) ?_
  rintro m C j hh ⟨i, s, D, X, hD, hiM, hp, hs, hX, hXt, hXo, rfl, rfl, rfl⟩
  have hw6 : IntKind.i64.wrap ((i : Int) + 1) = ((i + 1 : Nat) : Int) := by rw [wrap_in _ (by omega) (by omega)]; omega
  have hd : decide (i + 1 ≤ X.length) = true := decide_eq_true (by omega)
  have fin : splitK c (M - i) s = [s] → Weak (frz [.cells 9 (X.set i (.s s))] (.sl 1 0 0 (i + 1))) (.lst 1 ((splitK c M t).map AV.s) none) := fun hl => by
    rw [hl] at hp
    have hall : (X.set i (.s s)).take (i + 1) = (splitK c M t).map AV.s := by
      rw [← hp, List.map_append, ← hXt]
      exact take_set (by omega)
    have hone := one_set (i := i) (v := .s s) hXo rfl
    have hlen : (X.set i (.s s)).length = X.length := List.length_set
    have hd2 : decide (i + 1 ≤ (X.set i (AV.s s)).length) = true := decide_eq_true (by omega)
    simp only [frz, List.getElem?_cons_zero, decide_true, Nat.zero_add, hd2, hone, List.drop_zero]
    rw [hall]
    exact .refl _
  simp only [go_sem]
  refine brK_dec (fun hlt => ?_) (fun hge => ?_)
  · simp only [go_sem]
    refine PCall.call (index27 s c) ?_
    cases hb : hasB c s with
    | false =>
      rw [no_idx hb]
      simp only [go_sem, hd, Nat.mul_one, Int.toNat_natCast, hw6]
      refine And.intro (by omega) (And.intro (by omega) ?_)
      exact ⟨_, rfl, true, fin (splitK_no hb _)⟩
    | true =>
      obtain ⟨q, i1, i2, i3, i4⟩ := has_idx hb
      have hz := (cut_at hb).2.2.2
      rw [i1]
      have hw4 : IntKind.i64.wrap ((q : Int) + 0) = (q : Int) := by rw [wrap_in _ (by omega) (by omega)]; omega
      have hw5 : IntKind.i64.wrap ((q : Int) + ((1 : Nat) : Int)) = ((q + 1 : Nat) : Int) := by rw [wrap_in _ (by omega) (by omega)]; omega
      simp only [go_sem]
      refine brK_dec (fun _ => by exfalso; omega) (fun _ => ?_)
      simp only [go_sem, hw4, hw5, one_size, Int.toNat_natCast, hd, Nat.mul_one]
      refine And.intro (by omega) (And.intro (by omega) (And.intro (by omega) ?_))
      refine loopFr _ (by omega) ⟨i + 1, aft c s, D ++ [bef c s], X.set i (.s (s.extract 0 q)), by simp [hD], by omega, ?_, by omega, by simpa using hX, ?_, one_set hXo rfl, rfl, rfl, rfl⟩ (.next rfl (by omega) (.cons (by rw [i4]; rfl) .nil)) rfl
      · rw [← hp, show M - i = (M - (i + 1)) + 1 by omega, splitK, if_pos hb, List.append_assoc]
        rfl
      · rw [take_set (by omega), hXt, List.map_append, i3]; rfl
  · have hi : i = M := by omega
    simp only [go_sem, hd, Nat.mul_one, Int.toNat_natCast, hw6]
    refine And.intro (by omega) (And.intro (by omega) ?_)
    exact ⟨_, rfl, true, fin (by rw [hi, Nat.sub_self]; rfl)⟩

theorem splitN54 (t : ByteArray) (c : UInt8) (ht : t.size ≤ 1000000) : PCall Tryz.prog 35 [.s t, .s ⟨#[c]⟩, .i 3] (.lst 1 ((splitK c 2 t).map AV.s) none) := by
  refine pcall_of_vc tabOK Tryz.func35 (by kernel_rfl) rfl (by first | exact pureL | exact pureI) (pure_strs _) (n := 11) rfl (rs := [.tmp 6]) rfl ?_
  simp only [go_sem]
  refine PCall.call (split66 t c ht) ?_
  simp only [go_sem]
  exact ⟨_, rfl, false, .refl _⟩
theorem updG_W (f g m s : ByteArray) (b : Bool) (n : Int) (hn : numB f = some n) (k : Int) (hk : numB g = some k) : updG f g m s b = if (contW ⟨⟨#[]⟩, false, [], m, n⟩ s b).2 = true then some ⟨3, (contW ⟨⟨#[]⟩, false, [], m, n⟩ s b).1, [], k⟩ else none := by
  unfold updG
  simp only [hn, hk, contF_W]
  cases (contW ⟨⟨#[]⟩, false, [], m, n⟩ s b).2 <;> rfl
theorem updG_f {f g m s : ByteArray} {b : Bool} (h : numB f = none) : updG f g m s b = none := by unfold updG; simp only [h]
theorem updG_g {f g m s : ByteArray} {b : Bool} (h : numB g = none) : updG f g m s b = none := by
  unfold updG
  simp only [h]
  cases numB f <;> rfl
theorem numR_cases {t : ByteArray} {n : Int} {b : Bool} (h : NumR t n b) : (numB t = some n ∧ b = true) ∨ (numB t = none ∧ b = false) := by
  unfold NumR at h
  cases e : numB t with
  | some v => rw [e] at h; exact .inl ⟨by rw [h.1], h.2⟩
  | none => rw [e] at h; exact .inr ⟨rfl, h⟩
theorem aft_size (c : UInt8) (t : ByteArray) : (aft c t).size ≤ t.size := by
  cases h : hasB c t with
  | false => rw [(cut_no h).2.1]; exact Nat.zero_le _
  | true => have := (cut_at h).2.2.2; omega
theorem bef_size (c : UInt8) (t : ByteArray) : (bef c t).size ≤ t.size := by
  cases h : hasB c t with
  | false => rw [(cut_no h).1]; exact Nat.le_refl _
  | true => have := (cut_at h).2.2.2; omega
theorem weak_uAsk (m : ByteArray) (n : Int) : Weak (.agg [.s ⟨#[]⟩, .b false, .raw (.slice none 0 0), .s m, .i n]) (DAsk.enc ⟨⟨#[]⟩, false, [], m, n⟩) := weak_ask _ ⟨.refl _, .refl _, .nil _, .refl _, .refl _, trivial⟩

theorem update33 (s : ByteArray) (b : Bool) (hs : s.size ≤ 100000) : PCall Tryz.prog 17 [.s s, .b b] (opA (updF s b)) := by
  refine pcall_of_vc tabOK Tryz.func17 (by kernel_rfl) rfl (by first | exact pureL | exact pureI) (opA_pure _) (n := 70) rfl (rs := [.cell 4 27, .tmp 5]) rfl ?_
  rw [← upd_eq]
  unfold updP
  have z1 := bef_size 124 s
  have z2 := aft_size 124 s
  have z3 := bef_size 32 (bef 124 s)
  have z4 := aft_size 32 (bef 124 s)
  have z5 := bef_size 32 (aft 32 (bef 124 s))
  have hcut : PCall Tryz.prog 14 [.s s, .s ⟨#[124]⟩] (.tup [.s (bef 124 s), .s (aft 124 s), .b (hasB 124 s)]) := cut23 s 124 (by omega)
  have hspl := splitN54 (bef 124 s) 32 (by omega)
  cases h1 : hasB 124 s with
  | false =>
    rw [h1] at hcut
    rw [if_neg (by simp), opA_none]
    repeat' first
      | simp only [go_sem]
      | (refine PCall.call hcut ?_)
      | (refine PCall.call hspl ?_)
      | (intro _)
      | (exfalso; omega)
      | refine gK_dec (fun _ => ?_) (fun _ => ?_)
      | refine brK_dec (fun _ => ?_) (fun _ => ?_)
      | exact ⟨_, rfl, false, weak_t2 weak_noOp (.refl _)⟩
  | true =>
  rw [h1] at hcut
  cases h2 : hasB 32 (bef 124 s) with
  | false =>
    rw [splitK_no h2] at hspl
    rw [if_neg (by simp), opA_none]
    repeat' first
      | simp only [go_sem]
      | (refine PCall.call hcut ?_)
      | (refine PCall.call hspl ?_)
      | (intro _)
      | (exfalso; omega)
      | refine gK_dec (fun _ => ?_) (fun _ => ?_)
      | refine brK_dec (fun _ => ?_) (fun _ => ?_)
      | exact ⟨_, rfl, false, weak_t2 weak_noOp (.refl _)⟩
  | true =>
  rw [splitK, if_pos h2] at hspl
  cases h3 : hasB 32 (aft 32 (bef 124 s)) with
  | false =>
    rw [splitK_no h3] at hspl
    rw [if_neg (by simp), opA_none]
    repeat' first
      | simp only [go_sem]
      | (refine PCall.call hcut ?_)
      | (refine PCall.call hspl ?_)
      | (intro _)
      | (exfalso; omega)
      | refine gK_dec (fun _ => ?_) (fun _ => ?_)
      | refine brK_dec (fun _ => ?_) (fun _ => ?_)
      | exact ⟨_, rfl, false, weak_t2 weak_noOp (.refl _)⟩
  | true =>
  rw [splitK, if_pos h3, splitK] at hspl
  rw [if_pos (by simp)]
  generalize bef 32 (bef 124 s) = f at *
  generalize bef 32 (aft 32 (bef 124 s)) = g at *
  generalize aft 32 (aft 32 (bef 124 s)) = m at *
  generalize aft 124 s = u at *
  simp only [go_sem]
  refine PCall.call hcut ?_
  simp only [go_sem]
  refine PCall.call hspl ?_
  simp only [go_sem]
  intro _
  refine brK_dec (fun q => by exfalso; omega) (fun _ => ?_)
  simp only [go_sem]
  refine elemK (i := 0) (.s f) (by decide) rfl ?_
  simp only [go_sem]
  refine PCallE.call (number55 f (by omega)) ?_
  rintro r0 ⟨n, b0, rfl, hI, hR⟩
  simp only [go_sem]
  refine elemK (i := 1) (.s g) (by decide) rfl ?_
  simp only [go_sem]
  refine PCallE.call (number55 g (by omega)) ?_
  rintro r1 ⟨k, b1, rfl, hJ, hQ⟩
  simp only [go_sem]
  refine elemK (i := 2) (.s m) (by decide) rfl ?_
  simp only [go_sem]
  have hb := body53 ⟨⟨#[]⟩, false, [], m, n⟩ u b (by omega)
  refine PCall.callW hb ⟨weak_uAsk _ _, .refl _, .refl _, trivial⟩ ?_
  unfold askA
  rcases numR_cases hR with ⟨e0, rfl⟩ | ⟨e0, rfl⟩
  · rcases numR_cases hQ with ⟨e1, rfl⟩ | ⟨e1, rfl⟩
    · rw [updG_W f g m u b n e0 k e1]
      generalize contW ⟨⟨#[]⟩, false, [], m, n⟩ u b = p
      obtain ⟨a, ok⟩ := p
      cases ok with
      | true =>
        simp only [go_sem]
        exact ⟨_, rfl, false, weak_t2 (weak_op _ ⟨.refl _, .refl _, .refl _, .refl _, .refl _, .refl _, .nil _, .refl _, trivial⟩) (.refl _)⟩
      | false =>
        simp only [go_sem]
        exact ⟨_, rfl, false, weak_t2 weak_noOp (.refl _)⟩
    · rw [updG_g e1, opA_none]
      simp only [go_sem]
      exact ⟨_, rfl, false, weak_t2 weak_noOp (.refl _)⟩
  · rw [updG_f e0, opA_none]
    simp only [go_sem]
    exact ⟨_, rfl, false, weak_t2 weak_noOp (.refl _)⟩

theorem update43 (s : ByteArray) (b : Bool) (hs : s.size ≤ 100000) : PCall Tryz.prog 21 [.s s, .b b] (opA (updF s b)) := by
  refine pcall_of_vc tabOK Tryz.func21 (by kernel_rfl) rfl (by first | exact pureL | exact pureI) (opA_pure _) (n := 81) rfl (rs := [.cell 4 27, .tmp 5]) rfl ?_
  unfold updF
  have z1 := bef_size 32 s
  have z2 := aft_size 32 s
  have z3 := bef_size 32 (aft 32 s)
  have z4 := aft_size 32 (aft 32 s)
  have z5 := aft_size 124 (aft 32 (aft 32 s))
  have c1 := cut40' s 32 32 rfl (by omega)
  have c2 := cut40' (aft 32 s) 32 32 rfl (by omega)
  have c3 := cut40' (aft 32 (aft 32 s)) 124 124 rfl (by omega)
  simp only [go_sem]
  refine PCall.call c1 ?_
  simp only [go_sem]
  refine PCall.call c2 ?_
  simp only [go_sem]
  refine PCall.call c3 ?_
  simp only [go_sem]
  generalize bef 32 s = f at *
  generalize hasB 32 s = h1 at *
  generalize bef 32 (aft 32 s) = g at *
  generalize hasB 32 (aft 32 s) = h2 at *
  generalize bef 124 (aft 32 (aft 32 s)) = m at *
  generalize hasB 124 (aft 32 (aft 32 s)) = h3 at *
  generalize aft 124 (aft 32 (aft 32 s)) = u at *
  refine PCallE.call (number62 f (by omega)) ?_
  rintro r0 ⟨n, b0, rfl, hI, hR⟩
  simp only [go_sem]
  refine PCallE.call (number62 g (by omega)) ?_
  rintro r1 ⟨k, b1, rfl, hJ, hQ⟩
  simp only [go_sem]
  have hb := content44 ⟨⟨#[]⟩, false, [], m, n⟩ u b (by omega)
  refine PCall.callW hb ⟨weak_uAsk _ _, .refl _, .refl _, trivial⟩ ?_
  unfold askA
  cases h1 with
  | false =>
    rw [if_neg (by simp), opA_none]
    simp only [go_sem]
    exact ⟨_, rfl, false, weak_t2 weak_noOp (.refl _)⟩
  | true =>
  cases h2 with
  | false =>
    rw [if_neg (by simp), opA_none]
    simp only [go_sem]
    exact ⟨_, rfl, false, weak_t2 weak_noOp (.refl _)⟩
  | true =>
  cases h3 with
  | false =>
    rw [if_neg (by simp), opA_none]
    simp only [go_sem]
    exact ⟨_, rfl, false, weak_t2 weak_noOp (.refl _)⟩
  | true =>
  rw [if_pos (by simp)]
  rcases numR_cases hR with ⟨e0, rfl⟩ | ⟨e0, rfl⟩
  · rcases numR_cases hQ with ⟨e1, rfl⟩ | ⟨e1, rfl⟩
    · rw [updG_W f g m u b n e0 k e1]
      generalize contW ⟨⟨#[]⟩, false, [], m, n⟩ u b = p
      obtain ⟨a, ok⟩ := p
      cases ok with
      | true =>
        simp only [go_sem]
        exact ⟨_, rfl, false, weak_t2 (weak_op _ ⟨.refl _, .refl _, .refl _, .refl _, .refl _, .refl _, .nil _, .refl _, trivial⟩) (.refl _)⟩
      | false =>
        simp only [go_sem]
        exact ⟨_, rfl, false, weak_t2 weak_noOp (.refl _)⟩
    · rw [updG_g e1, opA_none]
      simp only [go_sem]
      exact ⟨_, rfl, false, weak_t2 weak_noOp (.refl _)⟩
  · rw [updG_f e0, opA_none]
    simp only [go_sem]
    exact ⟨_, rfl, false, weak_t2 weak_noOp (.refl _)⟩
theorem contains29 (t : ByteArray) (c : UInt8) : PCall Tryz.prog 13 [.s t, .s ⟨#[c]⟩] (.b (hasB c t)) := by
  refine pcall_of_vc tabOK Tryz.func13 (by kernel_rfl) rfl pureL pureI (n := 9) rfl (rs := [.tmp 4]) rfl ?_
  simp only [go_sem]
  refine PCall.call (index27 t c) ?_
  cases h : hasB c t with
  | false =>
    rw [no_idx h]
    simp only [go_sem]
    exact finBq rfl (by decide)
  | true =>
    obtain ⟨m, h1, _⟩ := has_idx h
    rw [h1]
    simp only [go_sem]
    exact finBq rfl (decide_eq_true (by omega))
theorem weak_stateOp : Weak (.agg [.i 4, .s ⟨#[]⟩, .b false, .raw (.slice none 0 0), .s ⟨#[]⟩, .i 0, .raw (.slice none 0 0), .i 0]) (DOp.enc ⟨4, noAsk, [], 0⟩) := weak_op _ ⟨.refl _, .refl _, .refl _, .nil _, .refl _, .refl _, .nil _, .refl _, trivial⟩
theorem weak_stepOp0 : Weak (.agg [.i 2, .s ⟨#[]⟩, .b false, .raw (.slice none 0 0), .s ⟨#[]⟩, .i 0, .raw (.slice none 0 0), .i 0]) (DOp.enc ⟨2, noAsk, [], 0⟩) := weak_op _ ⟨.refl _, .refl _, .refl _, .nil _, .refl _, .refl _, .nil _, .refl _, trivial⟩
theorem weak_sameOp (x : DOp) : Weak (.agg [.i x.Kind, .s x.Ask.Text, .b x.Ask.Bytes, .lst 1 (x.Ask.Image.map AV.u8) none, .s x.Ask.Moves, .i x.Ask.Fuel, .lst 1 (x.Ins.map AV.il) none, .i x.Fault]) x.enc := by
  rw [DOp.enc_eq]
  exact .refl _

theorem line17 (s : ByteArray) (hs : s.size ≤ 100000) : PCall Tryz.prog 6 [.s s] (opA (lineF s)) := by
  refine pcall_of_vc tabOK Tryz.func6 (by kernel_rfl) rfl (by first | exact pureL | exact pureI) (opA_pure _) (n := 52) rfl (rs := [.cell 2 27, .tmp 3]) rfl ?_
  have za := aft_size 32 s
  have hcon := contains29 s 10
  have hcut : PCall Tryz.prog 14 [.s s, .s ⟨#[32]⟩] (.tup [.s (bef 32 s), .s (aft 32 s), .b (hasB 32 s)]) := cut23 s 32 (by omega)
  unfold lineF
  cases h10 : hasB 10 s with
  | true =>
    rw [h10] at hcon
    rw [if_pos rfl, opA_none]
    simp only [go_sem]
    refine PCall.call hcon ?_
    simp only [go_sem]
    exact ⟨_, rfl, false, weak_t2 weak_noOp (.refl _)⟩
  | false =>
  rw [h10] at hcon
  rw [if_neg (by decide)]
  simp only [go_sem]
  refine PCall.call hcon ?_
  simp only [go_sem]
  refine PCall.call hcut ?_
  cases h32 : hasB 32 s with
  | false =>
    have hbe := (cut_no h32).1
    rw [hbe, if_neg (by decide)]
    simp only [go_sem]
    refine brK_dec (fun q => ?_) (fun q => ?_)
    · rw [if_pos (show s = stateT from q), opA_some]
      simp only [go_sem]
      exact ⟨_, rfl, false, weak_t2 weak_stateOp (.refl _)⟩
    rw [if_neg (show ¬ s = stateT from q)]
    simp only [go_sem]
    refine brK_dec (fun q => ?_) (fun q => ?_)
    · rw [if_pos (show s = stepT from q), opA_some]
      simp only [go_sem]
      exact ⟨_, rfl, false, weak_t2 weak_stepOp0 (.refl _)⟩
    rw [if_neg (show ¬ s = stepT from q), opA_none]
    simp only [go_sem]
    exact ⟨_, rfl, false, weak_t2 weak_noOp (.refl _)⟩
  | true =>
  rw [if_pos rfl]
  generalize bef 32 s = w
  generalize aft 32 s = u at za ⊢
  simp only [go_sem]
  refine brK_dec (fun q => ?_) (fun q => ?_)
  · rw [if_pos (show w = stepT from q)]
    simp only [go_sem]
    refine PCall.call (step31 u (by omega)) ?_
    unfold opA
    simp only [go_sem]
    exact ⟨_, rfl, false, weak_t2 (weak_sameOp _) (.refl _)⟩
  rw [if_neg (show ¬ w = stepT from q)]
  simp only [go_sem]
  refine brK_dec (fun q => ?_) (fun q => ?_)
  · rw [if_pos (show w = loadT from q)]
    have hd : decide (w = ⟨#[105, 109, 97, 103, 101]⟩) = false := decide_eq_false (by rw [q]; decide)
    simp only [go_sem, hd]
    refine PCall.call (load32 u false (by omega)) ?_
    unfold opA
    simp only [go_sem]
    exact ⟨_, rfl, false, weak_t2 (weak_sameOp _) (.refl _)⟩
  rw [if_neg (show ¬ w = loadT from q)]
  simp only [go_sem]
  refine brK_dec (fun q => ?_) (fun q => ?_)
  · rw [if_pos (show w = imageT from q)]
    have hd : decide (w = ⟨#[105, 109, 97, 103, 101]⟩) = true := decide_eq_true q
    simp only [go_sem, hd]
    refine PCall.call (load32 u true (by omega)) ?_
    unfold opA
    simp only [go_sem]
    exact ⟨_, rfl, false, weak_t2 (weak_sameOp _) (.refl _)⟩
  rw [if_neg (show ¬ w = imageT from q)]
  simp only [go_sem]
  refine brK_dec (fun q => ?_) (fun q => ?_)
  · rw [if_pos (show w = updateT from q)]
    have hd : decide (w = ⟨#[112, 97, 116, 99, 104]⟩) = false := decide_eq_false (by rw [q]; decide)
    simp only [go_sem, hd]
    refine PCall.call (update33 u false (by omega)) ?_
    unfold opA
    simp only [go_sem]
    exact ⟨_, rfl, false, weak_t2 (weak_sameOp _) (.refl _)⟩
  rw [if_neg (show ¬ w = updateT from q)]
  simp only [go_sem]
  refine brK_dec (fun q => ?_) (fun q => ?_)
  · rw [if_pos (show w = patchT from q)]
    have hd : decide (w = ⟨#[112, 97, 116, 99, 104]⟩) = true := decide_eq_true q
    simp only [go_sem, hd]
    refine PCall.call (update33 u true (by omega)) ?_
    unfold opA
    simp only [go_sem]
    exact ⟨_, rfl, false, weak_t2 (weak_sameOp _) (.refl _)⟩
  rw [if_neg (show ¬ w = patchT from q), opA_none]
  simp only [go_sem]
  exact ⟨_, rfl, false, weak_t2 weak_noOp (.refl _)⟩
def cellT (c : DCell) : ByteArray := c.Path ++ (⟨#[61]⟩ ++ rowT c.Vals)
def okText : ByteArray := ⟨#[111, 107]⟩
def pieces2 (o : List (List Int)) (c : List DCell) : List ByteArray := okText :: (o.map rowT ++ c.map cellT)
def replyT (r : DReply) : ByteArray := if r.Err = 0 then joinB (pieces2 r.Outs r.Cells) ⟨#[32]⟩ else ⟨#[101, 114, 114, 111, 114, 32]⟩ ++ digB r.Err
structure RepOK (r : DReply) : Prop where
  err : I64 r.Err
  outs : fewV r.Outs
  cells : fewC r.Cells
  oi : ∀ v ∈ r.Outs, ∀ n ∈ v, I64 n
  ci : ∀ c ∈ r.Cells, ∀ n ∈ c.Vals, I64 n
theorem sum_le {l : List ByteArray} {k : Nat} (h : ∀ x ∈ l, x.size ≤ k) : sumS l ≤ k * l.length := by
  induction l with
  | nil => exact Nat.zero_le _
  | cons a l ih =>
    rw [sumS_cons, List.length_cons, Nat.mul_add]
    have h1 := h a List.mem_cons_self
    have h2 := ih fun x hx => h x (List.mem_cons_of_mem _ hx)
    omega
theorem out_size {r : DReply} (h : RepOK r) {v : List Int} (hv : v ∈ r.Outs) : (rowT v).size ≤ 700 := by
  have h1 := rowT_size (h.oi v hv)
  have h2 := h.outs.2 v hv
  omega
theorem cell_size {r : DReply} (h : RepOK r) {c : DCell} (hc : c ∈ r.Cells) : (cellT c).size ≤ 700 ∧ (rowT c.Vals).size ≤ 480 ∧ c.Path.size ≤ 200 := by
  have h1 := rowT_size (h.ci c hc)
  have h2 := h.cells.2 c hc
  unfold cellT
  rw [ByteArray.size_append, ByteArray.size_append]
  have e : (⟨#[61]⟩ : ByteArray).size = 1 := rfl
  omega
theorem pieces_bound {r : DReply} (h : RepOK r) (i k : Nat) : (pieces2 (r.Outs.take i) (r.Cells.take k)).length ≤ 171 ∧ (joinB (pieces2 (r.Outs.take i) (r.Cells.take k)) ⟨#[32]⟩).size ≤ 200000 := by
  have hl : (pieces2 (r.Outs.take i) (r.Cells.take k)).length ≤ 171 := by
    unfold pieces2
    rw [List.length_cons, List.length_append, List.length_map, List.length_map, List.length_take, List.length_take]
    have := h.outs.1
    have := h.cells.1
    omega
  refine ⟨hl, ?_⟩
  have h1 := joinB_size (pieces2 (r.Outs.take i) (r.Cells.take k)) ⟨#[32]⟩
  have h2 : sumS (pieces2 (r.Outs.take i) (r.Cells.take k)) ≤ 700 * (pieces2 (r.Outs.take i) (r.Cells.take k)).length := sum_le fun x hx => by
    unfold pieces2 at hx
    rcases List.mem_cons.1 hx with rfl | hx
    · show 2 ≤ _; omega
    · rcases List.mem_append.1 hx with hx | hx
      · obtain ⟨v, hv, rfl⟩ := List.mem_map.1 hx
        exact out_size h (List.mem_of_mem_take hv)
      · obtain ⟨c, hc, rfl⟩ := List.mem_map.1 hx
        exact (cell_size h (List.mem_of_mem_take hc)).1
  have e : (⟨#[32]⟩ : ByteArray).size = 1 := rfl
  rw [e] at h1
  omega
theorem pieces_out {o : List (List Int)} {i : Nat} {v : List Int} (h : o[i]? = some v) : pieces2 (o.take (i + 1)) [] = pieces2 (o.take i) [] ++ [rowT v] := by
  unfold pieces2
  rw [List.take_add_one, h]
  simp
theorem pieces_cell {o : List (List Int)} {l : List DCell} {i : Nat} {c : DCell} (h : l[i]? = some c) : pieces2 o (l.take (i + 1)) = pieces2 o (l.take i) ++ [cellT c] := by
  unfold pieces2
  rw [List.take_add_one, h]
  simp
abbrev repB (r : DReply) : Blk := .cells 43 [.i r.Err, .lst 1 (r.Outs.map AV.il) none, .lst 2 (r.Cells.map DCell.enc) none]
abbrev tkS (n : Nat) : Blk := .tok 9 1 n

theorem reply11 (r : DReply) (h : RepOK r) : PCall Tryz.prog 12 [r.enc] (.s (replyT r)) := by
  refine pcall_of_vc tabOK Tryz.func12 (by kernel_rfl) rfl pureL pureI (n := 49) rfl (rs := [.tmp 2]) rfl ?_
  have hde := dig_size r.Err h.err
  unfold replyT
  simp only [go_sem]
  refine brK_dec (fun h0 => ?_) (fun h0 => ?_)
  · rw [if_neg (by assumption)]
    simp only [go_sem]
    refine PCall.call (itoa16 r.Err h.err) ?_
    simp only [go_sem]
    refine And.intro (by first | omega | (simp; omega)) ?_
    exact finSq rfl rfl
  · rw [if_pos (by omega)]
    simp only [go_sem]
    intro _
    refine loop_fr [3, 5, 19, 20, 21, 22, 23, 24, 25, 26, 27, 28] (fun m C hh => ∃ (i : Nat) (b : List Blk), i ≤ r.Outs.length ∧ m = r.Outs.length - i ∧ C = [(19, .raw (.int .i64 (i : Nat))), (3, .lst 1 ((pieces2 (r.Outs.take i) []).map AV.s) (some 1))] ∧ hh = repB r :: tkS (pieces2 (r.Outs.take i) []).length :: b) r.Outs.length _ ⟨0, [], by omega, by omega, rfl, rfl⟩ (.cons rfl (.cons rfl .nil)) ?_
    rintro m C ja hh ⟨i, b, hi, rfl, rfl, rfl⟩
    simp only [go_sem]
    refine brK_dec (fun hlt => ?_) (fun hge => ?_)
    · obtain ⟨v, hx⟩ : ∃ v, r.Outs[i]? = some v := ⟨_, List.getElem?_eq_getElem (by omega)⟩
      have hm := List.mem_of_getElem? hx
      have hb := (pieces_bound h i 0).1
      rw [List.take_zero] at hb
      have hn := pieces_out hx
      have hlen := h.outs.2 v hm
      simp only [go_sem]
      refine elemHave (x := v) (by omega) (by simpa using hx) ?_
      simp only [go_sem]
      refine PCall.call (row17 v (by omega) (h.oi v hm)) ?_
      simp only [go_sem]
      refine And.intro (by first | omega | (simp; omega)) ?_
      exact loopFr _ (by omega) ⟨i + 1, _, by omega, rfl, rfl, by rw [hn, List.length_append]; rfl⟩ (.next rfl (by omega) (.cons (by rw [hn]; simp) .nil)) rfl
    · have hie : i = r.Outs.length := by omega
      subst hie
      rw [List.take_length]
      simp only [go_sem]
      intro _
      refine loop_fr [3, 7, 32, 33, 34, 35, 36, 37, 38, 39, 40, 41, 42, 43, 44, 45, 46] (fun m C hh => ∃ (i : Nat) (b : List Blk), i ≤ r.Cells.length ∧ m = r.Cells.length - i ∧ C = [(32, .raw (.int .i64 (i : Nat))), (3, .lst 1 ((pieces2 r.Outs (r.Cells.take i)).map AV.s) (some 1))] ∧ hh = repB r :: tkS (pieces2 r.Outs (r.Cells.take i)).length :: b) r.Cells.length _ ⟨0, _, by omega, by omega, rfl, rfl⟩ (.cons rfl (.cons rfl .nil)) ?_
      rintro m C ja2 hh ⟨i, b, hi, rfl, rfl, rfl⟩
      simp only [go_sem]
      refine brK_dec (fun hlt => ?_) (fun hge => ?_)
      · obtain ⟨c, hx⟩ : ∃ c, r.Cells[i]? = some c := ⟨_, List.getElem?_eq_getElem (by omega)⟩
        have hm := List.mem_of_getElem? hx
        obtain ⟨hz1, hz2, hz3⟩ := cell_size h hm
        have hb := (pieces_bound h r.Outs.length i).1
        rw [List.take_length] at hb
        have hn := pieces_cell (o := r.Outs) hx
        have hlen := (h.cells.2 c hm).2
        have hrow := row17 c.Vals (by omega) (h.ci c hm)
        repeat' first
          | simp only [go_sem]
          | refine drawK mo (by kernel_rfl) ?_
          | refine elemHave (x := c) (by omega) (by simpa using hx) ?_
          | (refine pcK_of hrow ?_)
          | (refine loopFr _ (by omega) ⟨i + 1, _, by omega, rfl, rfl, by rw [hn, List.length_append]; rfl⟩ (.next rfl (by omega) (.cons ?_ .nil)) rfl; rw [hn]; unfold cellT; simp [app_assoc]; done)
          | refine And.intro (by first | omega | (simp; omega)) ?_
      · have hie : i = r.Cells.length := by omega
        have hbb := pieces_bound h r.Outs.length r.Cells.length
        rw [List.take_length, List.take_length] at hbb
        subst hie
        rw [List.take_length]
        simp only [go_sem]
        refine PCall.callW (join18 (pieces2 r.Outs r.Cells) ⟨#[32]⟩ (by omega) (by omega)) ⟨.tok _ _ _, .refl _, trivial⟩ ?_
        simp only [go_sem]
        exact finSq rfl rfl
def liveS : ByteArray := ⟨#[115, 116, 101, 112, 32, 53, 32, 49, 44, 48]⟩
def liveO : DOp := ⟨2, noAsk, [[5], [1, 0]], 0⟩
def liveR : DReply := ⟨0, [[7]], []⟩
theorem live_line : lineF liveS = some liveO := by kernel_rfl
theorem live_text : replyT liveR = ⟨#[111, 107, 32, 55]⟩ := by kernel_rfl
theorem live_opok : OpOK liveO := by
  refine ⟨⟨by decide, by decide⟩, ⟨by decide, by decide⟩, ⟨by decide, by decide⟩, by decide, by decide, by decide, fun y hy => absurd hy List.not_mem_nil, by decide, ?_, ?_⟩
  · intro v hv
    simp only [liveO, List.mem_cons, List.not_mem_nil, or_false] at hv
    rcases hv with rfl | rfl <;> decide
  · intro v hv n hn
    simp only [liveO, List.mem_cons, List.not_mem_nil, or_false] at hv
    rcases hv with rfl | rfl <;> simp only [List.mem_cons, List.not_mem_nil, or_false] at hn
    · subst hn; exact ⟨by decide, by decide⟩
    · rcases hn with rfl | rfl <;> exact ⟨by decide, by decide⟩
theorem live_repok : RepOK liveR := by
  refine ⟨⟨by decide, by decide⟩, ⟨by decide, ?_⟩, ⟨by decide, fun x hx => absurd hx List.not_mem_nil⟩, ?_, fun c hc => absurd hc List.not_mem_nil⟩
  · intro x hx
    simp only [liveR, List.mem_cons, List.not_mem_nil, or_false] at hx
    subst hx
    decide
  · intro v hv n hn
    simp only [liveR, List.mem_cons, List.not_mem_nil, or_false] at hv
    subst hv
    simp only [List.mem_cons, List.not_mem_nil, or_false] at hn
    subst hn
    exact ⟨by decide, by decide⟩
theorem weak_il1 {x : List Int} {t w : Option Nat} : Weak (.lst 1 [.lst 1 (x.map AV.i) t] w) (.lst 1 ([x].map AV.il) none) := by
  refine .lst 1 _ _ w rfl ?_ rfl ?_
  · intro e he
    simp only [List.map_cons, List.map_nil, List.mem_cons, List.not_mem_nil, or_false] at he
    subst he
    rfl
  · intro i c d hc hd
    match i with
    | 0 => cases hc; cases hd; exact .tok _ _ _
    | i + 1 => cases hc
theorem weak_il2 {x y : List Int} {t u w : Option Nat} : Weak (.lst 1 [.lst 1 (x.map AV.i) t, .lst 1 (y.map AV.i) u] w) (.lst 1 ([x, y].map AV.il) none) := by
  refine .lst 1 _ _ w rfl ?_ rfl ?_
  · intro e he
    simp only [List.map_cons, List.map_nil, List.mem_cons, List.not_mem_nil, or_false] at he
    rcases he with rfl | rfl <;> rfl
  · intro i c d hc hd
    match i with
    | 0 => cases hc; cases hd; exact .tok _ _ _
    | 1 => cases hc; cases hd; exact .tok _ _ _
    | i + 2 => cases hc
theorem weak_liveO {t u w : Option Nat} : Weak (.agg [.i 2, .s ⟨#[]⟩, .b false, .raw (.slice none 0 0), .s ⟨#[]⟩, .i 0, .lst 1 [.lst 1 [.i 5] t, .lst 1 [.i 1, .i 0] u] w, .i 0]) liveO.enc := weak_op _ ⟨.refl _, .refl _, .refl _, .nil _, .refl _, .refl _, weak_il2 (x := [5]) (y := [1, 0]), .refl _, trivial⟩
theorem weak_liveR {t u : Option Nat} : Weak (.agg [.i 0, .lst 1 [.lst 1 [.i 7] t] u, .raw (.slice none 0 0)]) liveR.enc := by
  rw [DReply.enc_eq]
  exact weak_aggs ⟨.refl _, weak_il1 (x := [7]), .nil _, trivial⟩

theorem live8 : PCall Tryz.prog 5 [] (.b true) := by
  refine pcall_of_vc tabOK Tryz.func5 (by kernel_rfl) rfl pure_nil (.raw _) (n := 23) rfl (rs := [.tmp 0]) rfl ?_
  have h1 := line17 liveS (by decide)
  rw [live_line, opA_some] at h1
  have h2 := same14 liveO liveO live_opok live_opok
  rw [sameB_iff.2 rfl] at h2
  have h3 := reply11 liveR live_repok
  rw [live_text] at h3
  simp only [go_sem]
  refine PCall.call h1 ?_
  simp only [go_sem]
  refine PCall.callW h2 ⟨.refl _, weak_liveO, trivial⟩ ?_
  simp only [go_sem]
  refine PCall.callW h3 ⟨weak_liveR, trivial⟩ ?_
  simp only [go_sem]
  exact finBq rfl (by decide)
theorem stepW_size : ∀ (k : Nat) (l : List (List Int)), l.length = k → (∀ v ∈ l, v.length ≤ 100000) → (∀ v ∈ l, ∀ n ∈ v, I64 n) → (stepW l).size ≤ 4 + k * 2200010
  | 0, l, hk, _, _ => by
    rw [List.length_eq_zero_iff.1 hk]
    decide
  | k + 1, l, hk, h1, h2 => by
    obtain ⟨m, v, rfl⟩ : ∃ m v, l = m ++ [v] := ⟨_, _, (List.dropLast_concat_getLast (by intro q; rw [q] at hk; cases hk)).symm⟩
    have hm : m.length = k := by rw [List.length_append] at hk; simp at hk; omega
    have ih := stepW_size k m hm (fun u hu => h1 u (by simp [hu])) (fun u hu => h2 u (by simp [hu]))
    have e : stepW (m ++ [v]) = stepW m ++ (blankT ++ rowT v) := by
      unfold stepW
      rw [List.foldl_append]
      rfl
    have hv1 := h1 v (by simp)
    have hv := rowT_size (h2 v (by simp))
    have hb : blankT.size = 1 := rfl
    rw [e, ByteArray.size_append, ByteArray.size_append]
    omega
theorem aheadW_size {o : DOp} (ho : OpOK o) : (aheadW o).size ≤ 300000 := by
  have hfz := dig_size o.Ask.Fuel ho.fuel
  have huz := dig_size o.Fault ho.fault
  have hmz := ho.moves
  have e1 : (⟨#[124]⟩ : ByteArray).size = 1 := rfl
  have hms : (o.Ask.Moves ++ ⟨#[124]⟩).size = o.Ask.Moves.size + 1 := by rw [ByteArray.size_append, e1]
  have hb : blankT.size = 1 := rfl
  have hw : (wordW o).size ≤ 10 := by
    unfold wordW
    split <;> split <;> decide
  have hj : (joinB (partsW o) blankT).size ≤ 200000 := by
    unfold partsW
    split
    · have j1 := joinB_app2 (digB o.Ask.Fuel) [digB o.Fault, o.Ask.Moves ++ ⟨#[124]⟩]
      have j2 := joinB_app2 (digB o.Fault) [o.Ask.Moves ++ ⟨#[124]⟩]
      rw [joinB_one] at j2
      omega
    · rw [joinB_one]; decide
  unfold aheadW
  rw [ByteArray.size_append, ByteArray.size_append]
  omega
theorem hexT_size (l : List Int) : (hexT l).size = 2 * l.length := by
  rw [← hexL_len]
  rfl

theorem written27 (o : DOp) (ho : OpOK o) : PCall Tryz.prog 23 [o.enc] (.s (writtenP o)) := by
  refine pcall_of_vc tabOK Tryz.func23 (by kernel_rfl) rfl (by first | exact pureL | exact pureI) (.raw _) (n := 42) rfl (rs := [.tmp 2]) rfl ?_
  have hb : blankT.size = 1 := rfl
  have hal := aheadW_size ho
  have hah := ahead45 o ho
  have hil := ho.insl
  unfold writtenP
  simp only [go_sem]
  refine brK_dec (fun hk => ?_) (fun hk => ?_)
  · rw [if_pos hk]
    simp only [go_sem]
    intro _
    refine loop_frH [3, 5, 13, 14, 15, 16, 17, 18, 19, 20, 21, 22] (fun m C => ∃ i : Nat, i ≤ o.Ins.length ∧ m = o.Ins.length - i ∧ C = [(13, .raw (.int .i64 (i : Nat))), (3, .s (stepW (o.Ins.take i)))]) o.Ins.length _ ⟨0, by omega, by omega, rfl⟩ (.cons rfl (.cons rfl .nil)) ?_
    rintro m C j ⟨i, hi, rfl, rfl⟩
    simp only [go_sem]
    refine brK_dec (fun hlt => ?_) (fun hge => ?_)
    · obtain ⟨v, hx⟩ : ∃ v, o.Ins[i]? = some v := ⟨_, List.getElem?_eq_getElem (by omega)⟩
      have hm := List.mem_of_getElem? hx
      have hn := stepW_next hx
      have hrow := row17 v (ho.inl v hm) (ho.ins v hm)
      have hrz := rowT_size (ho.ins v hm)
      have hvl := ho.inl v hm
      have hsz := stepW_size _ (o.Ins.take i) rfl (fun u hu => ho.inl u (List.mem_of_mem_take hu)) (fun u hu => ho.ins u (List.mem_of_mem_take hu))
      rw [List.length_take] at hsz
      have hmin : min i o.Ins.length ≤ 100000 := by omega
      generalize min i o.Ins.length = q at hsz hmin
      have hbs : (blankT ++ rowT v).size = 1 + (rowT v).size := by rw [ByteArray.size_append, hb]
      unfold blankT at hbs
      simp only [go_sem]
      refine elemHave (x := v) (by omega) (by simpa using hx) ?_
      simp only [go_sem]
      refine PCall.call hrow ?_
      simp only [go_sem]
      refine And.intro (by first | omega | (simp <;> omega)) ?_
      refine And.intro (by first | omega | (simp <;> omega)) ?_
      exact loopFrH _ (by omega) ⟨i + 1, by omega, rfl, rfl⟩ (.next rfl (by omega) (.cons (by rw [hn]; rfl) .nil)) rfl
    · rw [List.take_of_length_le (by omega)]
      simp only [go_sem]
      exact finSq rfl rfl
  rw [if_neg hk]
  simp only [go_sem]
  refine brK_dec (fun hk4 => ?_) (fun hk4 => ?_)
  · rw [if_pos hk4]
    simp only [go_sem]
    exact finSq rfl rfl
  rw [if_neg hk4]
  have htz := ho.text
  have hig := ho.imgs
  have hhz := hexT_size o.Ask.Image
  have hdg := digits46 o.Ask.Image ho.imgs ho.img
  unfold bodyW
  cases hby : o.Ask.Bytes with
  | false =>
    have hwk : Weak (.agg [.i o.Kind, .s o.Ask.Text, .b false, .lst 1 (o.Ask.Image.map AV.u8) none, .s o.Ask.Moves, .i o.Ask.Fuel, .lst 1 (o.Ins.map AV.il) none, .i o.Fault]) o.enc := by
      rw [DOp.enc_eq, hby]
      exact .refl _
    repeat' first
      | simp only [go_sem, hby]
      | refine drawK mo (by kernel_rfl) ?_
      | (refine pcK_ofW hah ⟨hwk, trivial⟩ ?_)
      | exact finSq rfl rfl
      | refine And.intro (by first | omega | (simp <;> omega)) ?_
  | true =>
    have hwk : Weak (.agg [.i o.Kind, .s o.Ask.Text, .b true, .lst 1 (o.Ask.Image.map AV.u8) none, .s o.Ask.Moves, .i o.Ask.Fuel, .lst 1 (o.Ins.map AV.il) none, .i o.Fault]) o.enc := by
      rw [DOp.enc_eq, hby]
      exact .refl _
    repeat' first
      | simp only [go_sem, hby]
      | refine drawK mo (by kernel_rfl) ?_
      | (refine pcK_ofW hah ⟨hwk, trivial⟩ ?_)
      | (refine pcK_of hdg ?_)
      | exact finSq rfl rfl
      | refine And.intro (by first | omega | (simp <;> omega)) ?_
def sbA (p : ByteArray × Bool) : AV := .tup [.s p.1, .b p.2]
theorem sbA_pure (p : ByteArray × Bool) : Go.Abs.Pure (sbA p) := .tup _ (pure_cons (.raw _) (pure_cons (.raw _) pure_nil))

theorem write16 (o : DOp) (ho : OpOK o) (hz : (writtenP o).size ≤ 50000) : PCall Tryz.prog 8 [o.enc] (sbA (writeP o)) := by
  refine pcall_of_vc tabOK Tryz.func8 (by kernel_rfl) rfl (by first | exact pureL | exact pureI) (sbA_pure _) (n := 23) rfl (rs := [.tmp 2, .tmp 3]) rfl ?_
  have hw := written27 o ho
  have hl := line17 (writtenP o) (by omega)
  unfold writeP
  simp only [go_sem]
  refine PCall.call hw ?_
  simp only [go_sem]
  refine PCall.call hl ?_
  cases hx : lineF (writtenP o) with
  | none =>
    rw [opA_none]
    simp only [go_sem]
    exact ⟨_, rfl, false, .refl _⟩
  | some x =>
    rw [opA_some]
    have hs := same28 x o
    simp only [go_sem]
    refine PCall.call hs ?_
    cases hb : sameB x o with
    | false =>
      simp only [go_sem]
      exact ⟨_, rfl, false, .refl _⟩
    | true =>
      simp only [go_sem]
      exact ⟨_, rfl, false, .refl _⟩
theorem stepW_few : ∀ (k : Nat) (l : List (List Int)), l.length = k → (∀ v ∈ l, v.length ≤ 30) → (∀ v ∈ l, ∀ n ∈ v, I64 n) → (stepW l).size ≤ 4 + k * 700
  | 0, l, hk, _, _ => by
    rw [List.length_eq_zero_iff.1 hk]
    decide
  | k + 1, l, hk, h1, h2 => by
    obtain ⟨m, v, rfl⟩ : ∃ m v, l = m ++ [v] := ⟨_, _, (List.dropLast_concat_getLast (by intro q; rw [q] at hk; cases hk)).symm⟩
    have hm : m.length = k := by rw [List.length_append] at hk; simp at hk; omega
    have ih := stepW_few k m hm (fun u hu => h1 u (by simp [hu])) (fun u hu => h2 u (by simp [hu]))
    have e : stepW (m ++ [v]) = stepW m ++ (blankT ++ rowT v) := by
      unfold stepW
      rw [List.foldl_append]
      rfl
    have hv1 := h1 v (by simp)
    have hv := rowT_size (h2 v (by simp))
    have hb : blankT.size = 1 := rfl
    rw [e, ByteArray.size_append, ByteArray.size_append]
    omega
theorem writtenP_few {o : DOp} (ho : OpOK o) (hf : fewO o) : (writtenP o).size ≤ 50000 := by
  obtain ⟨⟨f1, f2, f3⟩, f4, f5⟩ := hf
  unfold writtenP
  split
  · have := stepW_few _ o.Ins rfl f5 ho.ins
    omega
  · split
    · decide
    · have hfz := dig_size o.Ask.Fuel ho.fuel
      have huz := dig_size o.Fault ho.fault
      have e1 : (⟨#[124]⟩ : ByteArray).size = 1 := rfl
      have hms : (o.Ask.Moves ++ ⟨#[124]⟩).size = o.Ask.Moves.size + 1 := by rw [ByteArray.size_append, e1]
      have hb : blankT.size = 1 := rfl
      have hw : (wordW o).size ≤ 10 := by
        unfold wordW
        split <;> split <;> decide
      have hj : (joinB (partsW o) blankT).size ≤ 2000 := by
        unfold partsW
        split
        · have j1 := joinB_app2 (digB o.Ask.Fuel) [digB o.Fault, o.Ask.Moves ++ ⟨#[124]⟩]
          have j2 := joinB_app2 (digB o.Fault) [o.Ask.Moves ++ ⟨#[124]⟩]
          rw [joinB_one] at j2
          omega
        · rw [joinB_one]; decide
      have hby : (bodyW o).size ≤ 12000 := by
        unfold bodyW
        split
        · rw [hexT_size]; omega
        · omega
      unfold aheadW
      rw [ByteArray.size_append, ByteArray.size_append, ByteArray.size_append]
      omega
theorem lineF_no {s : ByteArray} (h10 : hasB 10 s = false) (h32 : hasB 32 s = true) (h1 : ¬ bef 32 s = stepT) (h2 : ¬ bef 32 s = loadT) (h3 : ¬ bef 32 s = imageT) (h4 : ¬ bef 32 s = updateT) (h5 : ¬ bef 32 s = patchT) : lineF s = none := by
  unfold lineF
  rw [h10, h32, if_neg (by decide), if_pos rfl, if_neg h1, if_neg h2, if_neg h3, if_neg h4, if_neg h5]

theorem line25 (s : ByteArray) (hs : s.size ≤ 100000) : PCall Tryz.prog 7 [.s s] (opA (lineF s)) := by
  refine pcall_of_vc tabOK Tryz.func7 (by kernel_rfl) rfl (by first | exact pureL | exact pureI) (opA_pure _) (n := 74) rfl (rs := [.cell 2 27, .tmp 3]) rfl ?_
  have za := aft_size 32 s
  have hcon : PCall Tryz.prog 19 [.s s, .raw (.int .u8 10)] (.b (hasB 10 s)) := has41 s 10 (by omega)
  have hcut := cut40' s 32 32 rfl (by omega)
  simp only [go_sem]
  refine PCall.call hcut ?_
  simp only [go_sem]
  refine PCall.call hcon ?_
  cases h10 : hasB 10 s with
  | true =>
    have hl : lineF s = none := by unfold lineF; rw [h10]; rfl
    rw [hl, opA_none]
    simp only [go_sem]
    exact ⟨_, rfl, false, weak_t2 weak_noOp (.refl _)⟩
  | false =>
  simp only [go_sem]
  cases h32 : hasB 32 s with
  | false =>
    obtain ⟨hbe, haf, _⟩ := cut_no h32
    rw [hbe, haf]
    have hl : lineF s = if s = stateT then some ⟨4, noAsk, [], 0⟩ else if s = stepT then some ⟨2, noAsk, [], 0⟩ else none := by
      unfold lineF
      rw [h10, h32]
      rfl
    rw [hl]
    refine gK_dec (fun q => ?_) (fun q => ?_)
    · rw [if_pos (show s = stateT from q), opA_some]
      simp only [go_sem]
      exact ⟨_, rfl, false, weak_t2 weak_stateOp (.refl _)⟩
    rw [if_neg (show ¬ s = stateT from q)]
    simp only [go_sem]
    refine brK_dec (fun q => ?_) (fun q => ?_)
    · rw [if_pos (show s = stepT from q)]
      simp only [go_sem]
      refine PCall.call (step42' _) ?_
      unfold opA
      simp only [go_sem]
      exact ⟨_, rfl, false, weak_t2 (weak_sameOp _) (.refl _)⟩
    rw [if_neg (show ¬ s = stepT from q), opA_none]
    repeat' first
      | simp only [go_sem]
      | refine gK_dec (fun _ => ?_) (fun _ => ?_)
      | refine brK_dec (fun _ => ?_) (fun _ => ?_)
      | (intro _)
      | exact ⟨_, rfl, false, weak_t2 weak_noOp (.refl _)⟩
  | true =>
  by_cases w0 : bef 32 s = stateT
  · rw [lineF_no h10 h32 (by rw [w0]; decide) (by rw [w0]; decide) (by rw [w0]; decide) (by rw [w0]; decide) (by rw [w0]; decide), opA_none, w0]
    repeat' first
      | simp only [go_sem]
      | refine gK_dec (fun q => absurd q (by decide)) (fun _ => ?_)
      | refine gK_dec (fun _ => ?_) (fun q => absurd (by decide) q)
      | refine brK_dec (fun q => absurd q (by decide)) (fun _ => ?_)
      | (intro _)
      | exact ⟨_, rfl, false, weak_t2 weak_noOp (.refl _)⟩
  refine gK_dec (fun q => absurd q w0) (fun _ => ?_)
  simp only [go_sem]
  by_cases w1 : bef 32 s = stepT
  · have hl : lineF s = stepF (aft 32 s) := by unfold lineF; rw [h10, h32, if_neg (by decide), if_pos rfl, if_pos w1]
    rw [hl]
    refine brK_dec (fun _ => ?_) (fun q => absurd w1 q)
    simp only [go_sem]
    refine PCall.call (step42 _ (by omega)) ?_
    unfold opA
    simp only [go_sem]
    exact ⟨_, rfl, false, weak_t2 (weak_sameOp _) (.refl _)⟩
  refine brK_dec (fun q => absurd q w1) (fun _ => ?_)
  simp only [go_sem]
  by_cases w4 : bef 32 s = updateT
  · have hl : lineF s = updF (aft 32 s) false := by unfold lineF; rw [h10, h32, if_neg (by decide), if_pos rfl, if_neg w1, if_neg (by rw [w4]; decide), if_neg (by rw [w4]; decide), if_pos w4]
    rw [hl]
    refine gK_dec (fun _ => ?_) (fun q => absurd w4 q)
    have hd : decide (bef 32 s = ⟨#[112, 97, 116, 99, 104]⟩) = false := decide_eq_false (by rw [w4]; decide)
    simp only [go_sem, hd]
    refine PCall.call (update43 _ false (by omega)) ?_
    unfold opA
    simp only [go_sem]
    exact ⟨_, rfl, false, weak_t2 (weak_sameOp _) (.refl _)⟩
  refine gK_dec (fun q => absurd q w4) (fun _ => ?_)
  simp only [go_sem]
  by_cases w5 : bef 32 s = patchT
  · have hl : lineF s = updF (aft 32 s) true := by unfold lineF; rw [h10, h32, if_neg (by decide), if_pos rfl, if_neg w1, if_neg (by rw [w5]; decide), if_neg (by rw [w5]; decide), if_neg w4, if_pos w5]
    rw [hl]
    have hd : decide (bef 32 s = ⟨#[112, 97, 116, 99, 104]⟩) = true := decide_eq_true w5
    repeat' first
      | simp only [go_sem, hd]
      | refine gK_dec (fun _ => ?_) (fun q => absurd w5 q)
      | (intro _)
      | (refine PCall.call (update43 _ true (by omega)) ?_; unfold opA)
      | exact ⟨_, rfl, false, weak_t2 (weak_sameOp _) (.refl _)⟩
  have hd5 : decide (bef 32 s = ⟨#[112, 97, 116, 99, 104]⟩) = false := decide_eq_false w5
  by_cases w2 : bef 32 s = loadT
  · have hl : lineF s = loadF (aft 32 s) false := by unfold lineF; rw [h10, h32, if_neg (by decide), if_pos rfl, if_neg w1, if_pos w2]
    rw [hl, loadF_W]
    have hd : decide (bef 32 s = ⟨#[105, 109, 97, 103, 101]⟩) = false := decide_eq_false (by rw [w2]; decide)
    have hb := content44 noAsk (aft 32 s) false (by omega)
    generalize contW noAsk (aft 32 s) false = p at hb ⊢
    obtain ⟨a, ok⟩ := p
    cases ok <;> repeat' first
      | simp only [go_sem, hd, hd5]
      | refine gK_dec (fun q => absurd q w5) (fun _ => ?_)
      | refine gK_dec (fun _ => ?_) (fun q => absurd w2 q)
      | (intro _)
      | (refine PCall.callW hb ⟨weak_zAsk, .refl _, .refl _, trivial⟩ ?_; unfold askA)
      | exact ⟨_, rfl, false, weak_t2 weak_noOp (.refl _)⟩
      | exact ⟨_, rfl, false, weak_t2 (weak_op _ ⟨.refl _, .refl _, .refl _, .refl _, .refl _, .refl _, .nil _, .refl _, trivial⟩) (.refl _)⟩
  by_cases w3 : bef 32 s = imageT
  · have hl : lineF s = loadF (aft 32 s) true := by unfold lineF; rw [h10, h32, if_neg (by decide), if_pos rfl, if_neg w1, if_neg w2, if_pos w3]
    rw [hl, loadF_W]
    have hd : decide (bef 32 s = ⟨#[105, 109, 97, 103, 101]⟩) = true := decide_eq_true w3
    have hb := content44 noAsk (aft 32 s) true (by omega)
    generalize contW noAsk (aft 32 s) true = p at hb ⊢
    obtain ⟨a, ok⟩ := p
    cases ok <;> repeat' first
      | simp only [go_sem, hd, hd5]
      | refine gK_dec (fun q => absurd q w5) (fun _ => ?_)
      | refine gK_dec (fun q => absurd q w2) (fun _ => ?_)
      | (intro _)
      | (refine PCall.callW hb ⟨weak_zAsk, .refl _, .refl _, trivial⟩ ?_; unfold askA)
      | exact ⟨_, rfl, false, weak_t2 weak_noOp (.refl _)⟩
      | exact ⟨_, rfl, false, weak_t2 (weak_op _ ⟨.refl _, .refl _, .refl _, .refl _, .refl _, .refl _, .nil _, .refl _, trivial⟩) (.refl _)⟩
  rw [lineF_no h10 h32 w1 w2 w3 w4 w5, opA_none]
  have hd3 : decide (bef 32 s = ⟨#[105, 109, 97, 103, 101]⟩) = false := decide_eq_false w3
  repeat' first
    | simp only [go_sem, hd5, hd3]
    | refine gK_dec (fun q => absurd q w5) (fun _ => ?_)
    | refine gK_dec (fun q => absurd q w2) (fun _ => ?_)
    | refine gK_dec (fun q => absurd q w3) (fun _ => ?_)
    | (intro _)
    | exact ⟨_, rfl, false, weak_t2 weak_noOp (.refl _)⟩

theorem digitsX (l : List Int) (hl : l.length ≤ 100000) (hb : ∀ n ∈ l, 0 ≤ n ∧ n ≤ 255) : PCall Tryz.prog 45 [.lst 1 (l.map AV.u8) none] (.s (hexT l)) := by
  refine pcall_of_vc tabOK Tryz.func45 (by kernel_rfl) rfl (by first | exact pureL | exact pureI) (.raw _) (n := 32) rfl (rs := [.tmp 2]) rfl ?_
  simp only [go_sem]
  refine loop_fr [4, 5, 7, 8, 9, 10, 11, 12, 13, 14, 15, 16, 17, 18, 19, 20, 21, 22, 23, 24, 25, 26, 27, 28, 29] (fun m C hh => ∃ (i : Nat) (r : List Blk), i ≤ l.length ∧ m = l.length - i ∧ C = [(5, .raw (.int .i64 (i : Nat))), (4, .lst 1 ((natsL (hexL (l.take i))).map AV.u8) (some 0))] ∧ hh = .tok 5 1 (natsL (hexL (l.take i))).length :: r) l.length _ ⟨0, [], by omega, by omega, rfl, rfl⟩ (.cons rfl (.cons rfl .nil)) ?_
  rintro m C j hh ⟨i, r, hi, rfl, rfl, rfl⟩
  simp only [go_sem]
  intro _
  refine brK_dec (fun hlt => ?_) (fun hge => ?_)
  · obtain ⟨n, hn⟩ : ∃ n, l[i]? = some n := ⟨_, List.getElem?_eq_getElem (by omega)⟩
    have hbn := hb n (List.mem_of_getElem? hn)
    have hnx := hexL_next hn
    have hnl := natsL_len (l.take i)
    rw [List.length_take] at hnl
    have e1 := hexC_at (n / 16) (by omega)
    have e2 := hexC_at (n % 16) (by omega)
    have hsz : hexC.size = 16 := rfl
    unfold hexC at e1 e2
    dsimp only at e1 e2
    have hq : IntKind.u8.wrap (n.tdiv 16) = n / 16 := by rw [Int.tdiv_eq_ediv_of_nonneg (by omega), u8_in _ (by omega) (by omega)]
    have hr : n.tmod 16 = n % 16 := Int.tmod_eq_emod_of_nonneg (by omega)
    repeat' first
      | simp only [go_sem, hq, hr, e1, e2]
      | refine drawK mo (by kernel_rfl) ?_
      | refine elemHave (x := n) (by omega) (by simpa using hn) ?_
      | refine loopFr _ (by omega) ⟨i + 1, r ++ [.tok 5 1 2], by omega, rfl, rfl, by rw [hnx]; simp⟩ (.next rfl (by omega) (.cons (by rw [hnx]; simp [-List.getD_eq_getElem?_getD, e1, e2]) .nil)) rfl
      | refine And.intro (by first | omega | decide | (simp <;> omega)) ?_
  · have hie : i = l.length := by omega
    subst hie
    rw [List.take_length]
    simp only [go_sem]
    exact finSq rfl (by rw [natsL_img]; rfl)
def imageB : ByteArray := ⟨#[105, 109, 97, 103, 101, 32]⟩
def loadB : ByteArray := ⟨#[108, 111, 97, 100, 32]⟩
def updateB : ByteArray := ⟨#[117, 112, 100, 97, 116, 101, 32]⟩
def patchB : ByteArray := ⟨#[112, 97, 116, 99, 104, 32]⟩
def barT : ByteArray := ⟨#[124]⟩
/-- The line of an operation, as the document has it. -/
def writtenX (o : DOp) : ByteArray :=
  if o.Kind = 1 then (if o.Ask.Bytes = true then imageB else loadB) ++ bodyW o
  else if o.Kind = 2 then stepW o.Ins
  else if o.Kind = 3 then ((((((if o.Ask.Bytes = true then patchB else updateB) ++ digB o.Ask.Fuel) ++ blankT) ++ digB o.Fault) ++ blankT) ++ o.Ask.Moves) ++ barT ++ bodyW o
  else stateT
theorem writtenX_eq {o : DOp} (h : o.Kind = 1 ∨ o.Kind = 2 ∨ o.Kind = 3 ∨ o.Kind = 4) : writtenX o = writtenP o := by
  unfold writtenX writtenP
  rcases h with h | h | h | h
  · rw [if_pos h, if_neg (show ¬ o.Kind = 2 by omega), if_neg (show ¬ o.Kind = 4 by omega)]
    apply bts_inj
    unfold aheadW wordW partsW
    rw [if_neg (show ¬ o.Kind = 3 by omega), if_neg (show ¬ o.Kind = 3 by omega), joinB_one]
    cases o.Ask.Bytes <;> simp only [app_bts] <;> rfl
  · rw [if_neg (show ¬ o.Kind = 1 by omega), if_pos h, if_pos h]
  · rw [if_neg (show ¬ o.Kind = 1 by omega), if_neg (show ¬ o.Kind = 2 by omega), if_pos h, if_neg (show ¬ o.Kind = 2 by omega), if_neg (show ¬ o.Kind = 4 by omega)]
    apply bts_inj
    unfold aheadW wordW partsW
    rw [if_pos h, if_pos h]
    have j1 := joinB_c (digB o.Ask.Fuel) [digB o.Fault, o.Ask.Moves ++ ⟨#[124]⟩] blankT (by simp)
    have j2 := joinB_c (digB o.Fault) [o.Ask.Moves ++ ⟨#[124]⟩] blankT (by simp)
    rw [joinB_one] at j2
    have eb : bts barT = bts (⟨#[124]⟩ : ByteArray) := rfl
    have e1 : bts patchB = bts patchT ++ bts blankT := rfl
    have e2 : bts updateB = bts updateT ++ bts blankT := rfl
    cases o.Ask.Bytes
    · simp only [app_bts, j1, j2, eb, e2, if_false, List.append_assoc, Bool.false_eq_true]
    · simp only [app_bts, j1, j2, eb, e1, if_true, List.append_assoc]
  · rw [if_neg (show ¬ o.Kind = 1 by omega), if_neg (show ¬ o.Kind = 2 by omega), if_neg (show ¬ o.Kind = 3 by omega), if_neg (show ¬ o.Kind = 2 by omega), if_pos h]
theorem line_kind {s : ByteArray} {x : DOp} (h : lineF s = some x) : x.Kind = 1 ∨ x.Kind = 2 ∨ x.Kind = 3 ∨ x.Kind = 4 := by
  have hl : ∀ {u w}, loadF u w = some x → x.Kind = 1 := fun {u w} h => by
    unfold loadF at h
    split at h
    · cases h
    · cases h; rfl
  have hu : ∀ {u w}, updF u w = some x → x.Kind = 3 := fun {u w} h => by
    unfold updF at h
    split at h
    · obtain ⟨_, _, _, _, _, _, rfl⟩ := updG_some h
      rfl
    · cases h
  unfold lineF at h
  split at h
  · cases h
  · split at h
    · split at h
      · exact .inr (.inl (back_step h).1)
      · split at h
        · exact .inl (hl h)
        · split at h
          · exact .inl (hl h)
          · split at h
            · exact .inr (.inr (.inl (hu h)))
            · split at h
              · exact .inr (.inr (.inl (hu h)))
              · cases h
    · split at h
      · cases h; exact .inr (.inr (.inr rfl))
      · split at h
        · cases h; exact .inr (.inl rfl)
        · cases h
def writeG (w : ByteArray) (o : DOp) : ByteArray × Bool := match lineF w with
  | none => (⟨#[]⟩, false)
  | some x => if sameB x o = true then (w, true) else (⟨#[]⟩, false)
theorem writeG_no {o : DOp} (h : ¬ (o.Kind = 1 ∨ o.Kind = 2 ∨ o.Kind = 3 ∨ o.Kind = 4)) (w : ByteArray) : writeG w o = (⟨#[]⟩, false) := by
  unfold writeG
  split
  · rfl
  · rename_i x hx
    rw [if_neg]
    intro hs
    have := line_kind hx
    rw [sameB_iff.1 hs] at this
    exact h this
theorem writeX_eq (o : DOp) : writeG (writtenX o) o = writeP o := by
  by_cases h : o.Kind = 1 ∨ o.Kind = 2 ∨ o.Kind = 3 ∨ o.Kind = 4
  · rw [writtenX_eq h]
    rfl
  · rw [writeG_no h]
    exact (writeG_no h (writtenP o)).symm
theorem writtenX_few {o : DOp} (ho : OpOK o) (hf : fewO o) : (writtenX o).size ≤ 50000 := by
  by_cases h : o.Kind = 1 ∨ o.Kind = 2 ∨ o.Kind = 3 ∨ o.Kind = 4
  · rw [writtenX_eq h]
    exact writtenP_few ho hf
  · unfold writtenX
    rw [if_neg (show ¬ o.Kind = 1 by omega), if_neg (show ¬ o.Kind = 2 by omega), if_neg (show ¬ o.Kind = 3 by omega)]
    decide
theorem bodyW_size {o : DOp} (ho : OpOK o) : (bodyW o).size ≤ 200000 := by
  have h1 := ho.imgs
  have h2 := ho.text
  unfold bodyW
  split
  · rw [hexT_size]; omega
  · omega

theorem writtenR (o : DOp) (ho : OpOK o) : PCall Tryz.prog 25 [o.enc] (.s (writtenX o)) := by
  refine pcall_of_vc tabOK Tryz.func25 (by kernel_rfl) rfl (by first | exact pureL | exact pureI) (.raw _) (n := 81) rfl (rs := [.tmp 2]) rfl ?_
  have hb : blankT.size = 1 := rfl
  have hil := ho.insl
  have hmz := ho.moves
  have hbz := bodyW_size ho
  have hf := digits59 o.Ask.Fuel ho.fuel
  have hu := digits59 o.Fault ho.fault
  have hfz := dig_size o.Ask.Fuel ho.fuel
  have huz := dig_size o.Fault ho.fault
  have hdg := digitsX o.Ask.Image ho.imgs ho.img
  unfold writtenX
  cases hby : o.Ask.Bytes with
  | false =>
    have hbo : bodyW o = o.Ask.Text := by unfold bodyW; rw [hby]; rfl
    rw [hbo] at hbz ⊢
    simp only [go_sem, hby]
    by_cases h1 : o.Kind = 1
    · rw [if_pos h1]
      repeat' first
        | simp only [go_sem, hby]
        | refine gK_dec (fun _ => ?_) (fun q => absurd h1 q)
        | refine brK_dec (fun _ => ?_) (fun q => absurd h1 q)
        | exact finSq rfl rfl
        | refine And.intro (by first | omega | (simp <;> omega)) ?_
    rw [if_neg h1]
    refine gK_dec (fun q => absurd q h1) (fun _ => ?_)
    simp only [go_sem, hby]
    refine brK_dec (fun q => absurd q h1) (fun _ => ?_)
    simp only [go_sem, hby]
    refine brK_dec (fun h2 => ?_) (fun h2 => ?_)
    · rw [if_pos h2]
      simp only [go_sem, hby]
      refine loop_frH [4, 5, 38, 39, 40, 41, 42, 43, 44, 45, 46, 47, 48, 49, 50, 51, 52, 53] (fun m C => ∃ i : Nat, i ≤ o.Ins.length ∧ m = o.Ins.length - i ∧ C = [(5, .raw (.int .i64 (i : Nat))), (4, .s (stepW (o.Ins.take i)))]) o.Ins.length _ ⟨0, by omega, by omega, rfl⟩ (.cons rfl (.cons rfl .nil)) ?_
      rintro m C j ⟨i, hi, rfl, rfl⟩
      simp only [go_sem, hby]
      intro _
      refine brK_dec (fun hlt => ?_) (fun hge => ?_)
      · obtain ⟨v, hx⟩ : ∃ v, o.Ins[i]? = some v := ⟨_, List.getElem?_eq_getElem (by omega)⟩
        have hm := List.mem_of_getElem? hx
        have hn := stepW_next hx
        have hrow := row20 v (ho.inl v hm) (ho.ins v hm)
        have hrz := rowT_size (ho.ins v hm)
        have hvl := ho.inl v hm
        have hsz := stepW_size _ (o.Ins.take i) rfl (fun u hu => ho.inl u (List.mem_of_mem_take hu)) (fun u hu => ho.ins u (List.mem_of_mem_take hu))
        rw [List.length_take] at hsz
        have hmin : min i o.Ins.length ≤ 100000 := by omega
        generalize min i o.Ins.length = q at hsz hmin
        have hbs : (stepW (o.Ins.take i) ++ blankT).size = (stepW (o.Ins.take i)).size + 1 := by rw [ByteArray.size_append, hb]
        unfold blankT at hbs
        have e1 : (⟨#[32]⟩ : ByteArray).size = 1 := rfl
        simp only [go_sem, hby]
        refine And.intro (by first | omega | (simp <;> omega)) ?_
        refine elemHave (x := v) (by omega) (by simpa using hx) ?_
        simp only [go_sem, hby]
        refine PCall.call hrow ?_
        simp only [go_sem, hby]
        refine And.intro (by first | omega | (simp <;> omega)) ?_
        exact loopFrH _ (by omega) ⟨i + 1, by omega, rfl, rfl⟩ (.next rfl (by omega) (.cons (by rw [hn, ← app_assoc]; rfl) .nil)) rfl
      · rw [List.take_of_length_le (by omega)]
        simp only [go_sem, hby]
        exact finSq rfl rfl
    rw [if_neg h2]
    simp only [go_sem, hby]
    refine brK_dec (fun h3 => ?_) (fun h3 => ?_)
    · rw [if_pos h3]
      repeat' first
        | simp only [go_sem, hby]
        | refine drawK mo (by kernel_rfl) ?_
        | (refine pcK_of hf ?_)
        | (refine pcK_of hu ?_)
        | exact finSq rfl rfl
        | refine And.intro (by first | omega | (simp <;> omega)) ?_
    · rw [if_neg h3]
      simp only [go_sem, hby]
      exact finSq rfl rfl

  | true =>
    have hbo : bodyW o = hexT o.Ask.Image := by unfold bodyW; rw [hby]; rfl
    rw [hbo] at hbz ⊢
    simp only [go_sem, hby]
    refine PCall.call hdg ?_
    simp only [go_sem, hby]
    by_cases h1 : o.Kind = 1
    · rw [if_pos h1]
      repeat' first
        | simp only [go_sem, hby]
        | refine gK_dec (fun _ => ?_) (fun q => absurd h1 q)
        | refine brK_dec (fun _ => ?_) (fun q => absurd h1 q)
        | exact finSq rfl rfl
        | refine And.intro (by first | omega | (simp <;> omega)) ?_
    rw [if_neg h1]
    refine gK_dec (fun q => absurd q h1) (fun _ => ?_)
    simp only [go_sem, hby]
    refine brK_dec (fun q => absurd q h1) (fun _ => ?_)
    simp only [go_sem, hby]
    refine brK_dec (fun h2 => ?_) (fun h2 => ?_)
    · rw [if_pos h2]
      simp only [go_sem, hby]
      refine loop_frH [4, 5, 38, 39, 40, 41, 42, 43, 44, 45, 46, 47, 48, 49, 50, 51, 52, 53] (fun m C => ∃ i : Nat, i ≤ o.Ins.length ∧ m = o.Ins.length - i ∧ C = [(5, .raw (.int .i64 (i : Nat))), (4, .s (stepW (o.Ins.take i)))]) o.Ins.length _ ⟨0, by omega, by omega, rfl⟩ (.cons rfl (.cons rfl .nil)) ?_
      rintro m C j ⟨i, hi, rfl, rfl⟩
      simp only [go_sem, hby]
      intro _
      refine brK_dec (fun hlt => ?_) (fun hge => ?_)
      · obtain ⟨v, hx⟩ : ∃ v, o.Ins[i]? = some v := ⟨_, List.getElem?_eq_getElem (by omega)⟩
        have hm := List.mem_of_getElem? hx
        have hn := stepW_next hx
        have hrow := row20 v (ho.inl v hm) (ho.ins v hm)
        have hrz := rowT_size (ho.ins v hm)
        have hvl := ho.inl v hm
        have hsz := stepW_size _ (o.Ins.take i) rfl (fun u hu => ho.inl u (List.mem_of_mem_take hu)) (fun u hu => ho.ins u (List.mem_of_mem_take hu))
        rw [List.length_take] at hsz
        have hmin : min i o.Ins.length ≤ 100000 := by omega
        generalize min i o.Ins.length = q at hsz hmin
        have hbs : (stepW (o.Ins.take i) ++ blankT).size = (stepW (o.Ins.take i)).size + 1 := by rw [ByteArray.size_append, hb]
        unfold blankT at hbs
        have e1 : (⟨#[32]⟩ : ByteArray).size = 1 := rfl
        simp only [go_sem, hby]
        refine And.intro (by first | omega | (simp <;> omega)) ?_
        refine elemHave (x := v) (by omega) (by simpa using hx) ?_
        simp only [go_sem, hby]
        refine PCall.call hrow ?_
        simp only [go_sem, hby]
        refine And.intro (by first | omega | (simp <;> omega)) ?_
        exact loopFrH _ (by omega) ⟨i + 1, by omega, rfl, rfl⟩ (.next rfl (by omega) (.cons (by rw [hn, ← app_assoc]; rfl) .nil)) rfl
      · rw [List.take_of_length_le (by omega)]
        simp only [go_sem, hby]
        exact finSq rfl rfl
    rw [if_neg h2]
    simp only [go_sem, hby]
    refine brK_dec (fun h3 => ?_) (fun h3 => ?_)
    · rw [if_pos h3]
      repeat' first
        | simp only [go_sem, hby]
        | refine drawK mo (by kernel_rfl) ?_
        | (refine pcK_of hf ?_)
        | (refine pcK_of hu ?_)
        | exact finSq rfl rfl
        | refine And.intro (by first | omega | (simp <;> omega)) ?_
    · rw [if_neg h3]
      simp only [go_sem, hby]
      exact finSq rfl rfl


theorem writeR (o : DOp) (ho : OpOK o) (hz : (writtenX o).size ≤ 50000) : PCall Tryz.prog 9 [o.enc] (sbA (writeP o)) := by
  refine pcall_of_vc tabOK Tryz.func9 (by kernel_rfl) rfl (by first | exact pureL | exact pureI) (sbA_pure _) (n := 23) rfl (rs := [.tmp 2, .tmp 3]) rfl ?_
  have hw := writtenR o ho
  have hl := line25 (writtenX o) (by omega)
  rw [← writeX_eq]
  unfold writeG
  simp only [go_sem]
  refine PCall.call hw ?_
  simp only [go_sem]
  refine PCall.call hl ?_
  cases hx : lineF (writtenX o) with
  | none =>
    rw [opA_none]
    simp only [go_sem]
    exact ⟨_, rfl, false, .refl _⟩
  | some x =>
    rw [opA_some]
    have hs := same14 x o (line_ok hz hx) ho
    simp only [go_sem]
    refine PCall.call hs ?_
    cases hb : sameB x o with
    | false =>
      simp only [go_sem]
      exact ⟨_, rfl, false, .refl _⟩
    | true =>
      simp only [go_sem]
      exact ⟨_, rfl, false, .refl _⟩

theorem law_lines (s : ByteArray) (o : DOp) (hr : o.ok) : PCall Tryz.prog 3 [.s s, o.enc] (.b true) := by
  refine pcall_of_vc tabOK Tryz.func3 (by kernel_rfl) rfl (by first | exact pureL | exact pureI) (.raw _) (n := 64) rfl (rs := [.tmp 4]) rfl ?_
  simp only [go_sem]
  refine gK_dec (fun _ => ?_) (fun hs => ?_)
  · simp only [go_sem]
    refine PCall.call live8 ?_
    simp only [go_sem]
    exact finBq rfl rfl
  simp only [go_sem]
  refine PCallE.callW (few15 [o] (by simp)) ⟨.tok _ _ _, trivial⟩ ?_
  rintro _ ⟨b, rfl, hf⟩
  cases b with
  | false =>
    simp only [go_sem]
    refine PCall.call live8 ?_
    simp only [go_sem]
    exact finBq rfl rfl
  | true =>
  have hf := hf rfl o (by simp)
  have ho := few_ok hr hf
  have hw := write16 o ho (writtenP_few ho hf)
  have hv := writeR o ho (writtenX_few ho hf)
  have hl1 := line17 s (by omega)
  have hl2 := line25 s (by omega)
  obtain ⟨x, ok, hx, hxo⟩ : ∃ x ok, opA (lineF s) = .tup [DOp.enc x, .b ok] ∧ OpOK x := by
    cases h : lineF s with
    | none => exact ⟨noOp, false, rfl, no_ok⟩
    | some x => exact ⟨x, true, rfl, line_ok (by omega) h⟩
  rw [hx] at hl1 hl2
  have hxx := same14 x x hxo hxo
  rw [sameB_iff.2 rfl] at hxx
  generalize writeP o = p at hw hv
  obtain ⟨w, good⟩ := p
  unfold sbA at hw hv
  cases ok <;> cases good <;> repeat' first
    | simp only [go_sem]
    | (refine PCall.call hl1 ?_)
    | (refine PCall.call hl2 ?_)
    | (refine PCall.call hw ?_)
    | (refine PCall.call hv ?_)
    | (refine PCall.call hxx ?_)
    | (refine PCall.call live8 ?_)
    | refine gK_dec (fun _ => ?_) (fun _ => ?_)
    | exact finBq rfl rfl
    | (exfalso; contradiction)
theorem star_err : "*" ++ "errors.errorString" = "*errors.errorString" := by decide
theorem row_err (u : TypeId) (h : Tryz.prog.typeName? 3 u = some "*errors.errorString") : u = 133 :=
  typeName_ptr_named (nm := "errors.errorString") (by rw [star_err]; kernel_rfl) (by kernel_rfl) (by decide) u (by rw [star_err]; exact h)
theorem err_of {W : World} {n : String} {g : Nat} {text : List UInt8} (hg : Tryz.prog.globalNamed n = some g) (ht : (Tryz.prog.globals[g]?).map (·.type) = some 81) (h : laidMet Tryz.prog [(n, .iface "*errors.errorString" (.ptr (.agg [.lit (.string text)])))] W) :
    ∃ cs t l, W.heap[g]? = some (.cells cs t l) ∧ ∃ tp p, cs = #[Value.iface tp p] := by
  obtain ⟨a, s, hv, _⟩ := laid_sentinel h hg ht Tryz.underlying81 (tp := 133) (te := 135) (ts := 9) row_err Tryz.underlying133 Tryz.underlying135 rfl rfl Tryz.underlying9 (by kernel_rfl) (by kernel_rfl)
  unfold World.var? at hv
  rw [hg] at hv
  simp only [Option.bind_some] at hv
  split at hv
  · rename_i cs t l hc
    cases hv
    exact ⟨_, t, l, hc, _, _, rfl⟩
  · cases hv
/-- The table of powers and the two errors lie as the row's condition says. -/
theorem tab_of {W : World} (laid : List (String × DataW Unit)) (hl : laid.filter (fun x => x.1 == "internal/strconv.uint64pow10") = [("internal/strconv.uint64pow10", Lib.tabData .u64 Lib.pow10Tab)])
    (hl1 : laid.filter (fun x => x.1 == "strconv.ErrSyntax") = [("strconv.ErrSyntax", .iface "*errors.errorString" (.ptr (.agg [.lit (.string [105, 110, 118, 97, 108, 105, 100, 32, 115, 121, 110, 116, 97, 120])])))])
    (hl2 : laid.filter (fun x => x.1 == "strconv.ErrRange") = [("strconv.ErrRange", .iface "*errors.errorString" (.ptr (.agg [.lit (.string [118, 97, 108, 117, 101, 32, 111, 117, 116, 32, 111, 102, 32, 114, 97, 110, 103, 101])])))])
    (hpl : (laid.all fun x => x.2.handleName?.isNone) = true) (h : laidMetH Tryz.prog laid W) :
    ∀ x ∈ tabL, ∃ cs t l, W.heap[x.1]? = some (.cells cs t l) ∧ x.2 cs := by
  rw [MakeChecks.laidMetH_plain _ _ _ hpl] at h
  have h1 := h.filter (fun x => x.1 == "internal/strconv.uint64pow10")
  rw [hl] at h1
  have h3 := h.filter (fun x => x.1 == "strconv.ErrSyntax")
  rw [hl1] at h3
  have h4 := h.filter (fun x => x.1 == "strconv.ErrRange")
  rw [hl2] at h4
  have hg : Tryz.prog.globalNamed "internal/strconv.uint64pow10" = some 1 := by kernel_rfl
  have h2 := Lib.tabIs_of_head (g := 1) (t := 120) (e := 89) (n := 20) hg (by kernel_rfl) Tryz.underlying120 Tryz.underlying89 (by kernel_rfl) (by kernel_rfl) h1
  have g3 := err_of (g := 4) (by kernel_rfl) (by kernel_rfl) h3
  have g4 := err_of (g := 5) (by kernel_rfl) (by kernel_rfl) h4
  intro x hx
  unfold tabL at hx
  simp only [List.mem_cons, List.not_mem_nil, or_false] at hx
  rcases hx with rfl | rfl | rfl
  · unfold Lib.TabIs World.var? at h2
    rw [hg] at h2
    simp only [Option.bind_some] at h2
    split at h2
    · rename_i cs t l hc
      cases h2
      exact ⟨_, t, l, hc, rfl⟩
    · cases h2
  · exact g3
  · exact g4
end Go.Proofs.YtfhhboohlblnfaaGreatDoor
