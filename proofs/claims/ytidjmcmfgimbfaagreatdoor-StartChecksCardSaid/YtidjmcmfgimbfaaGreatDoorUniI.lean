/-
  CaA, CaAL: put together.
-/
import Derived.Test.YtidjmcmfgimbfaaGreatDoorUniA
import Derived.Test.YtidjmcmfgimbfaaGreatDoorUniB
import Derived.Test.YtidjmcmfgimbfaaGreatDoorUniC
import Derived.Test.YtidjmcmfgimbfaaGreatDoorUniD
import Derived.Test.YtidjmcmfgimbfaaGreatDoorUniE
import Derived.Test.YtidjmcmfgimbfaaGreatDoorUniF
import Derived.Test.YtidjmcmfgimbfaaGreatDoorUniG
import Derived.Test.YtidjmcmfgimbfaaGreatDoorUniH
namespace Go.Proofs.YtidjmcmfgimbfaaGreatDoor
open Go.Abs
set_option maxRecDepth 20000
set_option linter.unusedSimpArgs false
set_option linter.unusedVariables false
set_option maxHeartbeats 1000000
attribute [local irreducible] vc vcOps vcStep vcGuard prK hrK gK gsK brK callK ElemK SeqK BlockK ScopeK OpsK CallK LoopK LoopGo finPost ACall PCall PCallE BCall vqOps vqStep vqGuard qrK heK pcK gqK gqsK QOpsK qcallK DrawK
theorem readyF_pl {N H : List (List ByteArray)} {pl : List Bool} {i : Nat} (h : readyF N H pl i = true) {hs : List ByteArray} (hh : H[i]? = some hs) : ∀ s ∈ hs, waitsF N pl s = false := by
  unfold readyF at h
  rw [Bool.and_eq_true] at h
  have h2 := h.2
  rw [List.getD_eq_getElem?_getD, hh] at h2
  intro s hs'
  have := List.all_eq_true.1 h2 s hs'
  simpa using this
def AheadP (N H : List (List ByteArray)) (l : List Nat) : Prop := ∀ (t i : Nat), l[t]? = some i → i < N.length ∧ ∀ hs, H[i]? = some hs → ∀ s ∈ hs, ∀ (j : Nat) ns, N[j]? = some ns → s ∈ ns → j ∈ l.take t
theorem order_ahead {N H : List (List ByteArray)} : ∀ (k : Nat) (pl : List Bool) (out : List Nat), pl.length = N.length → (∀ j : Nat, pl[j]? = some true → j ∈ out) → AheadP N H out → AheadP N H (orderG N H k pl out).1 ∧ (orderG N H k pl out).1.length ≤ out.length + k ∧ ((orderG N H k pl out).2 = true → (orderG N H k pl out).1.length = out.length + k) ∧ ((orderG N H k pl out).2 = false → (orderG N H k pl out).1.length < out.length + k)
  | 0, pl, out, hl, hpl, hP => by
    rw [orderG]
    exact ⟨hP, by simp, by simp, by simp⟩
  | k + 1, pl, out, hl, hpl, hP => by
    rw [orderG]
    cases hq : pickF N H pl 0 N.length with
    | none => exact ⟨hP, by simp, by simp, by simp⟩
    | some i =>
      obtain ⟨hi, hr⟩ := pick_lt hq
      have hfi := ready_pl hr
      have ih := order_ahead k (pl.set i true) (out ++ [i]) (by rw [List.length_set]; exact hl)
        (fun j hj => by
          by_cases e : j = i
          · subst e; simp
          · rw [List.getElem?_set_ne (fun h => e h.symm)] at hj
            exact List.mem_append_left _ (hpl j hj))
        (fun t j ht => by
          by_cases hlt : t < out.length
          · rw [List.getElem?_append_left hlt] at ht
            obtain ⟨h1, h2⟩ := hP t j ht
            refine ⟨h1, fun hs hh s hs' j' ns hn hm => ?_⟩
            rw [List.take_append_of_le_length (by omega)]
            exact h2 hs hh s hs' j' ns hn hm
          · have hte : t = out.length := by
              have := (List.getElem?_eq_some_iff.1 ht).1
              simp at this
              omega
            subst hte
            rw [List.getElem?_append_right (Nat.le_refl _)] at ht
            simp at ht
            subst ht
            refine ⟨by omega, fun hs hh s hs' j' ns hn hm => ?_⟩
            rw [List.take_left]
            have hw := readyF_pl hr hh s hs'
            have hj' : j' < pl.length := by rw [hl]; exact (List.getElem?_eq_some_iff.1 hn).1
            cases hb : pl[j']? with
            | none => rw [List.getElem?_eq_none_iff] at hb; omega
            | some b =>
              cases b with
              | true => exact hpl j' hb
              | false => rw [waits_yes hn hb hm] at hw; cases hw)
      obtain ⟨a, b, c, d⟩ := ih
      simp only [List.length_append, List.length_singleton] at b c d
      exact ⟨a, by dsimp only; omega, fun h => by have := c h; dsimp only; omega, fun h => by have := d h; dsimp only; omega⟩
theorem all_in {N : Nat} : ∀ {l : List Nat}, (∀ k, k < N → k ∈ l) → N ≤ l.length := by
  induction N with
  | zero => intro l _; omega
  | succ N ih =>
    intro l h
    have hm := h N (by omega)
    have := ih (l := l.erase N) (fun k hk => (List.mem_erase_of_ne (by omega)).2 (h k (by omega)))
    rw [List.length_erase_of_mem hm] at this
    have : 0 < l.length := List.length_pos_of_mem hm
    omega
theorem declF_anyM {s : ByteArray} {n : DNode} (h : isF n s = true) : (∃ d ∈ n.Ins, d.Name = s) ∨ ∃ d ∈ n.Outs ++ n.Vars, d.Name = s := by
  obtain ⟨d, hd, he⟩ := is_mem h
  have : allV n = n.Ins ++ (n.Outs ++ n.Vars) := by simp [allV]
  rw [this, List.mem_append] at hd
  rcases hd with hd | hd
  · exact .inl ⟨d, hd, he⟩
  · exact .inr ⟨d, hd, he⟩
theorem allDef_of {p : DProg} {a : Int} {n : DNode} (h : (nodeFault p a n).Err = 0) : allDef n = true := by
  unfold nodeFault at h
  split at h
  · split at h
    · split at h
      · assumption
      · cases h
    · rename_i h2; exact absurd h h2
  · cases h
mutual
theorem reads_is : ∀ (e : Ex) (s : ByteArray), s ∈ readsF e → ∃ y ∈ parts e, (y.kind = 3 ∨ y.kind = 11 ∨ y.kind = 12) ∧ y.name = s
  | .mk k n m o a subs, s, h => by
    rw [readsF_eq, List.mem_append] at h
    rcases h with h | h
    · refine ⟨_, self_parts _, ?_⟩
      unfold mineK at h
      split at h
      · rename_i hk; exact ⟨hk, (List.mem_singleton.1 h).symm⟩
      · simp at h
    · have h' : s ∈ readsL subs := by
        have hk : ∃ t, readsL (Ex.mk k n m o a subs).subs = readsL (keepK (Ex.mk k n m o a subs).kind (Ex.mk k n m o a subs).subs) ++ t := by
          unfold keepK
          split
          · exact ⟨_, by rw [readsL, List.nil_append]⟩
          · split
            · refine ⟨readsL ((Ex.mk k n m o a subs).subs.drop 1), ?_⟩
              rw [← readsL_append, List.take_append_drop]
            · exact ⟨[], by rw [List.append_nil]⟩
        obtain ⟨t, ht⟩ := hk
        have : s ∈ readsL (Ex.mk k n m o a subs).subs := by rw [ht]; exact List.mem_append_left _ h
        exact this
      obtain ⟨x, hx, y, hy, hz⟩ := readsL_is subs s h'
      exact ⟨y, sub_parts (e := .mk k n m o a subs) hx hy, hz⟩
theorem readsL_is : ∀ (l : List Ex) (s : ByteArray), s ∈ readsL l → ∃ x ∈ l, ∃ y ∈ parts x, (y.kind = 3 ∨ y.kind = 11 ∨ y.kind = 12) ∧ y.name = s
  | [], s, h => by rw [readsL] at h; simp at h
  | x :: l, s, h => by
    rw [readsL, List.mem_append] at h
    rcases h with h | h
    · obtain ⟨y, hy, hz⟩ := reads_is x s h
      exact ⟨x, List.mem_cons_self, y, hy, hz⟩
    · obtain ⟨x', hx', hz⟩ := readsL_is l s h
      exact ⟨x', List.mem_cons_of_mem _ hx', hz⟩
end
def eqNames (n : DNode) (j : Nat) : List ByteArray := (n.Eqs[j]?.map DEq.Names).getD []
def thereF (n : DNode) (lo : List Nat) (t : Nat) : List ByteArray := n.Ins.map DDecl.Name ++ (lo.take t).flatMap (eqNames n)
theorem ahead_of {p : DProg} (hz : (causeF p).Err = 0) {k : Nat} {n : DNode} (hk : p.Nodes[k]? = some n) :
    ∃ lo, orderF (namesC n) (hangsC n) = (lo, true) ∧ lo.length = n.Eqs.length ∧ ∀ (t i : Nat), lo[t]? = some i → ∃ q, n.Eqs[i]? = some q ∧ ∀ s ∈ readsF q.E, s ∈ thereF n lo t := by
  obtain ⟨_, hck, hca⟩ := cause_zero hz
  obtain ⟨_, hty, _⟩ := clock_zero hck
  obtain ⟨_, hs, _, _⟩ := types_zero hty
  have h0 := (scope_zero (p := p) (by rw [hs])).2.2 k n hk
  have hda := allDef_of h0
  have hO := order_ahead (N := namesC n) (H := hangsC n) (namesC n).length (List.replicate (namesC n).length false) [] (by simp) (fun j hj => by
    have := List.getElem?_eq_some_iff.1 hj
    obtain ⟨h1, h2⟩ := this
    simp at h2) (fun t i h => by simp at h)
  have hor : orderG (namesC n) (hangsC n) (namesC n).length (List.replicate (namesC n).length false) [] = orderF (namesC n) (hangsC n) := rfl
  rw [hor, len_namesC] at hO
  have hx := (nodeCa_zero (hca k n hk)).2
  generalize orderF (namesC n) (hangsC n) = R at hO hx
  obtain ⟨lo, ok⟩ := R
  dsimp only at hO hx
  obtain ⟨hA, _, hT, hF⟩ := hO
  have hok : ok = true := by
    rcases hx with h | h
    · exact h
    · cases ok with
      | true => rfl
      | false =>
        have h1 := hF rfl
        have h2 := all_in (N := n.Eqs.length) (l := lo) (fun j hj => h j _ (List.getElem?_eq_getElem hj))
        simp at h1
        omega
  subst hok
  have hle := hT rfl
  simp at hle
  refine ⟨lo, rfl, hle, fun t i hi => ?_⟩
  obtain ⟨h1, h2⟩ := hA t i hi
  rw [len_namesC] at h1
  obtain ⟨q, hq⟩ : ∃ q, n.Eqs[i]? = some q := ⟨_, List.getElem?_eq_getElem h1⟩
  refine ⟨q, hq, fun s hs' => ?_⟩
  unfold thereF
  rw [List.mem_append]
  obtain ⟨y, hy, hk3, rfl⟩ := reads_is q.E s hs'
  have hl := List.all_eq_true.1 (node_is h0 q (List.mem_of_getElem? hq)).2 y hy
  unfold leadsF at hl
  rw [if_pos hk3, Bool.and_eq_true] at hl
  rcases declF_anyM hl.2 with ⟨d, hd, he⟩ | ⟨d, hd, he⟩
  · exact .inl (List.mem_map.2 ⟨d, hd, he⟩)
  · right
    unfold allDef at hda
    have hm := memB_iff.1 (List.all_eq_true.1 hda d hd)
    rw [he] at hm
    obtain ⟨q', hq', hm'⟩ := List.mem_flatMap.1 hm
    obtain ⟨j, hj, rfl⟩ := List.getElem_of_mem hq'
    have hj' : n.Eqs[j]? = some n.Eqs[j] := List.getElem?_eq_getElem hj
    have hmem := h2 (hangsF n q) (map_some hq) y.name (by unfold hangsF; exact List.mem_append_left _ hs') j n.Eqs[j].Names (map_some hj') hm'
    exact List.mem_flatMap.2 ⟨j, hmem, by unfold eqNames; rw [hj']; exact hm'⟩

theorem has38 (l : List ByteArray) (x : ByteArray) : PCall Tryz.prog 38 [.lst 1 (l.map AV.s) none, .s x] (.b (memB x l)) := by
  refine pcall_of_vc tabOK Tryz.func38 (by kernel_rfl) rfl (pure_cons (pure_strs _) (pure_cons (.raw _) pure_nil)) (.raw _) (n := 18) rfl (rs := [.tmp 4]) rfl ?_
  simp only [go_sem]
  refine loop_frH [4, 5, 6, 7, 8, 9, 10, 11, 12, 13, 14, 15, 16, 17] (fun m C => ∃ i : Nat, i ≤ l.length ∧ m = l.length - i ∧ (∀ t ∈ l.take i, decide (t = x) = false) ∧ C = [(5, .raw (.int .i64 (i : Nat)))]) l.length _ ⟨0, by omega, by omega, by simp, rfl⟩ (.cons rfl .nil) ?_
  rintro m C ja ⟨i, hi, rfl, hp0, rfl⟩
  simp only [go_sem]
  intro _
  refine brK_dec (fun hlt => ?_) (fun hge => ?_)
  · obtain ⟨y, hy⟩ : ∃ y, l[i]? = some y := ⟨_, List.getElem?_eq_getElem (by omega)⟩
    simp only [go_sem]
    refine elemHave (x := y) (by omega) (by simpa using hy) ?_
    simp only [go_sem]
    refine brK_dec (fun he => ?_) (fun he => ?_)
    · simp only [go_sem]
      exact finBq rfl (memB_iff.2 (he ▸ List.mem_of_getElem? hy)).symm
    · simp only [go_sem]
      exact loopFrH _ (by omega) ⟨i + 1, by omega, rfl, take_all hp0 hy (decide_eq_false he), rfl⟩ (.next rfl (by omega) .nil) rfl
  · simp only [go_sem]
    refine finBq rfl ?_
    symm
    cases hq : memB x l with
    | false => rfl
    | true =>
      have := take_full hp0 (by omega) x (memB_iff.1 hq)
      simp at this
theorem there_len {n : DNode} (hn : okNode n) {lo : List Nat} {t : Nat} (ht : lo.length ≤ 30) : (thereF n lo t).length ≤ 1000 := by
  have h1 := hn.1.1
  unfold thereF
  rw [List.length_append, List.length_map]
  have h2 : ((lo.take t).flatMap (eqNames n)).length ≤ (lo.take t).length * 20 := by
    rw [List.flatMap_def]
    have := flat_le (c := 20) (N := (lo.take t).map (eqNames n)) (fun l hl => by
      obtain ⟨j, _, rfl⟩ := List.mem_map.1 hl
      unfold eqNames
      cases hq : n.Eqs[j]? with
      | none => simp
      | some q => exact (hn.2.2.2.2.2 q (List.mem_of_getElem? hq)).1)
    simpa using this
  have h3 : (lo.take t).length ≤ 30 := by rw [List.length_take]; omega
  omega
theorem there_next {n : DNode} {lo : List Nat} {t i : Nat} {q : DEq} (hi : lo[t]? = some i) (hq : n.Eqs[i]? = some q) : thereF n lo (t + 1) = thereF n lo t ++ q.Names := by
  unfold thereF
  rw [flatMap_next _ hi, ← List.append_assoc]
  unfold eqNames
  rw [hq]
  rfl
theorem there_ne {n : DNode} {lo : List Nat} {t : Nat} {s : ByteArray} (h : s ∈ thereF n lo t) : eqB (thereF n lo t) [] = false := eqB_ne fun e => by rw [e] at h; simp at h
set_option maxHeartbeats 8000000
theorem law_ahead (p : DProg) : PCall Tryz.prog 9 [p.enc] (.b true) := by
  refine pcall_of_vc tabOK Tryz.func9 (by kernel_rfl) rfl pureL pureI (n := 121) rfl (rs := [.tmp 2]) rfl ?_
  simp only [go_sem]
  refine PCallE.call (small_p _) (fun r hr => ?_)
  obtain ⟨b, rfl, hb⟩ := hr
  cases b
  · simp only [go_sem]
    refine PCall.call live38 ?_
    simp only [go_sem]
    exact finBq rfl rfl
  replace hb := hb rfl
  have hp6 := hb.2.1
  simp only [go_sem]
  refine PCall.call (causeCheck p hb) ?_
  simp only [go_sem]
  rw [fault_z]
  simp only [go_sem]
  refine brK_dec (fun _ => ?_) (fun hz => ?_)
  · simp only [go_sem]
    refine PCall.call live38 ?_
    simp only [go_sem]
    exact finBq rfl rfl
  have hz0 : (causeF p).Err = 0 := by rw [Classical.not_not.1 hz]
  simp only [go_sem]
  refine loop_frX [2, 3, 4, 5, 6, 7, 8, 9, 10, 11, 12, 23, 24, 25, 26, 27, 28, 29, 30, 31, 32, 33, 34, 35, 36, 37, 38, 39, 40, 41, 42, 43, 44, 45, 46, 47, 48, 49, 50, 51, 52, 53, 54, 55, 56, 57, 58, 59, 60, 61, 62, 63, 64, 65, 66, 67, 68, 69, 70, 71, 72, 73, 74, 75, 76, 77, 78, 79, 80, 81, 82, 83, 84, 85, 86, 87, 88, 89, 90, 91, 92, 93, 94, 95, 96, 97, 98, 99, 100, 101, 102, 103, 104, 105, 106, 107, 108, 109, 110, 111, 112, 113, 114, 115, 116, 117, 118, 119] (fun m C => ∃ i : Nat, i ≤ p.Nodes.length ∧ m = p.Nodes.length - i ∧ C = [(3, .raw (.int .i64 (i : Nat)))]) p.Nodes.length _ ⟨0, by omega, by omega, rfl⟩ (.cons rfl .nil) ?_
  rintro m C ja r ⟨k, hi, rfl, rfl⟩
  simp only [go_sem]
  intro _
  refine brK_dec (fun hlt => ?_) (fun hge => ?_)
  · obtain ⟨n, hk⟩ : ∃ n, p.Nodes[k]? = some n := ⟨_, List.getElem?_eq_getElem (by omega)⟩
    have hn := hb.2.2 n (List.mem_of_getElem? hk)
    have he4 := hn.2.2.2.1
    have hin := hn.1.1
    obtain ⟨lo, hor, hle, hah⟩ := ahead_of hz0 hk
    have hO := order39 n (okNode_C hn)
    rw [hor] at hO
    simp only [go_sem]
    refine elemHave (x := n) (by omega) (by simpa using hk) ?_
    simp only [go_sem]
    refine PCall.call hO ?_
    simp only [go_sem]
    intro _ _
    refine brK_dec (fun hq => absurd (by omega) hq) (fun _ => ?_)
    simp only [go_sem]
    refine loop_fr [7, 8, 51, 52, 53, 54, 55, 56, 57, 58, 59, 60, 61, 62, 63, 64, 65, 66] (fun m_ C hh => ∃ (i : Nat) (r2 : List Blk), i ≤ n.Ins.length ∧ m_ = n.Ins.length - i ∧ C = [(8, .raw (.int .i64 (i : Nat))), (7, .lst 1 (((n.Ins.take i).map DDecl.Name).map AV.s) (some (r.length + 2)))] ∧
      hh = progBd p :: (r ++ nodeB n :: .tok 9 1 i :: r2)) n.Ins.length _ ⟨0, [], by omega, by omega, rfl, rfl⟩ (.cons rfl (.cons rfl .nil)) ?_
    rintro m_ C jb hh ⟨i, r2, hi2, rfl, rfl, rfl⟩
    simp only [go_sem]
    intro _
    refine brK_dec (fun hlt2 => ?_) (fun hge2 => ?_)
    · obtain ⟨d, hd⟩ : ∃ d, n.Ins[i]? = some d := ⟨_, List.getElem?_eq_getElem (by omega)⟩
      simp only [go_sem]
      refine elemHave (x := d) (by omega) (by simpa using hd) ?_
      simp only [go_sem]
      have hti : (n.Ins.take i).length = i := by rw [List.length_take]; omega
      refine ⟨by omega, ?_⟩
      exact loopFr _ (by omega) ⟨i + 1, _, by omega, rfl, rfl, by rw [hti]⟩ (.next rfl (by omega) (.cons (by rw [take_mapS (f := DDecl.Name) (by simpa using hd)]; simp) .nil)) rfl
    · have h00 : thereF n lo 0 = n.Ins.map DDecl.Name := by unfold thereF; simp
      have hl0 : (thereF n lo 0).length = i := by rw [h00, List.length_map]; omega
      rw [List.take_of_length_le (by omega), ← h00]
      clear h00
      simp only [go_sem]
      refine loop_fr [2, 7, 9, 10, 11, 12, 67, 68, 69, 70, 71, 72, 73, 74, 75, 76, 77, 78, 79, 80, 81, 82, 83, 84, 85, 86, 87, 88, 89, 90, 91, 92, 93, 94, 95, 96, 97, 98, 99, 100, 101, 102, 103, 104, 105, 106, 107, 108, 109, 110, 111, 112, 113, 114, 115, 116, 117, 118, 119] (fun m_ C hh => ∃ (t : Nat) (r3 : List Blk), t ≤ lo.length ∧ m_ = lo.length - t ∧ C = [(9, .raw (.int .i64 (t : Nat))), (7, .lst 1 ((thereF n lo t).map AV.s) (some (r.length + 2)))] ∧
        hh = progBd p :: (r ++ nodeB n :: .tok 9 1 (thereF n lo t).length :: r3)) lo.length _ ⟨0, _, by omega, by omega, rfl, by rw [hl0]⟩ (.cons rfl (.cons rfl .nil)) ?_
      rintro m_ C jc hh ⟨t, r3, hi3, rfl, rfl, rfl⟩
      simp only [go_sem]
      intro _
      refine brK_dec (fun hlt3 => ?_) (fun hge3 => ?_)
      · obtain ⟨i3, hx⟩ : ∃ x, lo[t]? = some x := ⟨_, List.getElem?_eq_getElem (by omega)⟩
        obtain ⟨q, hq, hmem⟩ := hah t i3 hx
        have hqo := hn.2.2.2.2.2 q (List.mem_of_getElem? hq)
        have hil := (List.getElem?_eq_some_iff.1 hq).1
        have htl := there_len hn (lo := lo) (t := t) (by omega)
        have hnx := there_next hx hq
        have hrl := okE_reads hqo.2.1
        repeat' first
          | (exfalso; omega)
          | simp only [go_sem]
          | (intro _)
          | refine drawK mo (by kernel_rfl) ?_
          | refine elemHave (x := i3) (by omega) (by simpa using hx) ?_
          | refine gqK_dec (fun _ => ?_) (fun _ => ?_)
          | refine gK_dec (fun _ => ?_) (fun _ => ?_)
          | refine brK_dec (fun _ => ?_) (fun _ => ?_)
          | refine elemHave (x := q) (by omega) (by simpa using hq) ?_
          | (refine PCall.call (reads42 q.E hrl) ?_)
        refine loop_frX [2, 12, 99, 100, 101, 102, 103, 104, 105, 106, 107, 108, 109, 110, 111, 112, 113, 114, 115] (fun m_ C => ∃ u : Nat, u ≤ (readsF q.E).length ∧ m_ = (readsF q.E).length - u ∧ C = [(12, .raw (.int .i64 (u : Nat)))]) (readsF q.E).length _ ⟨0, by omega, by omega, rfl⟩ (.cons rfl .nil) ?_
        rintro m_ C jd r4 ⟨u, hi4, rfl, rfl⟩
        simp only [go_sem]
        intro _
        refine brK_dec (fun hlt4 => ?_) (fun hge4 => ?_)
        · obtain ⟨s, hs⟩ : ∃ s, (readsF q.E)[u]? = some s := ⟨_, List.getElem?_eq_getElem (by omega)⟩
          have hsm := hmem s (List.mem_of_getElem? hs)
          have hne := there_ne hsm
          have hmb := memB_iff.2 hsm
          simp only [go_sem]
          refine PCall.callW (namesStr (thereF n lo t) []) ⟨.tok _ _ _, .nil _, trivial⟩ ?_
          rw [hne]
          simp only [go_sem]
          refine elemHave (x := s) (by omega) (by simpa using hs) ?_
          simp only [go_sem]
          refine PCall.callW (has38 (thereF n lo t) s) ⟨.tok _ _ _, .refl _, trivial⟩ ?_
          rw [hmb]
          simp only [go_sem]
          exact loopFrX _ (by omega) _ ⟨u + 1, by omega, rfl, rfl⟩ (.next rfl (by omega) .nil) rfl (by first | rfl | (simp only [List.append_assoc, List.cons_append, List.nil_append]; rfl))
        · simp only [go_sem]
          refine ⟨by have := hqo.1; simp; omega, ?_⟩
          exact loopFr _ (by omega) ⟨t + 1, _, by omega, rfl, rfl, by rw [hnx, List.length_append]⟩ (.next rfl (by omega) (.cons (by rw [hnx]; simp) .nil)) rfl
      · simp only [go_sem]
        exact loopFrX _ (by omega) _ ⟨k + 1, by omega, rfl, rfl⟩ (.next rfl (by omega) .nil) rfl (by first | rfl | (simp only [List.append_assoc, List.cons_append, List.nil_append]; rfl))
  · simp only [go_sem]
    refine PCall.call live38 ?_
    simp only [go_sem]
    exact finBq rfl rfl
end Go.Proofs.YtidjmcmfgimbfaaGreatDoor
