/-
  CkRow, CkRowL: put together.
-/
import Derived.Test.YtidjmcmfgimbfaaGreatDoorUniA
import Derived.Test.YtidjmcmfgimbfaaGreatDoorUniB
import Derived.Test.YtidjmcmfgimbfaaGreatDoorUniC
import Derived.Test.YtidjmcmfgimbfaaGreatDoorUniD
import Derived.Test.YtidjmcmfgimbfaaGreatDoorUniE
import Derived.Test.YtidjmcmfgimbfaaGreatDoorUniF
namespace Go.Proofs.YtidjmcmfgimbfaaGreatDoor
open Go.Abs
set_option maxRecDepth 20000
set_option linter.unusedSimpArgs false
set_option linter.unusedVariables false
set_option maxHeartbeats 1000000
attribute [local irreducible] vc vcOps vcStep vcGuard prK hrK gK gsK brK callK ElemK SeqK BlockK ScopeK OpsK CallK LoopK LoopGo finPost ACall PCall PCallE BCall vqOps vqStep vqGuard qrK heK pcK gqK gqsK QOpsK qcallK DrawK
theorem clk_app (n : DNode) : ∀ (k : Nat) (s : ByteArray) (acc : List DDecl), clk n k s acc = if (clk n k s []).2 = true then ((clk n k s []).1 ++ acc, true) else ([], false)
  | 0, _, _ => rfl
  | k + 1, s, acc => by
    rw [clk_succ, clk_succ]
    by_cases h1 : (decl n s).2 = true
    · rw [if_pos h1, if_pos h1]
      by_cases h2 : (decl n s).1.On = ⟨#[]⟩
      · rw [if_pos h2, if_pos h2]; rfl
      · rw [if_neg h2, if_neg h2, clk_app n k _ ((decl n s).1 :: acc), clk_app n k _ [(decl n s).1]]
        by_cases h3 : (clk n k (decl n s).1.On []).2 = true
        · rw [if_pos h3, if_pos h3]; simp
        · rw [if_neg h3, if_neg h3]; rfl
    · rw [if_neg h1, if_neg h1]; rfl
theorem clk_on {n : DNode} {k : Nat} {s : ByteArray} (h : (clk n (k + 1) s []).2 = true) (h2 : ¬ (decl n s).1.On = ⟨#[]⟩) : (clk n k (decl n s).1.On []).2 = true ∧ clk n (k + 1) s [] = ((clk n k (decl n s).1.On []).1 ++ [(decl n s).1], true) := by
  rw [clk_succ] at h ⊢
  by_cases h1 : (decl n s).2 = true
  · rw [if_pos h1, if_neg h2, clk_app n k _ [(decl n s).1]] at h ⊢
    by_cases h3 : (clk n k (decl n s).1.On []).2 = true
    · exact ⟨h3, by rw [if_pos h3]⟩
    · rw [if_neg h3] at h; cases h
  · rw [if_neg h1] at h; cases h
theorem clk_more {n : DNode} : ∀ {k : Nat} {s : ByteArray}, (clk n k s []).2 = true → clk n (k + 1) s [] = clk n k s []
  | 0, _, h => by cases h
  | k + 1, s, h => by
    by_cases h2 : (decl n s).1.On = ⟨#[]⟩
    · rw [clk_succ n (k + 1), if_pos h2, clk_succ n k, if_pos h2]
    · obtain ⟨h3, h4⟩ := clk_on h h2
      have h5 := clk_more h3
      have h1 : (decl n s).2 = true := by
        rw [clk_succ] at h
        by_cases h1 : (decl n s).2 = true
        · exact h1
        · rw [if_neg h1] at h; cases h
      rw [h4, clk_succ, if_pos h1, if_neg h2, clk_app, h5, if_pos h3]
theorem clk_ahead {n : DNode} : ∀ {k : Nat} {s : ByteArray}, (clk n k s []).2 = true → ∀ (j : Nat) d, (clk n k s []).1[j]? = some d → clk n k d.On [] = ((clk n k s []).1.take j, true)
  | 0, _, h, _, _, _ => by cases h
  | k + 1, s, h, j, d, hd => by
    by_cases h2 : (decl n s).1.On = ⟨#[]⟩
    · rw [clk_succ, if_pos h2] at hd
      split at hd <;> simp at hd
    · obtain ⟨h3, h4⟩ := clk_on h h2
      rw [h4] at hd ⊢
      generalize hX : (clk n k (decl n s).1.On []).1 = X at hd
      dsimp only at hd ⊢
      by_cases hj : j < X.length
      · rw [List.getElem?_append_left hj] at hd
        have ih := clk_ahead h3 j d (by rw [hX]; exact hd)
        rw [clk_more (by rw [ih]), ih, hX, List.take_append_of_le_length (by omega)]
      · rw [List.getElem?_append_right (by omega)] at hd
        have hj2 : j = X.length := by
          have := (List.getElem?_eq_some_iff.1 hd).1
          simp at this
          omega
        subst hj2
        simp at hd
        subst hd
        rw [clk_more h3, List.take_left, ← hX, ← h3]
theorem rowN_ok {L : List DEnum} {n : DNode} {s : ByteArray} (h : (rowN L n s).2 = true) : (clock n s).2 = true ∧ (∀ d ∈ (clock n s).1, armOk L d.Ctor = true) ∧ rowN L n s = ((clock n s).1.map (fun d => condOf L d.On d.Ctor), true) := by
  unfold rowN at *
  split at h
  · rename_i h0
    rw [if_pos h0]
    unfold rowL at *
    split at h
    · rename_i h1
      exact ⟨h0, fun d hd => List.all_eq_true.1 h1 d hd, by rw [if_pos h1]⟩
    · cases h
  · cases h
theorem row_ahead {L : List DEnum} {n : DNode} {s : ByteArray} (h : (rowN L n s).2 = true) {j : Nat} {c : DCond} (hc : (rowN L n s).1[j]? = some c) : rowN L n c.Var = ((rowN L n s).1.take j, true) := by
  obtain ⟨h1, h2, h3⟩ := rowN_ok h
  rw [h3] at hc ⊢
  dsimp only at hc ⊢
  rw [List.getElem?_map] at hc
  cases hd : (clock n s).1[j]? with
  | none => rw [hd] at hc; cases hc
  | some d =>
    rw [hd] at hc
    obtain rfl := Option.some.inj hc
    have ha : clock n d.On = ((clock n s).1.take j, true) := clk_ahead h1 j d hd
    show rowN L n d.On = _
    unfold rowN
    rw [ha, if_pos rfl, rowL_yes (fun x hx => h2 x (List.mem_of_mem_take hx)), List.map_take]
theorem declF_find {s : ByteArray} : ∀ {l : List DDecl} {d : DDecl}, d ∈ l → (l.map DDecl.Name).Nodup → d.Name = s → declF s l = (d, true)
  | x :: l, d, hd, hn, e => by
    rw [declF]
    rw [List.map_cons, List.nodup_cons] at hn
    rcases List.mem_cons.1 hd with rfl | hd
    · rw [if_pos e]
    · rw [if_neg (fun h => hn.1 (by rw [h, ← e]; exact List.mem_map.2 ⟨d, hd, rfl⟩)), declF_find hd hn.2 e]
theorem once_nodes {p : DProg} (h : checkF p = 0) {n : DNode} (hn : n ∈ p.Nodes) : ((allV n).map DDecl.Name).Nodup := by
  unfold checkF at h
  split at h
  · rename_i h0; exact absurd h h0
  · split at h
    · omega
    · split at h
      · omega
      · split at h
        · split at h
          · rename_i hq
            simp only [Bool.and_eq_true] at hq
            have h1 := List.all_eq_true.1 hq.1 n hn
            unfold onceN at h1
            by_cases hN : ((allV n).map DDecl.Name).Nodup
            · exact hN
            · rw [onceB_no hN] at h1; cases h1
          · omega
        · omega
theorem rows_of {p : DProg} (hz : (clockF p).Err = 0) {i : Nat} {n : DNode} (hn : p.Nodes[i]? = some n) {d : DDecl} (hd : d ∈ allV n) :
    ∃ row, rowF p (i : Int) d.Name = (row, true) ∧ row.length ≤ 13 ∧ decide ((row.length : Int) > 0) = decide (¬ d.On = ⟨#[]⟩) ∧ ∀ (j : Nat) c, row[j]? = some c → rowF p (i : Int) c.Var = (row.take j, true) := by
  obtain ⟨_, ht, hk⟩ := clock_zero hz
  obtain ⟨_, _, hc, _⟩ := types_zero ht
  have hr := (nodeCk_zero (hk i n hn)).2.1
  have hrow := List.all_eq_true.1 hr d hd
  have hF : ∀ s, rowF p (i : Int) s = rowN p.Enums n s := fun s => by unfold rowF; rw [nodeAt_nat, hn]
  have hde := declF_find hd (once_nodes hc (List.mem_of_getElem? hn)) rfl
  refine ⟨(rowN p.Enums n d.Name).1, by rw [hF, ← hrow], rowN_len _ _ _, ?_, fun j c hc => by rw [hF]; exact row_ahead hrow hc⟩
  obtain ⟨h1, _, h3⟩ := rowN_ok hrow
  rw [h3]
  have hd1 : (decl n d.Name).1 = d := by unfold decl; rw [hde]
  unfold clock at h1 ⊢
  by_cases ho : d.On = ⟨#[]⟩
  · have : clk n 13 d.Name [] = ([], (decl n d.Name).2) := by
      rw [clk_succ, hd1, if_pos ho]
      cases (decl n d.Name).2 <;> rfl
    rw [this]
    simp [ho]
  · obtain ⟨_, h4⟩ := clk_on h1 (by rw [hd1]; exact ho)
    rw [h4]
    simp [ho]
theorem law_rows (p : DProg) : PCall Tryz.prog 7 [p.enc] (.b true) := by
  refine pcall_of_vc tabOK Tryz.func7 (by kernel_rfl) rfl pureL pureI (n := 93) rfl (rs := [.tmp 2]) rfl ?_
  repeat' first
    | exact finB rfl
    | exact finI rfl
    | exact finP rfl
    | exact absurd rfl (by assumption)
    | simp only [go_sem]
    | (intro _)
    | refine brK_dec (fun _ => ?_) (fun _ => ?_)
    | refine brK_split (fun hb_ => ?_) (fun hb_ => ?_)
    | refine gK_dec (fun _ => ?_) (fun _ => ?_)
    | refine gK_split (fun hb_ => ?_) (fun hb_ => ?_)
    | refine gqK_dec (fun _ => ?_) (fun _ => ?_)
    | refine ⟨by omega, ?_⟩
    | refine elemHave (by omega) (by assumption) ?_
    | ((fail_if_success (clear hn)); refine elemMap (by omega) (by omega) (fun n hn => ?_))
    | ((fail_if_success (clear hd)); refine elemMap (by omega) (by omega) (fun d hd => ?_))
    | ((fail_if_success (clear hc)); refine elemMap (by omega) (by omega) (fun c hc => ?_))
    | refine elemMap (by omega) (by omega) (fun x hx => ?_)
    | refine drawK mo (by kernel_rfl) ?_
    | ((fail_if_success (clear hb)); refine PCallE.call (small_p _) (fun r hr => ?_); obtain ⟨b, rfl, hb⟩ := hr; cases b <;> (try replace hb := hb rfl))
    | (refine PCall.call live44 ?_)
    | (refine pcK_of live44 ?_)
    | (refine PCall.call (clockCheck p hb) ?_)
    | (refine pcK_of (clockCheck p hb) ?_)
    | (rw [fault_z])
    | ((fail_if_success (clear hz)); have hz : (clockF p).Err = 0 := (by first | (rw [show clockF p = ⟨0, 0, 0⟩ by assumption]) | (rw [show clockF p = ⟨0, 0, 0⟩ from Classical.not_not.1 (by assumption)])))
    | (refine PCall.call (all66 n (by have := allV_le7 hb n (List.mem_of_getElem? hn); omega)) ?_)
    | ((fail_if_success (clear hrow)); obtain ⟨row, hrow, hr13, hne, hah⟩ := rows_of hz (by simpa using hn) (List.mem_of_getElem? hd); refine pcK_of (row45 p _ d.Name (allV_le7 hb)) ?_; rw [hrow])
    | (refine pcK_of (row45 p _ c.Var (allV_le7 hb)) ?_; rw [hah _ c (by simpa using hc)])
    | (refine PCall.call (sameCs _ _) ?_; rw [Int.toNat_natCast, eqB_eq rfl])
    | (refine pcK_of (sameCs _ _) ?_; rw [Int.toNat_natCast, eqB_eq rfl])
    | (exfalso; rw [hne] at hb_; simp at hb_; done)
    | (simp only [beq_self_eq_true, bne_self_eq_false])
    | (exact absurd rfl (by assumption))
    | (exact finBq rfl (by simp))
    | exact loopFrX _ (by omega) _ ⟨i + 1, by omega, rfl, rfl⟩ (.next rfl (by omega) .nil) rfl (by first | rfl | (simp only [List.append_assoc, List.cons_append, List.nil_append]; rfl))
    | (refine loop_frX [2, 3, 4, 5, 6, 7, 8, 9, 10, 21, 22, 23, 24, 25, 26, 27, 28, 29, 30, 31, 32, 33, 34, 35, 36, 37, 38, 39, 40, 41, 42, 43, 44, 45, 46, 47, 48, 49, 50, 51, 52, 53, 54, 55, 56, 57, 58, 59, 60, 61, 62, 63, 64, 65, 66, 67, 68, 69, 70, 71, 72, 73, 74, 75, 76, 77, 78, 79, 80, 81, 82, 83, 84, 85, 86, 87, 88, 89, 90, 91] (fun mm_ CC_ => ∃ (i : Nat), i ≤ p.Nodes.length ∧ mm_ = p.Nodes.length - i ∧ CC_ = [(3, .raw (.int .i64 ((i : Nat) : Int)))]) (p.Nodes.length) _ ⟨0, by omega, by omega, rfl⟩ (.cons rfl .nil) ?_; rintro mm_ CC_ ji ri ⟨i, hi, rfl, rfl⟩)
    | exact loopFrH _ (by omega) ⟨k + 1, by omega, rfl, rfl⟩ (.next rfl (by omega) .nil) rfl
    | (refine loop_frH [2, 5, 6, 7, 8, 9, 10, 34, 35, 36, 37, 38, 39, 40, 41, 42, 43, 44, 45, 46, 47, 48, 49, 50, 51, 52, 53, 54, 55, 56, 57, 58, 59, 60, 61, 62, 63, 64, 65, 66, 67, 68, 69, 70, 71, 72, 73, 74, 75, 76, 77, 78, 79, 80, 81, 82, 83, 84, 85, 86, 87, 88, 89, 90, 91] (fun mm_ CC_ => ∃ (k : Nat), k ≤ (allV n).length ∧ mm_ = (allV n).length - k ∧ CC_ = [(5, .raw (.int .i64 ((k : Nat) : Int)))]) ((allV n).length) _ ⟨0, by omega, by omega, rfl⟩ (.cons rfl .nil) ?_; rintro mm_ CC_ jk ⟨k, hk, rfl, rfl⟩)
    | exact loopFrH _ (by omega) ⟨m + 1, by omega, rfl, rfl⟩ (.next rfl (by omega) .nil) rfl
    | (refine loop_frH [2, 8, 9, 10, 65, 66, 67, 68, 69, 70, 71, 72, 73, 74, 75, 76, 77, 78, 79, 80, 81, 82, 83, 84, 85, 86, 87, 88, 89, 90, 91] (fun mm_ CC_ => ∃ (m : Nat), m ≤ row.length ∧ mm_ = row.length - m ∧ CC_ = [(8, .raw (.int .i64 ((m : Nat) : Int)))]) (row.length) _ ⟨0, by omega, by omega, rfl⟩ (.cons rfl .nil) ?_; rintro mm_ CC_ jm ⟨m, hm, rfl, rfl⟩)
end Go.Proofs.YtidjmcmfgimbfaaGreatDoor
