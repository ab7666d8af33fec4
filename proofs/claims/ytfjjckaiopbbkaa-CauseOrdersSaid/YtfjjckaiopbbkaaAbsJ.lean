/-
  The abstract layer, part J: slices that are built, made, cut, appended to.
-/
import Derived.Test.YtfjjckaiopbbkaaAbsI
namespace Go.Abs
open Go.RowKit

section
variable {P : Program} {T : TypeId → TI} {S : Addr → Prop} {φ : Nat → Loc} {h : List Blk} {w : World} {s : List AV} {a : Act}

theorem allOf_eq {sz : Nat} : ∀ {es : List AV}, allOf sz es = true → ∀ e ∈ es, e.cells.length = sz ∧ e.cells.all AV.one = true
  | [], _ => by simp
  | e :: es, h => by
    simp only [allOf] at h
    split at h
    · rename_i g1 g2
      intro x hx
      rcases List.mem_cons.1 hx with rfl | hx
      · exact ⟨of_decide_eq_true g1, g2⟩
      · exact allOf_eq h x hx
    · cases h

theorem inOrder_eq : ∀ {l : List (Nat × Operand)} {n : Nat}, inOrder n l = true → ∀ (i : Nat) p, l[i]? = some p → p.1 = n + i
  | [], _, _, i, p, hp => by simp at hp
  | (j, x) :: r, n, h, i, p, hp => by
    simp only [inOrder] at h
    split at h
    · rename_i g
      have g := of_decide_eq_true g
      cases i with
      | zero => simp at hp; subst hp; exact g
      | succ i =>
        have := inOrder_eq h i p (by simpa using hp)
        omega
    · cases h

theorem mul_le_of_lt {i n sz : Nat} (h : i < n) : i * sz + sz ≤ n * sz := by
  have : (i + 1) * sz ≤ n * sz := Nat.mul_le_mul_right sz h
  rw [Nat.succ_mul] at this
  exact this

/-- What 'fillAV' makes of parts that come one behind the other, all of one size. -/
theorem fillAV_row (sz : Nat) : ∀ (parts : List (Nat × AV)) (n : Nat) (cells : List AV), (∀ (i : Nat) p, parts[i]? = some p → p.1 = n + i ∧ p.2.cells.length = sz ∧ p.2.cells.all AV.one = true) → (n + parts.length) * sz ≤ cells.length →
    ∃ out, fillAV (fun i => some (i * sz, sz)) cells parts = some out ∧ out.length = cells.length ∧ ∀ (j : Nat), out[j]? = if n * sz ≤ j ∧ j < (n + parts.length) * sz then (flat (parts.map (·.2)))[j - n * sz]? else cells[j]?
  | [], n, cells, _, _ => ⟨cells, rfl, rfl, fun j => by rw [if_neg (by simp)]⟩
  | (i, v) :: r, n, cells, hp, hl => by
    obtain ⟨e1, e2, e3⟩ := hp 0 _ rfl
    simp only [Nat.add_zero] at e1 e2 e3
    subst e1
    simp only [List.length_cons] at hl ⊢
    have hle : i * sz + sz ≤ cells.length := Nat.le_trans (mul_le_of_lt (by omega)) hl
    obtain ⟨out, h1, h2, h3⟩ := fillAV_row sz r (i + 1) (putAt cells (i * sz) v.cells) (fun k p hk => by
      obtain ⟨g1, g2, g3⟩ := hp (k + 1) p (by simpa using hk)
      exact ⟨by omega, g2, g3⟩) (by rw [putAt_length]; have : i + 1 + r.length = i + (r.length + 1) := by omega
                                    rw [this]; exact hl)
    have hfl : flat (((i, v) :: r).map (·.2)) = v.cells ++ flat (r.map (·.2)) := by simp [flat]
    have hsum : (i + 1 + r.length) * sz = (i + (r.length + 1)) * sz := by
      have : i + 1 + r.length = i + (r.length + 1) := by omega
      rw [this]
    have hi1 : (i + 1) * sz = i * sz + sz := Nat.succ_mul i sz
    have hge : (i + 1) * sz ≤ (i + (r.length + 1)) * sz := Nat.mul_le_mul_right sz (by omega)
    refine ⟨out, ?_, by rw [h2, putAt_length], fun j => ?_⟩
    · simp only [fillAV]
      rw [decide_eq_true e2, decide_eq_true hle, e3]
      exact h1
    · rw [h3, putAt_get _ _ _ _ (by rw [e2]; exact hle), hfl, hsum, hi1, e2]
      by_cases c1 : j < i * sz
      · rw [if_neg (by omega), if_neg (by omega), if_neg (by omega)]
      · by_cases c2 : j < i * sz + sz
        · rw [if_neg (by omega), if_pos (by omega), if_pos (by omega), List.getElem?_append_left (by omega)]
        · by_cases c3 : j < (i + (r.length + 1)) * sz
          · rw [if_pos (by omega), if_pos (by omega), List.getElem?_append_right (by omega), e2]
            congr 1
            omega
          · rw [if_neg (by omega), if_neg (by omega), if_neg (by omega)]

theorem buildSlice_sound (hT : TabOK P T) (hs : CAll S w φ s a.tmps) (hr : R S φ h w) (dst : Option Tmp) (t : TypeId) (len : Nat) (parts : Array (Nat × Operand)) (ty : TypeId) (pos : String) (af : Array Edge) (gd : Option (Nat × Bool)) :
    (stepHeap T s h (.buildSlice t len parts)).sound S φ h w ((execOp a.eval ⟨dst, .buildSlice t len parts, ty, pos, af, gd⟩).run P w) := by
  simp only [stepHeap]
  split
  · rename_i e hk
    obtain ⟨_, _, _, _, _, _, _, _, _, _, _, hK⟩ := (hT t).known (by rw [hk]; simp)
    rw [hk] at hK
    split
    · trivial
    · rename_i hke
      obtain ⟨i, z, hi, hsz, _, hz, hzc, _, _, hz1, hzl, _⟩ := (hT e).known hke
      split
      · rename_i g1 g2 g3 g4 g5
        have g1 := of_decide_eq_true g1
        have g4 := of_decide_eq_true g4
        have g5 := of_decide_eq_true g5
        have hall := allOf_eq g3
        have hord := inOrder_eq g2
        generalize hes : parts.toList.map (fun p => opd s p.2) = es at hall
        have hlen : es.length = len := by rw [← hes]; simpa using g1
        have hzcells : z.cells = (T e).zero.toArray := by rw [← hzc]
        have hzs : z.cells.size = (T e).size := by rw [hzcells]; simpa using hzl
        let init : Array Value := (Array.range (len * (T e).size)).map (fun x => (if len * (T e).size = 0 then #[] else z.cells)[x % (if len * (T e).size = 0 then #[] else z.cells).size]!)
        have hinit : ∀ v ∈ init.toList, v.oneCell' = true := by
          intro v hv
          simp only [init, Array.toList_map, List.mem_map] at hv
          obtain ⟨x, hx, rfl⟩ := hv
          have hx' : x < len * (T e).size := by simpa using hx
          rw [if_neg (by omega)]
          have hlt : x % z.cells.size < z.cells.size := Nat.mod_lt _ (by omega)
          rw [getElem!_pos z.cells _ hlt]
          exact hz1 _ (by rw [← hzc]; simp)
        have hisz : init.size = len * (T e).size := by simp [init]
        obtain ⟨out, h1, h2, h3⟩ := fillAV_row (T e).size (parts.toList.map fun p => (p.1, opd s p.2)) 0 (init.toList.map .raw) (fun i p hp => by
          rw [List.getElem?_map, Option.map_eq_some_iff] at hp
          obtain ⟨q, hq, rfl⟩ := hp
          have hm : opd s q.2 ∈ es := by rw [← hes]; exact List.mem_map.2 ⟨q, List.mem_of_getElem? hq, rfl⟩
          exact ⟨hord i q hq, (hall _ hm).1, (hall _ hm).2⟩) (by simp [hisz, ← hlen, ← hes])
        obtain ⟨us, f1, f2, f3⟩ := fill_sound (S := S) (w := w) (φ := φ) (fun i => some (i * (T e).size, (T e).size)) (parts.toList.map fun p => (p.1, opd s p.2)) (parts.toList.map fun p => (p.1, a.eval p.2)) (init.toList.map .raw) out init
          (by simp) (fun i p q hp hq => by
            simp only [List.getElem?_map, Option.map_eq_some_iff] at hp hq
            obtain ⟨x, hx, rfl⟩ := hp
            obtain ⟨y, hy, rfl⟩ := hq
            rw [hx] at hy
            cases hy
            exact ⟨rfl, C.opd hs x.2⟩) (CAll.map_raw init.toList) hinit h1
        have hflat : flat ((parts.toList.map fun p => (p.1, opd s p.2)).map (·.2)) = flat es := by rw [← hes]; simp [List.map_map, Function.comp_def]
        have husz : us.size = len * (T e).size := by rw [f2.1, h2]; simp [hisz]
        have hfl := flat_length (es := es) (sz := (T e).size) (fun x hx => (hall x hx).1)
        obtain ⟨S', k1, k2, k3⟩ := push_tok hr (es := es) (sz := (T e).size) (vs := us) (fun x hx => (hall x hx).1) len (by omega) (by
            have : len ≤ len * (T e).size := Nat.le_mul_of_pos_right len g5
            simp only [maxLen]; omega) husz (fun j c hj => by
          have hjl := lookupD hj
          rw [hfl, hlen] at hjl
          have ho := h3 j
          rw [if_pos (by simp [← hlen, ← hes] at hjl ⊢; exact hjl), hflat] at ho
          simp only [Nat.zero_mul, Nat.sub_zero] at ho
          rw [hj] at ho
          obtain ⟨u, hu, hcu⟩ := f2.at ho
          exact ⟨u, hu, hcu, f3 u (by rw [← Array.mem_def]; exact Array.mem_of_getElem? hu)⟩) e w (.inl rfl)
        rw [hlen] at k1 k2 k3
        refine ⟨_, _, S', _, .inl ?_, k1, k2, k3⟩
        have ep : (Array.map (fun (x : Nat × Operand) => (x.fst, a.eval x.snd)) parts).toList = parts.toList.map fun p => (p.1, a.eval p.2) := by simp
        simp only [execOp, Instr.buildSlice, Sem.run_bind, run_underlying hK, Result.andThen_ok, run_size (hT e) hke]
        rw [if_neg (by omega)]
        by_cases h0 : len * (T e).size = 0
        · have hi0 : init = (Array.range (len * (T e).size)).map (fun x => (#[] : Array Value)[x % (#[] : Array Value).size]!) := by simp only [init, if_pos h0]
          rw [if_pos h0]
          simp only [Sem.run_bind, Sem.run_pure, Result.andThen_ok]
          rw [ep, ← hi0, f1]
          simp [newRow, newObj, Sem.run, Result.andThen]
        · have hi0 : init = (Array.range (len * (T e).size)).map (fun x => z.cells[x % z.cells.size]!) := by simp only [init, if_neg h0]
          rw [if_neg h0]
          simp only [Sem.run_bind, Sem.run_pure, Result.andThen_ok, zeroValue, run_typeInfo _ hi, hz]
          rw [ep, ← hi0, f1]
          simp [newRow, newObj, Sem.run, Result.andThen]
      · trivial
  · trivial

end
end Go.Abs
