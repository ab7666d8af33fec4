/-
  The abstract layer, part I: 'stepHeap' is sound.
-/
import Derived.Test.YtfjjckaiopbbkaaAbsH
namespace Go.Abs
open Go.RowKit

section
variable {P : Program} {T : TypeId → TI} {S : Addr → Prop} {φ : Nat → Loc} {h : List Blk} {w : World} {s : List AV} {a : Act}

theorem putAt_get : ∀ (new cs : List AV) (off i : Nat), off + new.length ≤ cs.length → (putAt cs off new)[i]? = if off ≤ i ∧ i < off + new.length then new[i - off]? else cs[i]?
  | [], cs, off, i, _ => by
    rw [if_neg (by simp)]
    rfl
  | c :: new, cs, off, i, hl => by
    simp only [List.length_cons] at hl
    simp only [putAt]
    rw [putAt_get new (cs.set off c) (off + 1) i (by rw [List.length_set]; omega)]
    simp only [List.length_cons]
    by_cases h1 : i = off
    · subst h1
      rw [if_neg (by omega), if_pos (by omega), List.getElem?_set_self (by omega)]
      simp
    · by_cases h2 : off + 1 ≤ i ∧ i < off + 1 + new.length
      · rw [if_pos h2, if_pos (by omega)]
        have : i - off = (i - (off + 1)) + 1 := by omega
        rw [this, List.getElem?_cons_succ]
      · rw [if_neg h2, if_neg (by omega), List.getElem?_set_ne (by omega)]

theorem putAt_length : ∀ (new cs : List AV) (off : Nat), (putAt cs off new).length = cs.length
  | [], _, _ => rfl
  | c :: new, cs, off => by simp only [putAt]; rw [putAt_length new]; simp

theorem run_storeAt {t : TypeId} (hT : TIok P t (T t)) (hk : (T t).kind ≠ .other) {b off : Nat} {t' : TypeId} {cur : Array Value} {v : Value} (hg : w.heap[b]? = some (.cells cur t' (0, 0))) (hsz : v.cells.size = (T t).size)
    (hl : off + v.cells.size ≤ cur.size) (h1 : ∀ x ∈ v.cells.toList, x.oneCell' = true) :
    (Instr.storeAt t (.pointer (some ⟨b, off, none⟩)) v).run P w = .ok () (w.setRow b (cur.toList.take off ++ v.cells.toList ++ cur.toList.drop (off + v.cells.size)).toArray) := by
  have := run_storeCells_at P b off t' v.cells.toList 0 cur w hg (by simpa using hl) h1
  simp only [Instr.storeAt, Instr.sureAddr, storeVar, Sem.run_bind, Sem.run_pure, Result.andThen_ok, run_size hT hk]
  rw [if_neg (by simp [hsz])]
  simpa using this

theorem store_sound (hT : TabOK P T) (hs : CAll S w φ s a.tmps) (hr : R S φ h w) (dst : Option Tmp) (t : TypeId) (x y : Operand) (ty : TypeId) (pos : String) (af : Array Edge) (gd : Option (Nat × Bool)) :
    (stepHeap T s h (.store t x y)).sound S φ h w ((execOp a.eval ⟨dst, .store t x y, ty, pos, af, gd⟩).run P w) := by
  simp only [stepHeap]
  split
  · trivial
  · rename_i hk
    have hx := C.opd hs x
    have hy := C.opd hs y
    split
    · rename_i k off hxe
      rw [hxe] at hx
      split
      · rename_i t' cs hkb
        split
        · rename_i g1 g2 g3
          have g1 := of_decide_eq_true g1
          have g2 := of_decide_eq_true g2
          have hcs := hy.cells (noTup g3)
          have hones := ones hcs g3
          generalize hvx : a.eval x = vx at hx
          cases hx with
          | ptr _ _ b hb =>
            have hrb := hr.blk k _ hkb
            obtain ⟨b', vs, e1, e2, e3, e4, e5⟩ := hrb
            rw [hb] at e1
            cases e1
            have esz : (a.eval y).cells.size = (T t).size := by rw [hcs.1, g1]
            have ele : off + (a.eval y).cells.size ≤ vs.size := by rw [esz, e3.1]; exact g2
            have hrun := run_storeAt (P := P) (hT t) hk e2 esz ele hones
            have hnew := setRow_heap w b vs (vs.toList.take off ++ (a.eval y).cells.toList ++ vs.toList.drop (off + (a.eval y).cells.size)).toArray t' (0, 0) e2
            have hoth := fun b'' (hne : b'' ≠ b) => setRow_other w b b'' (vs.toList.take off ++ (a.eval y).cells.toList ++ vs.toList.drop (off + (a.eval y).cells.size)).toArray hne
            have howner : blockOf (φ k) (.cells t' cs) = some b := by rw [hb]; rfl
            have hcell : ∀ q, S q → (w.setRow b (vs.toList.take off ++ (a.eval y).cells.toList ++ vs.toList.drop (off + (a.eval y).cells.size)).toArray).cell? q = w.cell? q :=
              fun q hq => cell_of_heap (hoth _ (e5 q hq))
            have hput := hr.put (S' := S) (l := φ k) (x := .cells t' (putAt cs off (opd s y).cells)) (w' := w.setRow b (vs.toList.take off ++ (a.eval y).cells.toList ++ vs.toList.drop (off + (a.eval y).cells.size)).toArray) hkb rfl rfl rfl (by simp [World.setRow])
              (fun b'' _ hne => hoth b'' (fun e => hne (by rw [e]; exact howner))) (fun _ h => h) hcell (fun q hq => .inl hq) (fun q hq => by simpa [World.setRow] using hr.bnd q hq) (Loc.le_refl _)
              (by
                refine ⟨b, _, ?_, hnew, ⟨?_, fun i c v hc hv => ?_⟩, fun v hv => ?_, e5⟩
                · rw [upd_same]; exact hb
                · simp only [List.size_toArray, List.length_append, List.length_take, List.length_drop, Array.length_toList, putAt_length]
                  rw [← e3.1]; omega
                · rw [putAt_get _ _ _ _ (by rw [g1]; exact g2)] at hc
                  have hmono : C S w φ c v → C S (w.setRow b (vs.toList.take off ++ (a.eval y).cells.toList ++ vs.toList.drop (off + (a.eval y).cells.size)).toArray) (upd φ k (φ k)) c v := fun hcv =>
                    hcv.mono (fun _ h => h) hcell (fun j => by
                      by_cases e : j = k
                      · subst e; rw [upd_same]; exact Loc.le_refl _
                      · rw [upd_other _ e]; exact Loc.le_refl _)
                  apply hmono
                  simp only [List.getElem?_toArray, List.append_assoc] at hv
                  rw [List.getElem?_append, List.length_take, Array.length_toList] at hv
                  have hcl : (opd s y).cells.length = (a.eval y).cells.size := hcs.1.symm
                  split at hc
                  · rename_i hi
                    rw [if_neg (by omega), List.getElem?_append, Array.length_toList] at hv
                    have emin : min off vs.size = off := by omega
                    rw [emin, if_pos (by omega)] at hv
                    exact hcs.2 _ c v hc (by simpa using hv)
                  · rename_i hi
                    have hic := lookupD hc
                    rw [← e3.1] at hic
                    by_cases hlt : i < off
                    · rw [if_pos (by omega), List.getElem?_take, if_pos hlt] at hv
                      exact e3.2 i c v hc (by simpa using hv)
                    · have emin : min off vs.size = off := by omega
                      rw [emin, if_neg hlt, List.getElem?_append, Array.length_toList, if_neg (by omega), List.getElem?_drop] at hv
                      have : off + (a.eval y).cells.size + (i - off - (a.eval y).cells.size) = i := by omega
                      rw [this] at hv
                      exact e3.2 i c v hc (by simpa using hv)
                · simp only [List.mem_append] at hv
                  rcases hv with (hv | hv) | hv
                  · exact e4 v (List.mem_of_mem_take hv)
                  · exact hones v hv
                  · exact e4 v (List.mem_of_mem_drop hv))
              (fun q hq => by
                rw [hb] at hq
                cases hq
                exact .inr howner)
            refine ⟨undef, _, S, _, .inr ⟨?_, rfl⟩, C.undef_, hput.1, hput.2⟩
            simp [execOp, hvx, hrun]
        · trivial
      · trivial
    · trivial

theorem box_sound (hs : CAll S w φ s a.tmps) (hr : R S φ h w) (dst : Option Tmp) (t : TypeId) (x : Operand) (ty : TypeId) (pos : String) (af : Array Edge) (gd : Option (Nat × Bool)) :
    (stepHeap T s h (.box t x)).sound S φ h w ((execOp a.eval ⟨dst, .box t x, ty, pos, af, gd⟩).run P w) := by
  simp only [stepHeap]
  split
  · rename_i g
    have hx := C.opd hs x
    have hcs := hx.cells (noTup g)
    obtain ⟨h1, h2⟩ := push_cells hr hcs (ones hcs g) t w (.inl rfl)
    exact ⟨.pointer (some ⟨w.heap.size, 0, none⟩), _, S, _, .inl (by simp [execOp, Instr.box, newVar, newRow, newObj, Sem.run]), .ptr _ _ _ (upd_same _ _ _), h1, h2⟩
  · trivial

theorem alloc_sound (hT : TabOK P T) (hr : R S φ h w) (dst : Option Tmp) (t : TypeId) (ty : TypeId) (pos : String) (af : Array Edge) (gd : Option (Nat × Bool)) :
    (stepHeap T s h (.alloc t)).sound S φ h w ((execOp a.eval ⟨dst, .alloc t, ty, pos, af, gd⟩).run P w) := by
  simp only [stepHeap]
  split
  · trivial
  · rename_i hk
    obtain ⟨i, z, hi, _, _, hz, hzc, _, _, hz1, _, _⟩ := (hT t).known hk
    have hcs : CAll S w φ ((T t).zero.map .raw) z.cells := by
      have := CAll.map_raw (S := S) (w := w) (φ := φ) (T t).zero
      rw [← hzc] at this ⊢
      simpa using this
    obtain ⟨h1, h2⟩ := push_cells hr hcs (by rw [hzc]; exact hz1) t w (.inl rfl)
    exact ⟨.pointer (some ⟨w.heap.size, 0, none⟩), _, S, _, .inl (by simp [execOp, Instr.alloc, zeroValue, typeInfo, hi, hz, newVar, newRow, newObj, Sem.run]), .ptr _ _ _ (upd_same _ _ _), h1, h2⟩

end
end Go.Abs
