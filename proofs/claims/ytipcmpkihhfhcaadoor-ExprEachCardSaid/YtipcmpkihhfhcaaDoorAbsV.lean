/-
  The abstract layer, part V: a slice of the call's own, turned round in place by the library.
-/
import Derived.Test.YtipcmpkihhfhcaaDoorAbsR
import Derived.Shelf.SlicesQ.Reverse
namespace Go.Abs
open Go.RowKit Go.Proofs Go.Sort

/-- An element as k cells. -/
def Cells (k : Nat) : Type := { l : List Value // l.length = k ∧ ∀ v ∈ l, v.oneCell' = true }
instance (k : Nat) : Inhabited (Cells k) := ⟨⟨List.replicate k (.bool false), by simp, fun v hv => by rw [List.eq_of_mem_replicate hv]; rfl⟩⟩

theorem own_reverse {P : Program} {f : FuncId} {e : TypeId} {k : Nat} (hk0 : 0 < k) (hent : ∀ vs w, (callFunc f vs).run P w = .ok (.enter f vs) w)
    (hcon : ∀ (blk cap : Nat) (d : Array (Cells k)) (w : World), HoldsK (fun x : Cells k => x.1) k w blk 0 d → d.size ≤ 9223372036854775807 →
      Calls P f #[.slice (some ⟨blk, 0, none⟩) d.size cap] w fun e w' => e = .returned (.tuple #[]) ∧ ∃ n, w' = putRowK (fun x : Cells k => x.1) k (Sort.ahead w n) blk 0 d.reverse)
    (hemp : ∀ (a : Option Addr) (cap : Nat) (w : World), Calls P f #[.slice a 0 cap] w fun e w' => e = .returned (.tuple #[]) ∧ w' = w)
    {es : List AV} {kk : Nat} {h : List Blk} {K : AV → List Blk → Prop} (hk : h[kk]? = some (.own e k es)) (hK : K (.tup []) (h.set kk (.own e k es.reverse))) : ACall P f [.own k kk es.length] h K := by
  intro S φ w vs0 hr hargs
  refine ⟨hent _ _, ?_⟩
  obtain ⟨v0, hv0, c0⟩ := hargs.at (i := 0) rfl
  have hvs0 : vs0 = #[v0] := by
    have hl := hargs.1
    apply Array.ext_getElem?
    intro i
    match i with
    | 0 => exact hv0
    | i + 1 => simp at hl ⊢; omega
  subst hvs0
  obtain ⟨u, g1, g2, g3⟩ := hr.blk kk _ hk
  have hsame : es.length = 0 → h.set kk (.own e k es.reverse) = h := by
    intro h0
    have : es = [] := List.eq_nil_of_length_eq_zero h0
    subst this
    apply List.ext_getElem?
    intro j
    rw [List.getElem?_set]
    by_cases ej : kk = j
    · subst ej; rw [if_pos rfl, if_pos (lookupD hk)]; exact hk.symm
    · rw [if_neg ej]
  have ret : C S w φ (.tup []) (.tuple #[]) := .tup [] #[] rfl (fun i a v h => by simp at h)
  rcases Nat.eq_zero_or_pos es.length with h0 | hpos
  · rw [h0] at c0
    cases c0 with
    | own _ _ _ a cap hcap hmax ht =>
      refine Calls.mono (hemp a cap w) ?_
      rintro e w' ⟨rfl, rfl⟩
      rw [hsame h0] at hK
      exact ⟨_, _, _, S, φ, rfl, hK, ret, hr, Ext.refl _ _ _ _⟩
  · rcases g3 with ⟨_, rfl⟩ | ⟨b, cap, vs, q1, q2, rfl, q4, q5, q6, q7⟩
    · simp at hpos
    · have hv : v0 = .slice (some ⟨b, 0, none⟩) es.length cap := by
        cases c0 with
        | own _ _ _ a cap' _ _ ht =>
          obtain ⟨n', u', e1, _, e3⟩ := ht
          rw [g1] at e1
          cases e1
          exact e3 rfl
      subst hv
      have hfl := flat_length g2
      have hcell : ∀ j, j < es.length * k → ∃ x, vs[j]? = some x ∧ x.oneCell' = true := by
        intro j hj
        have : ∃ c, (flat es)[j]? = some c := ⟨_, List.getElem?_eq_getElem (by rw [hfl]; exact hj)⟩
        obtain ⟨c, hc⟩ := this
        obtain ⟨x, x1, _, x3⟩ := q6 j c hc
        exact ⟨x, x1, x3⟩
      have hsz : es.length * k ≤ vs.size := by rw [q5]; exact Nat.mul_le_mul_right _ q1
      have hrow : ∀ i, i < es.length → i * k + k ≤ es.length * k := fun i hi => by
        have := Nat.mul_le_mul_right k (show i + 1 ≤ es.length from hi); rwa [Nat.add_mul, Nat.one_mul] at this
      let el (i : Nat) (hi : i < es.length) : Cells k := ⟨(vs.toList.drop (i * k)).take k, by
        have := hrow i hi
        refine ⟨by rw [List.length_take, List.length_drop, Array.length_toList]; omega, fun v hv => ?_⟩
        obtain ⟨c, hc, rfl⟩ := List.getElem_of_mem hv
        rw [List.length_take] at hc
        obtain ⟨x, x1, x3⟩ := hcell (i * k + c) (by omega)
        have : x = ((vs.toList.drop (i * k)).take k)[c]'(by rw [List.length_take]; exact hc) := by
          have e1 : ((vs.toList.drop (i * k)).take k)[c]? = some x := by
            rw [List.getElem?_take, if_pos (by omega), List.getElem?_drop]
            simpa using x1
          rw [List.getElem?_eq_getElem (by rw [List.length_take]; exact hc)] at e1
          exact (Option.some.inj e1).symm
        rw [← this]
        exact x3⟩
      let d : Array (Cells k) := Array.ofFn (n := es.length) fun i => el i.1 i.2
      have hd : d.size = es.length := by simp [d]
      have hdi : ∀ i (hi : i < es.length), d[i]! = el i hi := fun i hi => by
        rw [getElem!_pos d i (by rw [hd]; exact hi)]
        simp [d]
      have hdc : ∀ i c, i < es.length → c < k → (d[i]!.1)[c]! = vs[i * k + c]! := fun i c hi hc => by
        rw [hdi i hi]
        have hlt : i * k + c < vs.size := by have := hrow i hi; omega
        have h2 : ((vs.toList.drop (i * k)).take k)[c]? = some vs[i * k + c] := by
          rw [List.getElem?_take, if_pos hc, List.getElem?_drop]
          simp [hlt]
        rw [getElem!_pos vs _ hlt]
        have hl := (el i hi).2.1
        rw [getElem!_pos (el i hi).1 c (by rw [hl]; exact hc)]
        have h3 : (el i hi).1[c]? = some vs[i * k + c] := h2
        rw [List.getElem?_eq_getElem (by rw [hl]; exact hc)] at h3
        exact Option.some.inj h3
      have hH : HoldsK (fun x : Cells k => x.1) k w b 0 d := by
        intro j hj
        rw [size_flatK, hd] at hj
        have hlt : j < vs.size := by omega
        refine ⟨?_, by simp [World.frozen?, q4]⟩
        rw [get_flatK _ _ _ _ (by rw [hd]; exact hj), hdc _ _ (by rw [Nat.div_lt_iff_lt_mul hk0]; exact hj) (Nat.mod_lt _ hk0)]
        have e1 : j / k * k + j % k = j := by rw [Nat.mul_comm]; exact Nat.div_add_mod _ _
        rw [e1, Nat.zero_add, getElem!_pos vs j hlt]
        simp [World.cell?, q4, hlt]
      have hmx : es.length ≤ 9223372036854775807 := by have : maxLen = 9223372036854775807 := by decide
                                                       omega
      have hcl := hcon b cap d w hH (by rw [hd]; exact hmx)
      rw [hd] at hcl
      refine Calls.mono hcl ?_
      rintro ee w' ⟨rfl, n, rfl⟩
      let F := flatK (fun x : Cells k => x.1) k d.reverse
      have hFs : F.size = es.length * k := by simp [F, hd]
      let vs' := putCells id 0 F vs
      have hvs' : vs'.size = vs.size := by simp [vs', putCells]
      have hheap : (putRowK (fun x : Cells k => x.1) k (Sort.ahead w n) b 0 d.reverse).heap[b]? = some (.cells vs' e (0, 0)) := by
        show ((w.heap.modify b _)[b]?) = _
        rw [Array.getElem?_modify]
        simp only [if_true, q4]
        rfl
      have hoth : ∀ b', b' ≠ b → (putRowK (fun x : Cells k => x.1) k (Sort.ahead w n) b 0 d.reverse).heap[b']? = w.heap[b']? := by
        intro b' hb'
        show ((w.heap.modify b _)[b']?) = _
        rw [Array.getElem?_modify, if_neg (fun e => hb' e.symm)]
      have hown : blockOf (φ kk) (.own e k es) = some b := by rw [g1]; rfl
      have hc : ∀ a, S a → (putRowK (fun x : Cells k => x.1) k (Sort.ahead w n) b 0 d.reverse).cell? a = w.cell? a := fun a ha => cell_of_heap (hoth _ (q7 a ha))
      have hupd : upd φ kk (φ kk) = φ := by
        funext j
        by_cases ej : j = kk
        · subst ej; rw [upd_same]
        · rw [upd_other _ ej]
      have hput := hr.put (S' := S) (w' := putRowK (fun x : Cells k => x.1) k (Sort.ahead w n) b 0 d.reverse) (l := φ kk) (x := .own e k es.reverse) hk rfl rfl rfl (by show w.heap.size ≤ (w.heap.modify b _).size; simp) (fun b' _ hne => hoth b' (fun e0 => hne (by rw [e0]; exact hown)))
        (fun _ h => h) hc (fun _ h => .inl h) (fun a ha => by have := hr.bnd a ha; show _ < (w.heap.modify b _).size; simpa using this) (Loc.le_refl _)
        (by
          rw [hupd]
          refine ⟨_, by rw [List.length_reverse]; exact g1, fun x hx => g2 x (by simpa using hx), .inr ⟨b, cap, vs', by simpa using q1, q2, by rw [List.length_reverse], hheap, by rw [hvs', q5], fun j c hj => ?_, q7⟩⟩
          have hrev : ∀ x ∈ es.reverse, x.cells.length = k := fun x hx => g2 x (by simpa using hx)
          have hjl := lookupD hj
          rw [flat_length hrev, List.length_reverse] at hjl
          have hi : j / k < es.length := by rw [Nat.div_lt_iff_lt_mul hk0]; exact hjl
          have hm : j % k < k := Nat.mod_lt _ hk0
          have e1 : j / k * k + j % k = j := by rw [Nat.mul_comm]; exact Nat.div_add_mod _ _
          have hF : F[j]! = (d.reverse[j / k]!.1)[j % k]! := get_flatK _ _ _ _ (by simp [hd]; exact hjl)
          have hlt : j < vs.size := by omega
          have hv1 : vs'[j]? = some (F[j]!) := by
            simp only [vs', putCells, Array.getElem?_mapIdx, Array.getElem?_eq_getElem hlt, Option.map_some]
            rw [if_pos (by rw [hFs]; exact ⟨Nat.zero_le _, by omega⟩), Nat.sub_zero]
            rfl
          generalize j / k = q at hi e1 hF
          generalize j % k = r at hm e1 hF
          have hx : es.reverse[q]? = some es[es.length - 1 - q] := by
            rw [List.getElem?_reverse hi, List.getElem?_eq_getElem (by omega)]
          have hcl : r < es[es.length - 1 - q].cells.length := by rw [g2 _ (List.getElem_mem _)]; exact hm
          have h1 := flat_at hrev hx (j := r) (List.getElem?_eq_getElem hcl)
          rw [e1, hj] at h1
          have h2 := flat_at g2 (List.getElem?_eq_getElem (l := es) (i := es.length - 1 - q) (by omega)) (j := r) (List.getElem?_eq_getElem hcl)
          obtain ⟨x, x1, x2, x3⟩ := q6 _ _ h2
          refine ⟨x, ?_, by cases h1; exact x2.mono (fun _ h => h) hc (fun _ => Loc.le_refl _), x3⟩
          rw [hv1, hF]
          have hdr : d.reverse[q]! = d[es.length - 1 - q]! := by
            rw [getElem!_pos d.reverse _ (by simp [hd]; exact hi), getElem!_pos d _ (by rw [hd]; omega), Array.getElem_reverse]
            simp only [hd]
          rw [hdr, hdc _ _ (by omega) hm]
          have hlt2 : (es.length - 1 - q) * k + r < vs.size := (Array.getElem?_eq_some_iff.1 x1).1
          rw [getElem!_pos vs _ hlt2, ← x1, Array.getElem?_eq_getElem hlt2])
        (fun b' hb' => by rw [g1] at hb'; simp only [blockOf] at hb'; cases hb'; exact .inr hown)
      rw [hupd] at hput
      exact ⟨_, _, _, S, φ, rfl, hK, ret.mono (fun _ h => h) hc (fun _ => Loc.le_refl _), hput.1, hput.2⟩
end Go.Abs
