/-
  The abstract layer, part L: make, slices cut to their length; 'stepHeap' whole.
-/
import Derived.Test.YtfjjckaiopbbkaaAbsS
namespace Go.Abs
open Go.RowKit

section
variable {P : Program} {T : TypeId → TI} {S : Addr → Prop} {φ : Nat → Loc} {h : List Blk} {w : World} {s : List AV} {a : Act}

theorem append_sound (hT : TabOK P T) (hs : CAll S w φ s a.tmps) (hr : R S φ h w) (dst : Option Tmp) (args : Array Operand) (argTypes : Array TypeId) (ty : TypeId) (pos : String) (af : Array Edge) (gd : Option (Nat × Bool)) :
    (stepHeap T s h (.call { callee := .builtin .append, args, argTypes })).sound S φ h w ((execOp a.eval ⟨dst, .call { callee := .builtin .append, args, argTypes }, ty, pos, af, gd⟩).run P w) := by
  simp only [stepHeap]
  split
  · rename_i x y t u ha ht
    have ea : args = #[x, y] := by rw [← Array.toList_inj]; exact ha
    have et : argTypes = #[t, u] := by rw [← Array.toList_inj]; exact ht
    subst ea; subst et
    split
    · rename_i e htu hk
      have htu := of_decide_eq_true htu
      subst htu
      obtain ⟨_, _, _, _, _, _, _, _, _, _, _, hK⟩ := (hT t).known (by rw [hk]; simp)
      rw [hk] at hK
      split
      · trivial
      · rename_i hke
        split
        · rename_i g1 g2
          have g2 := of_decide_eq_true g2
          have hx := C.opd hs x
          have hy := C.opd hs y
          have run : ∀ {v : Value} {w' : World}, ((Builtin.append_ #[t, t] ty #[a.eval x, a.eval y]).run P w = .ok v w') → (execOp a.eval ⟨dst, .call { callee := .builtin .append, args := #[x, y], argTypes := #[t, t] }, ty, pos, af, gd⟩).run P w = .ok (.value v) w' := by
            intro v w' hv
            simp [execOp, resolve, invoke, builtin, hv]
          unfold appendAV
          split
          · rename_i sz' xs tok hxe hye
            rw [hxe] at hx; rw [hye] at hy
            split
            · rename_i gs
              have gs := of_decide_eq_true gs
              subst gs
              intro hp
              generalize hvx : a.eval x = vx at hx run
              cases hx
              obtain ⟨v, w', S', φ', h1, h2, h3, h4⟩ := append_nil_sound hT hr hK hke g2 hy hp ty
              exact ⟨v, w', S', φ', .inl (run h1), h2, h3, h4⟩
            · trivial
          · rename_i sz'' k n sz' xs tok hxe hye
            rw [hxe] at hx; rw [hye] at hy
            split
            · rename_i e' sz0 es gs1 gs2 hkb
              have gs1 := of_decide_eq_true gs1
              have gs2 := of_decide_eq_true gs2
              subst gs1; subst gs2
              split
              · rename_i q1 q2
                have q1 := of_decide_eq_true q1
                have q2 := of_decide_eq_true q2
                subst q1; subst q2
                rintro ⟨hn, hle⟩
                subst hn
                obtain ⟨v, w', S', φ', h1, h2, h3, h4⟩ := append_own_sound hT hr hK hke g2 hx hy hkb hle ty
                exact ⟨v, w', S', φ', .inl (run h1), h2, h3, h4⟩
              · trivial
            · trivial
          · rename_i sz'' es k sz' xs tok hxe hye
            rw [hxe] at hx; rw [hye] at hy
            split
            · rename_i e' sz0 n gs1 gs2 hkb
              have gs1 := of_decide_eq_true gs1
              have gs2 := of_decide_eq_true gs2
              subst gs1; subst gs2
              split
              · rename_i q1 q2
                have q1 := of_decide_eq_true q1
                have q2 := of_decide_eq_true q2
                subst q1; subst q2
                rintro ⟨hn, hle⟩
                subst hn
                obtain ⟨v, w', S', φ', h1, h2, h3, h4⟩ := append_tok_sound hT hr hK hke g2 hx hy hkb hle ty
                exact ⟨v, w', S', φ', .inl (run h1), h2, h3, h4⟩
              · trivial
            · trivial
          · trivial
        · trivial
    · trivial
  · trivial

theorem C.cut {sz : Nat} {es : List AV} {tok : Option Nat} {ad : Option Addr} {len cap : Nat} (hc : C S w φ (.lst sz es tok) (.slice ad len cap)) {n : Nat} (hn : n ≤ es.length) (k : Nat) {φ' : Nat → Loc} (hφ : ∀ j, (φ j).le (φ' j))
    (hk : φ' k = .tok n (.slice ad n n)) : C S w φ' (.lst sz (es.take n) (some k)) (.slice ad n n) := by
  cases hc with
  | lstnil _ _ ht =>
    have hn0 : n = 0 := by simpa using hn
    subst hn0
    exact .lstnil _ _ ⟨_, _, hk, Nat.le_refl _, fun _ => rfl⟩
  | lst _ _ _ ad len cap u hlen hcap hmax hsz hm hc h1 ht =>
    have hmono : ∀ {c u}, C S w φ c u → C S w φ' c u := fun hcu => hcu.mono (fun _ h => h) (fun _ _ => rfl) hφ
    exact .lst _ _ _ _ _ _ u (by rw [List.length_take]; omega) (Nat.le_refl _) (by omega) (fun e he => hsz e (List.mem_of_mem_take he)) (fun j c hj => hm j c (flat_take n j c hj)) (fun j c hj => hmono (hc j c (flat_take n j c hj)))
      (fun j c hj => h1 j c (flat_take n j c hj)) ⟨_, _, hk, Nat.le_refl _, fun _ => rfl⟩

theorem slice3_sound (hT : TabOK P T) (hs : CAll S w φ s a.tmps) (hr : R S φ h w) (dst : Option Tmp) (t : TypeId) (x hi mx : Operand) (lo : Option Operand) (ty : TypeId) (pos : String) (af : Array Edge) (gd : Option (Nat × Bool)) :
    (stepHeap T s h (.slice t x lo (some hi) (some mx))).sound S φ h w ((execOp a.eval ⟨dst, .slice t x lo (some hi) (some mx), ty, pos, af, gd⟩).run P w) := by
  simp only [stepHeap]
  split
  · rename_i e hk
    obtain ⟨_, _, _, _, _, _, _, _, _, _, _, hK⟩ := (hT t).known (by rw [hk]; simp)
    rw [hk] at hK
    split
    · trivial
    · rename_i hke
      split
      · rename_i sz es tok k1 n k2 m hxe hle hhe hme
        split
        · rename_i gs
          have gs := of_decide_eq_true gs
          rintro ⟨rfl, h0, hn⟩
          have hx := C.opd hs x
          have hh := C.opd hs hi
          have hm := C.opd hs mx
          rw [hxe] at hx; rw [hhe] at hh; rw [hme] at hm
          have hlo : lo = none := by cases lo <;> simp_all
          subst hlo
          generalize hvh : a.eval hi = vh at hh
          generalize hvm : a.eval mx = vm at hm
          cases hh; cases hm
          have hnn : ((n.toNat : Nat) : Int) = n := Int.toNat_of_nonneg h0
          have hfr : φ h.length = .no := hr.fresh _ (Nat.le_refl _)
          have hlej : ∀ l j, (φ j).le (upd φ h.length l j) := by
            intro l j
            by_cases ej : j = h.length
            · subst ej; rw [hfr]; trivial
            · rw [upd_other _ ej]; exact Loc.le_refl _
          obtain ⟨ad, len, cap, hv, hlen, hcap, hmax, hnil⟩ := hx.slice_form
          rw [hv] at hx
          have hcut := hx.cut (n := n.toNat) (by omega) h.length (φ' := upd φ h.length (.tok n.toNat (.slice ad n.toNat n.toNat))) (hlej _) (upd_same _ _ _)
          have hsl : sliced ad 0 n.toNat n.toNat sz = .slice ad n.toNat n.toNat := by
            unfold sliced
            split
            · simp
            · cases ad <;> simp [Addr.add]
          have hpush := hr.push (l := .tok n.toNat (.slice ad n.toNat n.toNat)) (x := .tok e sz n.toNat) (S' := S) (w' := w) rfl rfl rfl (Nat.le_refl _) (fun _ _ => rfl) (fun _ h => h) (fun _ h => .inl h) hr.bnd
            (by
              refine ⟨_, upd_same _ _ _, ?_⟩
              cases ad with
              | none =>
                have := hnil rfl
                subst this
                have : n.toNat = 0 := by simp at hn; omega
                rw [this]
                exact .inl ⟨rfl, rfl⟩
              | some ad => exact .inr (.inl ⟨_, rfl⟩))
            (fun b hb => by cases ad <;> simp [blockOf] at hb)
          have hK' : P.underlying t = some (.slice (P.elem t)) := by rw [elem_of hK]; exact hK
          refine ⟨_, w, S, _, .inl ?_, hcut, hpush.1, hpush.2⟩
          simp only [execOp, asNext_bind, Option.map_none, Option.map_some, hv, hvh, hvm]
          rw [run_sliceAt_slice _ _ _ _ _ _ hK', run_slice_hm w t ad len cap hK' k1 k2 n n h0 (Int.le_refl _) (by omega), elem_of hK, run_size (hT e) hke, gs]
          simp only [Result.andThen_ok, hsl]
          rfl
        · trivial
      · trivial
  · trivial

theorem makeSlice_sound (hT : TabOK P T) (hs : CAll S w φ s a.tmps) (hr : R S φ h w) (dst : Option Tmp) (t : TypeId) (l c : Operand) (ty : TypeId) (pos : String) (af : Array Edge) (gd : Option (Nat × Bool)) :
    (stepHeap T s h (.makeSlice t l c)).sound S φ h w ((execOp a.eval ⟨dst, .makeSlice t l c, ty, pos, af, gd⟩).run P w) := by
  have hl := C.opd hs l
  have hc := C.opd hs c
  simp only [stepHeap]
  split
  · -- room, and nothing in it
    rename_i hzl'
    obtain ⟨k0, rfl⟩ := isZero_eq hzl'
    split
    · rename_i e k n hk hce
      obtain ⟨_, _, _, _, _, _, _, _, _, _, _, hK⟩ := (hT t).known (by rw [hk]; simp)
      rw [hk] at hK
      split
      · trivial
      · rename_i hke
        obtain ⟨i, z, hi, hsz, hbs, hz, hzc, _, _, _, hzl, _⟩ := (hT e).known hke
        have hzs : z.cells.size = (T e).size := by rw [← Array.length_toList, hzc]; exact hzl
        split
        · rename_i g
          have g := of_decide_eq_true g
          rintro ⟨h0, hn⟩
          rw [hce] at hc
          generalize hvc : a.eval c = vc at hc
          cases hc
          have hrun := run_make w t e i z hK hi hz k0 k 0 n (Int.le_refl _) h0 (by
            rw [hbs]
            have := Nat.mul_le_mul g (show n.toNat ≤ 4294967296 by omega)
            have e1 : ((n.toNat : Nat) : Int) = n := Int.toNat_of_nonneg h0
            rw [← e1]
            have e2 : (((T e).bytes : Nat) : Int) * ((n.toNat : Nat) : Int) = (((T e).bytes * n.toNat : Nat) : Int) := by simp
            rw [e2]
            omega) (by omega)
          obtain ⟨S', k1, k2, k3⟩ := push_tok hr (es := []) (sz := (T e).size) (vs := madeCells z.cells (n.toNat * i.size)) (by simp) n.toNat (Nat.zero_le _) (by simp only [maxLen]; omega) (by simp [madeCells, hsz]) (fun j c hj => by simp [flat] at hj) e w (.inl rfl)
          refine ⟨_, _, S', _, .inl ?_, k1, k2, k3⟩
          have ev : a.eval (.const (.int k0 0)) = .int k0 0 := rfl
          simp only [execOp, asNext_bind, ev, hvc, hrun]
          rfl
        · trivial
    · trivial
  · split
    · rename_i e k n k' m hk hle hce
      obtain ⟨_, _, _, _, _, _, _, _, _, _, _, hK⟩ := (hT t).known (by rw [hk]; simp)
      rw [hk] at hK
      split
      · trivial
      · rename_i hke
        obtain ⟨i, z, hi, hsz, hbs, hz, hzc, _, _, hz1, hzl, _⟩ := (hT e).known hke
        split
        · rename_i z0 g hz0
          have g := of_decide_eq_true g
          rintro ⟨rfl, h0, hn⟩
          rw [hle] at hl; rw [hce] at hc
          generalize hvl : a.eval l = vl at hl
          generalize hvc : a.eval c = vc at hc
          cases hl; cases hc
          have hsize1 : i.size = 1 := by rw [hsz, ← hzl, hz0]; rfl
          have hrun := run_make w t e i z hK hi hz k k' n n h0 (Int.le_refl _) (by
            rw [hbs]
            have := Nat.mul_le_mul g (show n.toNat ≤ 4294967296 by omega)
            have e1 : ((n.toNat : Nat) : Int) = n := Int.toNat_of_nonneg h0
            rw [← e1]
            have e2 : (((T e).bytes : Nat) : Int) * ((n.toNat : Nat) : Int) = (((T e).bytes * n.toNat : Nat) : Int) := by simp
            rw [e2]
            omega) (by omega)
          have hcells : madeCells z.cells (n.toNat * i.size) = (List.replicate n.toNat z0).toArray := by
            rw [hsize1, Nat.mul_one]
            have hzz : z.cells = #[z0] := by rw [← Array.toList_inj, hzc, hz0]
            rw [hzz]
            apply Array.ext
            · simp [madeCells]
            · intro j h1 h2
              simp [madeCells, Nat.mod_one]
          have hz01 : z0.oneCell' = true := hz1 z0 (by rw [hz0]; simp)
          have hall : CAll S w φ (List.replicate n.toNat (.raw z0)) (List.replicate n.toNat z0).toArray := by
            have := CAll.map_raw (S := S) (w := w) (φ := φ) (List.replicate n.toNat z0)
            simpa using this
          obtain ⟨k1, k2⟩ := push_cells hr hall (fun v hv => by rw [List.eq_of_mem_replicate hv]; exact hz01) e w (.inl rfl)
          refine ⟨.slice (some ⟨w.heap.size, 0, none⟩) n.toNat n.toNat, _, S, _, .inl ?_, .sl _ _ _ _ _ _ (upd_same _ _ _) (Nat.le_refl _) (by simp only [maxLen]; omega), k1, k2⟩
          simp only [execOp, asNext_bind, hvl, hvc, hrun, hcells]
          rfl
        · trivial
    · trivial

/-- **An operation that makes memory, or writes it, comes to what 'stepHeap' says.** -/
theorem stepHeap_sound (hT : TabOK P T) (hs : CAll S w φ s a.tmps) (hr : R S φ h w) (dst : Option Tmp) (op : Op) (ty : TypeId) (pos : String) (af : Array Edge) (gd : Option (Nat × Bool)) :
    (stepHeap T s h op).sound S φ h w ((execOp a.eval ⟨dst, op, ty, pos, af, gd⟩).run P w) := by
  cases op with
  | box t x => exact box_sound hs hr dst t x ty pos af gd
  | alloc t => exact alloc_sound hT hr dst t ty pos af gd
  | store t x y => exact store_sound hT hs hr dst t x y ty pos af gd
  | buildSlice t len parts => exact buildSlice_sound hT hs hr dst t len parts ty pos af gd
  | makeSlice t l c => exact makeSlice_sound hT hs hr dst t l c ty pos af gd
  | slice t x lo hi mx =>
    cases hi with
    | none => trivial
    | some hi =>
      cases mx with
      | none => trivial
      | some mx => exact slice3_sound hT hs hr dst t x hi mx lo ty pos af gd
  | makeMap t r =>
    cases r with
    | some x => trivial
    | none =>
      simp only [stepHeap]
      split
      · rename_i kt vt hk
        split
        · rename_i kk hkk
          exact makeMap_sound (P := P) hr kk (t := t) fun z w' hz => by simp only [execOp, Option.map_none, asNext_bind, hz]; rfl
        · trivial
      · trivial
  | lookup t x i ok =>
    simp only [stepHeap]
    split
    · rename_i kt vt hk
      obtain ⟨_, _, _, _, _, _, _, _, _, _, _, hK⟩ := (hT t).known (by rw [hk]; simp)
      rw [hk] at hK
      exact lookupAV_sound hT hr hK (C.opd hs x) (C.opd hs i) fun z w' hz => by simp only [execOp, asNext_bind, hz]; rfl
    · trivial
  | mapUpdate t m k v =>
    simp only [stepHeap]
    split
    · rename_i kt vt hk
      obtain ⟨_, _, _, _, _, _, _, _, _, _, _, hK⟩ := (hT t).known (by rw [hk]; simp)
      rw [hk] at hK
      exact storeAV_sound hT hr hK (C.opd hs m) (C.opd hs k) (C.opd hs v) fun w' hz => by simp only [execOp, Sem.run_bind, hz, Result.andThen_ok, Sem.run_pure]
    · trivial
  | call c =>
    obtain ⟨callee, args, argTypes⟩ := c
    cases callee with
    | builtin b =>
      cases b <;> first | exact append_sound hT hs hr dst args argTypes ty pos af gd | trivial | skip
      · simp only [stepHeap]
        split
        · rename_i x y t u ha ht
          have ea : args = #[x, y] := by rw [← Array.toList_inj]; exact ha
          have et : argTypes = #[t, u] := by rw [← Array.toList_inj]; exact ht
          subst ea; subst et
          split
          · rename_i kt vt hk
            obtain ⟨_, _, _, _, _, _, _, _, _, _, _, hK⟩ := (hT t).known (by rw [hk]; simp)
            rw [hk] at hK
            exact deleteAV_sound (ty := ty) (u' := u) hT hr hK (C.opd hs x) (C.opd hs y) fun z w' hz => by simp [execOp, resolve, invoke, builtin, hz]
          · trivial
        · trivial
      · simp only [stepHeap]
        split
        · rename_i x t ha ht
          have ea : args = #[x] := by rw [← Array.toList_inj]; exact ha
          have et : argTypes = #[t] := by rw [← Array.toList_inj]; exact ht
          subst ea; subst et
          split
          · rename_i kt vt hk
            obtain ⟨_, _, _, _, _, _, _, _, _, _, _, hK⟩ := (hT t).known (by rw [hk]; simp)
            rw [hk] at hK
            exact lenMapAV_sound (ty := ty) hr hK (C.opd hs x) fun z w' hz => by simp [execOp, resolve, invoke, builtin, hz]
          · trivial
        · trivial
    | _ => trivial
  | _ => trivial

end
end Go.Abs
