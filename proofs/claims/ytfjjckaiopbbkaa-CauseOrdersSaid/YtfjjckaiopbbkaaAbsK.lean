/-
  The abstract layer, part K: append, make, and slices cut to their length; 'stepHeap' whole.
-/
import Derived.Test.YtfjjckaiopbbkaaAbsJ
namespace Go.Abs
open Go.RowKit

section
variable {P : Program} {T : TypeId → TI} {S : Addr → Prop} {φ : Nat → Loc} {h : List Blk} {w : World} {s : List AV} {a : Act}

/-- The cells of a list, as concrete values. -/
theorem C.vals {sz : Nat} {es : List AV} {tok : Option Nat} {ad : Addr} {len cap : Nat} (hc : C S w φ (.lst sz es tok) (.slice (some ad) len cap)) :
    ∃ us : List Value, us.length = len * sz ∧ (∀ (j : Nat) u, us[j]? = some u → w.cell? (ad.add j) = some u) ∧ (∀ u ∈ us, u.oneCell' = true) ∧ (∀ (j : Nat) c, (flat es)[j]? = some c → ∃ u, us[j]? = some u ∧ C S w φ c u ∧ u.oneCell' = true) ∧
      (∀ e ∈ es, e.cells.length = sz) ∧ es.length = len ∧ (∀ j, j < len * sz → S (ad.add j)) := by
  cases hc with
  | lst _ _ _ _ _ _ u hlen hcap hmax hsz hm hc h1 ht =>
    have hfl := flat_length hsz
    have hat : ∀ j, j < len * sz → ∃ c, (flat es)[j]? = some c := fun j hj => ⟨_, List.getElem?_eq_getElem (by rw [hfl, hlen]; exact hj)⟩
    refine ⟨(List.range (len * sz)).map u, by simp, fun j x hx => ?_, fun x hx => ?_, fun j c hj => ?_, hsz, hlen, fun j hj => ?_⟩
    · rw [List.getElem?_map, Option.map_eq_some_iff] at hx
      obtain ⟨k, hk, rfl⟩ := hx
      have hlt := lookupD hk
      rw [List.getElem?_eq_getElem hlt] at hk
      simp at hk hlt
      subst hk
      obtain ⟨c, hcj⟩ := hat _ hlt
      exact (hm _ c hcj).1
    · obtain ⟨k, hk, rfl⟩ := List.mem_map.1 hx
      obtain ⟨c, hcj⟩ := hat k (by simpa using hk)
      exact h1 k c hcj
    · have hlt := lookupD hj
      rw [hfl, hlen] at hlt
      exact ⟨u j, by simp [hlt], hc j c hj, h1 j c hj⟩
    · obtain ⟨c, hcj⟩ := hat j hj
      exact (hm j c hcj).2

theorem add_lit (b j : Nat) : (⟨b, 0, none⟩ : Addr).add j = ⟨b, j, none⟩ := by unfold Addr.add; split <;> simp_all

theorem flat_append (xs ys : List AV) : flat (xs ++ ys) = flat xs ++ flat ys := by simp [flat]

/-- Behind an append the appended slice lies in a new block. -/
theorem grow_new {es xs : List AV} {sz : Nat} (hsz : ∀ e ∈ es ++ xs, e.cells.length = sz) {olds news : List Value} (ho : olds.length = es.length * sz)
    (hoc : ∀ (j : Nat) c, (flat es)[j]? = some c → ∃ u, olds[j]? = some u ∧ C S w φ c u ∧ u.oneCell' = true) (hnc : ∀ (j : Nat) c, (flat xs)[j]? = some c → ∃ u, news[j]? = some u ∧ C S w φ c u ∧ u.oneCell' = true) :
    ∀ (j : Nat) c, (flat (es ++ xs))[j]? = some c → ∃ u, (olds ++ news)[j]? = some u ∧ C S w φ c u ∧ u.oneCell' = true := by
  intro j c hj
  rw [flat_append] at hj
  have hfe := flat_length (es := es) (sz := sz) (fun e he => hsz e (by simp [he]))
  by_cases hlt : j < es.length * sz
  · rw [List.getElem?_append_left (by omega)] at hj
    obtain ⟨u, hu, hcu⟩ := hoc j c hj
    exact ⟨u, by rw [List.getElem?_append_left (by omega)]; exact hu, hcu⟩
  · rw [List.getElem?_append_right (by omega), hfe] at hj
    obtain ⟨u, hu, hcu⟩ := hnc _ c hj
    exact ⟨u, by rw [List.getElem?_append_right (by omega), ho]; exact hu, hcu⟩

theorem zeroCells_size (z : Array Value) (n : Nat) : (Builtin.zeroCells z n).size = n * z.size := by simp [Builtin.zeroCells]

theorem append_nil_sound (hT : TabOK P T) (hr : R S φ h w) {t e : TypeId} (hK : P.underlying t = some (.slice e)) (hke : (T e).kind ≠ .other) (hby : (T e).bytes ≤ 32768) {xs : List AV} {tok : Option Nat} {v : Value} (hx : C S w φ (.lst (T e).size xs tok) v)
    (hle : xs.length ≤ 4294967296) (ty : TypeId) :
    ∃ u w' S' φ', (Builtin.append_ #[t, t] ty #[.slice none 0 0, v]).run P w = .ok u w' ∧ C S' w' φ' (.lst (T e).size xs (some h.length)) u ∧ R S' φ' (h ++ [.tok e (T e).size xs.length]) w' ∧ Ext S φ h w S' φ' (h ++ [.tok e (T e).size xs.length]) w' := by
  obtain ⟨i, z, hi, hsz, hbs, hz, hzc, _, _, _, hzl, _⟩ := (hT e).known hke
  have hzs : z.cells.size = (T e).size := by rw [← Array.length_toList, hzc]; exact hzl
  have hempty : xs = [] → ∀ v', v' = .slice none 0 0 → ∃ w' S' φ', w' = w ∧ C S' w' φ' (.lst (T e).size xs (some h.length)) v' ∧ R S' φ' (h ++ [.tok e (T e).size xs.length]) w' ∧ Ext S φ h w S' φ' (h ++ [.tok e (T e).size xs.length]) w' := by
    intro hx0 v' hv'
    subst hx0; subst hv'
    obtain ⟨k1, k2⟩ := hr.push (l := .tok 0 (.slice none 0 0)) (x := .tok e (T e).size 0) (S' := S) (w' := w) rfl rfl rfl (Nat.le_refl _) (fun _ _ => rfl) (fun _ h => h) (fun _ h => .inl h) hr.bnd
      ⟨_, upd_same _ _ _, .inl ⟨rfl, rfl⟩⟩ (fun b hb => by simp [blockOf] at hb)
    exact ⟨w, S, _, rfl, .lstnil _ _ ⟨_, _, upd_same _ _ _, Nat.le_refl _, fun _ => rfl⟩, k1, k2⟩
  cases hx with
  | lstnil _ _ ht =>
    obtain ⟨w', S', φ', rfl, k1, k2, k3⟩ := hempty rfl _ rfl
    exact ⟨.slice none 0 0, _, S', φ', by simp [Builtin.append_, run_underlying hK, sizeOf, typeInfo, hi, Builtin.lenOf, Builtin.firstCells], k1, k2, k3⟩
  | lst _ _ _ ad len cap u hlen hcap hmax hszs hm hc h1 ht =>
    obtain ⟨us, g1, g2, g3, g4, g5, g6, _⟩ := C.vals (C.lst _ _ _ ad len cap u hlen hcap hmax hszs hm hc h1 ht)
    by_cases h0 : len = 0
    · have hx0 : xs = [] := List.eq_nil_of_length_eq_zero (by omega)
      obtain ⟨w', S', φ', rfl, k1, k2, k3⟩ := hempty hx0 _ rfl
      refine ⟨.slice none 0 0, _, S', φ', ?_, k1, k2, k3⟩
      subst h0
      simp [Builtin.append_, run_underlying hK, sizeOf, typeInfo, hi, Builtin.lenOf, Builtin.firstCells, loadCells, loadCellsFrom]
    · have hfit : len * i.bytes ≤ 281474976710656 := by
        rw [hbs]
        have := Nat.mul_le_mul (show len ≤ 4294967296 by omega) hby
        omega
      have hrun := run_append_nil (P := P) w t ty e i z hK hi hz ad len cap us (by rw [hsz]; exact g1) g2 (by omega) (by omega) hfit
      have hge := grownCap_ge w len 0 e
      have hcm := grownCap_le_maxLen w len 0 e (by simp only [maxLen]; omega)
      obtain ⟨S', k1, k2, k3⟩ := push_tok hr (es := xs) (sz := (T e).size) (vs := us.toArray ++ Builtin.zeroCells z.cells (grownCap w len 0 e - len)) hszs (grownCap w len 0 e) (by omega) hcm (by
        rw [Array.size_append, zeroCells_size, hzs, List.size_toArray, g1, ← Nat.add_mul]; congr 1; omega) (fun j c hj => by
          obtain ⟨u', hu', hcu'⟩ := g4 j c hj
          exact ⟨u', by rw [Array.getElem?_append_left (by simpa using lookupD hu')]; simpa using hu', hcu'⟩) e w.drew (.inr rfl)
      rw [hlen] at k1 k2 k3 ⊢
      exact ⟨_, _, S', _, hrun, k1, k2, k3⟩

theorem append_tok_sound (hT : TabOK P T) (hr : R S φ h w) {t e : TypeId} (hK : P.underlying t = some (.slice e)) (hke : (T e).kind ≠ .other) (hby : (T e).bytes ≤ 32768) {es xs : List AV} {k : Nat} {tok : Option Nat} {v0 v : Value}
    (h0 : C S w φ (.lst (T e).size es (some k)) v0) (hx : C S w φ (.lst (T e).size xs tok) v) (hk : h[k]? = some (.tok e (T e).size es.length)) (hle : es.length + xs.length ≤ 4294967296) (ty : TypeId) :
    ∃ u w' S' φ', (Builtin.append_ #[t, t] ty #[v0, v]).run P w = .ok u w' ∧ C S' w' φ' (.lst (T e).size (es ++ xs) (some k)) u ∧ R S' φ' (h.set k (.tok e (T e).size (es ++ xs).length)) w' ∧ Ext S φ h w S' φ' (h.set k (.tok e (T e).size (es ++ xs).length)) w' := by
  obtain ⟨i, z, hi, hsz, hbs, hz, hzc, _, _, _, hzl, _⟩ := (hT e).known hke
  have hzs : z.cells.size = (T e).size := by rw [← Array.length_toList, hzc]; exact hzl
  have hfitb : ∀ n, n ≤ 4294967296 → n * i.bytes ≤ 140737488355328 := by
    intro n hn
    rw [hbs]
    have := Nat.mul_le_mul hn hby
    omega
  -- what is known of the token
  obtain ⟨u0, hφk, hroom⟩ := hr.blk k _ hk
  have htok : TokOK φ (some k) es.length v0 := by
    cases h0 with
    | lst _ _ _ _ _ _ _ hlen _ _ _ _ _ _ ht => rw [hlen]; exact ht
    | lstnil _ _ ht => exact ht
  have hv0 : v0 = u0 := by
    obtain ⟨n', u', e1, _, e3⟩ := htok
    rw [hφk] at e1
    cases e1
    exact e3 rfl
  subst hv0
  obtain ⟨ad0, n0, cap0, rfl, hn0, hcap0, hmax0, hnil0⟩ := h0.slice_form
  obtain ⟨ad, m, cap, rfl, hm, hcapm, hmaxm, hnil⟩ := hx.slice_form
  by_cases hm0 : m = 0
  · -- nothing is appended
    subst hm0
    have hx0 : xs = [] := List.eq_nil_of_length_eq_zero hm
    subst hx0
    refine ⟨_, w, S, φ, ?_, by rw [List.append_nil]; exact h0, ?_, ?_⟩
    · have hnone : ∀ b : Option Addr, (Builtin.firstCells (T e).size 0 (.slice b 0 cap)).run P w = .ok #[] w := by
        intro b
        cases b <;> simp [Builtin.firstCells, loadCells, loadCellsFrom]
      have h1 : n0 + 0 ≤ cap0 := by omega
      cases ad0 with
      | none => simp [Builtin.append_, run_underlying hK, sizeOf, typeInfo, hi, Builtin.lenOf, hcap0, hsz, hnone]
      | some b => simp [Builtin.append_, run_underlying hK, sizeOf, typeInfo, hi, Builtin.lenOf, hcap0, hsz, hnone, storeCells]
    · rw [List.append_nil]
      have : h.set k (.tok e (T e).size es.length) = h := by
        apply List.ext_getElem?
        intro j
        rw [List.getElem?_set]
        by_cases ej : k = j
        · subst ej; rw [if_pos rfl, if_pos (lookupD hk)]; exact hk.symm
        · rw [if_neg ej]
      rw [this]; exact hr
    · rw [List.append_nil]
      have : h.set k (.tok e (T e).size es.length) = h := by
        apply List.ext_getElem?
        intro j
        rw [List.getElem?_set]
        by_cases ej : k = j
        · subst ej; rw [if_pos rfl, if_pos (lookupD hk)]; exact hk.symm
        · rw [if_neg ej]
      rw [this]; exact Ext.refl _ _ _ _
  · have hxs : xs ≠ [] := fun e0 => hm0 (by rw [← hm, e0]; rfl)
    cases ad with
    | none => exact absurd (hnil rfl) hxs
    | some ad =>
      obtain ⟨news, q1, q2, q3, q4, q5, q6, _⟩ := C.vals hx
      have hlen : (es ++ xs).length = n0 + m := by rw [List.length_append, hn0, hm]
      -- a move to a new block
      have moved : ∀ (olds : List Value), olds.length = n0 * (T e).size → (∀ (j : Nat) c, (flat es)[j]? = some c → ∃ u, olds[j]? = some u ∧ C S w φ c u ∧ u.oneCell' = true) → (∀ e' ∈ es, e'.cells.length = (T e).size) →
          ∃ S' φ', C S' (w.drew.alloc (.cells (olds.toArray ++ news.toArray ++ Builtin.zeroCells z.cells (grownCap w (n0 + m) cap0 e - (n0 + m))) e)) φ' (.lst (T e).size (es ++ xs) (some k)) (.slice (some ⟨w.heap.size, 0, none⟩) (n0 + m) (grownCap w (n0 + m) cap0 e)) ∧
            R S' φ' (h.set k (.tok e (T e).size (es ++ xs).length)) (w.drew.alloc (.cells (olds.toArray ++ news.toArray ++ Builtin.zeroCells z.cells (grownCap w (n0 + m) cap0 e - (n0 + m))) e)) ∧
            Ext S φ h w S' φ' (h.set k (.tok e (T e).size (es ++ xs).length)) (w.drew.alloc (.cells (olds.toArray ++ news.toArray ++ Builtin.zeroCells z.cells (grownCap w (n0 + m) cap0 e - (n0 + m))) e)) := by
        intro olds ho1 ho2 hes
        have hge := grownCap_ge w (n0 + m) cap0 e
        have hcm := grownCap_le_maxLen w (n0 + m) cap0 e (by simp only [maxLen]; omega)
        generalize hcap' : grownCap w (n0 + m) cap0 e = cap' at hge hcm
        have hall : ∀ e' ∈ es ++ xs, e'.cells.length = (T e).size := fun e' he' => by
          rcases List.mem_append.1 he' with g | g
          · exact hes e' g
          · exact q5 e' g
        have hfl := flat_length hall
        rw [hlen] at hfl
        have hcells := grow_new (S := S) (w := w) (φ := φ) hall (olds := olds) (news := news) (by rw [ho1, hn0]) ho2 q4
        let vs : Array Value := olds.toArray ++ news.toArray ++ Builtin.zeroCells z.cells (cap' - (n0 + m))
        have hvs : vs.size = cap' * (T e).size := by
          simp only [vs, Array.size_append, zeroCells_size, hzs, List.size_toArray, ho1, q1, ← Nat.add_mul]; congr 1; omega
        have hvat : ∀ (j : Nat) c, (flat (es ++ xs))[j]? = some c → ∃ u, vs[j]? = some u ∧ C S w φ c u ∧ u.oneCell' = true := fun j c hj => by
          obtain ⟨u, hu, hcu⟩ := hcells j c hj
          refine ⟨u, ?_, hcu⟩
          have hjl := lookupD hu
          simp only [vs]
          rw [Array.getElem?_append_left (by simpa using hjl), List.append_toArray]
          simpa using hu
        show ∃ S' φ', C S' (w.drew.alloc (.cells vs e)) φ' _ _ ∧ R S' φ' _ (w.drew.alloc (.cells vs e)) ∧ Ext S φ h w S' φ' _ (w.drew.alloc (.cells vs e))
        have hkeep : ∀ b, b < w.heap.size → (w.drew.alloc (.cells vs e)).heap[b]? = w.heap[b]? := fun b hb => alloc_heap _ _ _ hb
        have hnew : (w.drew.alloc (.cells vs e)).heap[w.heap.size]? = some (.cells vs e (0, 0)) := heap_alloc_new w.drew _
        let S' : Addr → Prop := fun a => S a ∨ (a.block = w.heap.size ∧ a.off < (n0 + m) * (T e).size ∧ a.spot = none)
        have hadd : ∀ j, (⟨w.heap.size, 0, none⟩ : Addr).add j = ⟨w.heap.size, j, none⟩ := fun j => add_lit _ j
        have hle' : (φ k).le (.tok (n0 + m) (.slice (some ⟨w.heap.size, 0, none⟩) (n0 + m) cap')) := by
          rw [hφk, hn0]
          exact ⟨_, _, rfl, by omega, fun e0 => by omega⟩
        have hlej : ∀ j, (φ j).le (upd φ k (.tok (n0 + m) (.slice (some ⟨w.heap.size, 0, none⟩) (n0 + m) cap')) j) := by
          intro j
          by_cases ej : j = k
          · subst ej; rw [upd_same]; exact hle'
          · rw [upd_other _ ej]; exact Loc.le_refl _
        have hmono : ∀ {c u}, C S w φ c u → C S' (w.drew.alloc (.cells vs e)) (upd φ k (.tok (n0 + m) (.slice (some ⟨w.heap.size, 0, none⟩) (n0 + m) cap'))) c u := fun hcu =>
          hcu.mono (fun _ h => .inl h) (fun a ha => cell_of_heap (hkeep _ (hr.bnd a ha))) hlej
        have hput := hr.put (S' := S') (w' := w.drew.alloc (.cells vs e)) (l := .tok (n0 + m) (.slice (some ⟨w.heap.size, 0, none⟩) (n0 + m) cap')) (x := .tok e (T e).size (n0 + m)) hk rfl rfl rfl (by simp) (fun b hb _ => hkeep b hb) (fun _ h => .inl h)
          (fun a ha => cell_of_heap (hkeep _ (hr.bnd a ha))) (fun a ha => by rcases ha with ha | ha; exact .inl ha; exact .inr (.inl (by omega)))
          (fun a ha => by
            rcases ha with ha | ha
            · have := hr.bnd a ha; simp; omega
            · simp; omega) hle'
          (by
            refine ⟨_, upd_same _ _ _, ?_⟩
            rcases Nat.lt_or_ge (n0 + m) cap' with hlt | hge'
            · refine .inr (.inr ⟨w.heap.size, cap', vs, hlt, hcm, rfl, hnew, hvs, fun a ha hab => ?_⟩)
              rcases ha with ha | ha
              · have := hr.bnd a ha; omega
              · exact ha.2.1
            · have : cap' = n0 + m := by omega
              subst this
              exact .inr (.inl ⟨_, rfl⟩))
          (fun b hb => by
            simp only [blockOf] at hb
            split at hb
            · cases hb
            · cases hb; exact .inl (Nat.le_refl _))
        obtain ⟨us, hul, hu⟩ := exists_vals (flat (es ++ xs)) hvat
        have key : ∀ (j : Nat) c, (flat (es ++ xs))[j]? = some c → vs[j]? = some (us.getD j undef) ∧ C S w φ c (us.getD j undef) ∧ (us.getD j undef).oneCell' = true := by
          intro j c hj
          have hj' : j < us.length := by rw [hul]; exact lookupD hj
          have e0 : us[j]? = some (us.getD j undef) := by rw [List.getD_eq_getElem?_getD, List.getElem?_eq_getElem hj']; rfl
          exact hu j c _ hj e0
        rw [hlen]
        refine ⟨S', _, .lst _ _ _ _ _ _ (fun j => us.getD j undef) hlen hge hcm hall (fun j c hj => ⟨?_, .inr ?_⟩) (fun j c hj => hmono (key j c hj).2.1) (fun j c hj => (key j c hj).2.2) ⟨_, _, upd_same _ _ _, Nat.le_refl _, fun _ => rfl⟩, hput.1, hput.2⟩
        · rw [hadd]
          simp only [World.cell?, hnew]
          simp only [Option.isSome_none, Bool.false_eq_true, if_false]
          exact (key j c hj).1
        · rw [hadd]
          exact ⟨rfl, by have := lookupD hj; rw [hfl] at this; exact this, rfl⟩
      cases ad0 with
      | none =>
        have he0 : es = [] := hnil0 rfl
        have hn00 : n0 = 0 := by rw [← hn0, he0]; rfl
        subst hn00
        have hc0 : cap0 = 0 := by
          cases h0
          rfl
        subst hc0
        have hrun := run_append_nil (P := P) w t ty e i z hK hi hz ad m cap news (by rw [hsz]; exact q1) q2 (by omega) (by omega) (by have := hfitb m (by omega); omega)
        obtain ⟨S', φ', k1, k2, k3⟩ := moved [] (by simp) (fun j c hj => by rw [he0] at hj; simp [flat] at hj) (by rw [he0]; simp)
        simp only [Nat.zero_add, Array.empty_append] at k1 k2 k3 hrun
        exact ⟨_, _, S', φ', hrun, k1, k2, k3⟩
      | some b0 =>
        obtain ⟨olds, p1, p2, p3, p4, p5, p6, _⟩ := C.vals h0
        by_cases hin : n0 + m ≤ cap0
        · -- in place
          rcases hroom with ⟨hr1, _⟩ | ⟨a', hr1⟩ | ⟨b, cap', vs, g1, g2, hr1, g4, g5, g6⟩
          · cases hr1
          · simp only [Value.slice.injEq] at hr1
            omega
          · simp only [Value.slice.injEq, Option.some.injEq] at hr1
            obtain ⟨rfl, _, rfl⟩ := hr1
            have hsum : n0 * (T e).size + m * (T e).size = (n0 + m) * (T e).size := (Nat.add_mul _ _ _).symm
            have hmul : (n0 + m) * (T e).size ≤ cap0 * (T e).size := Nat.mul_le_mul_right _ hin
            have hfit : n0 * i.size + news.length ≤ vs.size := by rw [hsz, q1, g5]; omega
            have hrun := run_append_room (P := P) w t ty e i hK hi b n0 cap0 vs g4 ad m cap news (by rw [hsz]; exact q1) q2 q3 hin hfit
            rw [hsz, q1] at hrun
            generalize hvs' : (vs.toList.take (n0 * (T e).size) ++ news ++ vs.toList.drop (n0 * (T e).size + m * (T e).size)).toArray = vs' at hrun
            have hnew := setRow_heap w b vs vs' e (0, 0) g4
            have hoth := fun b'' (hne : b'' ≠ b) => setRow_other w b b'' vs' hne
            have howner : blockOf (φ k) (.tok e (T e).size es.length) = some b := by rw [hφk]; simp only [blockOf]; rw [if_neg (by omega)]
            have hvsz : vs'.size = vs.size := by
              rw [← hvs']
              simp only [List.size_toArray, List.length_append, List.length_take, List.length_drop, Array.length_toList, q1]
              omega
            have hget : ∀ j, vs'[j]? = if n0 * (T e).size ≤ j ∧ j < (n0 + m) * (T e).size then news[j - n0 * (T e).size]? else vs[j]? := by
              intro j
              rw [← hvs']
              simp only [List.getElem?_toArray, List.append_assoc]
              rw [List.getElem?_append, List.length_take, Array.length_toList]
              have emin : min (n0 * (T e).size) vs.size = n0 * (T e).size := by omega
              rw [emin]
              by_cases c1 : j < n0 * (T e).size
              · rw [if_pos c1, if_neg (by omega), List.getElem?_take, if_pos c1]; simp
              · rw [if_neg c1, List.getElem?_append, q1]
                by_cases c2 : j < (n0 + m) * (T e).size
                · rw [if_pos (by omega), if_pos (by omega)]
                · rw [if_neg (by omega), if_neg (by omega), List.getElem?_drop]
                  have : n0 * (T e).size + m * (T e).size + (j - n0 * (T e).size - m * (T e).size) = j := by omega
                  rw [this]; simp
            have hcell : ∀ q, S q → (w.setRow b vs').cell? q = w.cell? q := by
              intro q hq
              by_cases hqb : q.block = b
              · have hlt := g6 q hq hqb
                rw [hn0] at hlt
                simp only [World.cell?, hqb, hnew, g4]
                split
                · rfl
                · rw [hget, if_neg (fun c => absurd c.1 (Nat.not_le_of_lt hlt))]
              · exact cell_of_heap (hoth _ hqb)
            let S' : Addr → Prop := fun a => S a ∨ (a.block = b ∧ n0 * (T e).size ≤ a.off ∧ a.off < (n0 + m) * (T e).size ∧ a.spot = none)
            have hadd : ∀ j, (⟨b, 0, none⟩ : Addr).add j = ⟨b, j, none⟩ := fun j => add_lit _ j
            have hle' : (φ k).le (.tok (n0 + m) (.slice (some ⟨b, 0, none⟩) (n0 + m) cap0)) := by
              rw [hφk, hn0]
              exact ⟨_, _, rfl, by omega, fun e0 => by omega⟩
            have hlej : ∀ j, (φ j).le (upd φ k (.tok (n0 + m) (.slice (some ⟨b, 0, none⟩) (n0 + m) cap0)) j) := by
              intro j
              by_cases ej : j = k
              · subst ej; rw [upd_same]; exact hle'
              · rw [upd_other _ ej]; exact Loc.le_refl _
            have hmono : ∀ {c u}, C S w φ c u → C S' (w.setRow b vs') (upd φ k (.tok (n0 + m) (.slice (some ⟨b, 0, none⟩) (n0 + m) cap0))) c u := fun hcu => hcu.mono (fun _ h => .inl h) hcell hlej
            have hput := hr.put (S' := S') (w' := w.setRow b vs') (l := .tok (n0 + m) (.slice (some ⟨b, 0, none⟩) (n0 + m) cap0)) (x := .tok e (T e).size (n0 + m)) hk rfl rfl rfl (by simp [World.setRow])
              (fun b'' _ hne => hoth b'' (fun e0 => hne (by rw [e0]; exact howner))) (fun _ h => .inl h) hcell
              (fun a ha => by
                rcases ha with ha | ha
                · exact .inl ha
                · exact .inr (.inr (by rw [ha.1]; exact howner)))
              (fun a ha => by
                rcases ha with ha | ha
                · simpa [World.setRow] using hr.bnd a ha
                · rw [ha.1]; simpa [World.setRow] using heap_lt g4) hle'
              (by
                refine ⟨_, upd_same _ _ _, ?_⟩
                rcases Nat.lt_or_ge (n0 + m) cap0 with hlt | hge'
                · refine .inr (.inr ⟨b, cap0, vs', hlt, hmax0, rfl, hnew, by rw [hvsz, g5], fun a ha hab => ?_⟩)
                  rcases ha with ha | ha
                  · have := g6 a ha hab
                    rw [hn0] at this
                    omega
                  · exact ha.2.2.1
                · have : cap0 = n0 + m := by omega
                  subst this
                  exact .inr (.inl ⟨_, rfl⟩))
              (fun b'' hb => by
                simp only [blockOf] at hb
                split at hb
                · cases hb
                · cases hb; exact .inr howner)
            have hall : ∀ e' ∈ es ++ xs, e'.cells.length = (T e).size := fun e' he' => by
              rcases List.mem_append.1 he' with g | g
              · exact p5 e' g
              · exact q5 e' g
            have hfl := flat_length hall
            rw [hlen] at hfl
            have hfe := flat_length p5
            rw [p6] at hfe
            have hvat : ∀ (j : Nat) c, (flat (es ++ xs))[j]? = some c → ∃ u, vs'[j]? = some u ∧ C S w φ c u ∧ u.oneCell' = true ∧ (w.setRow b vs').cell? ⟨b, j, none⟩ = some u := fun j c hj => by
              have hjl := lookupD hj
              rw [hfl] at hjl
              rw [flat_append] at hj
              have hcellj : (w.setRow b vs').cell? ⟨b, j, none⟩ = vs'[j]? := by simp [World.cell?, hnew]
              by_cases c1 : j < n0 * (T e).size
              · rw [List.getElem?_append_left (by omega)] at hj
                obtain ⟨u, hu, hcu, hu1⟩ := p4 j c hj
                have hold := p2 j u hu
                rw [hadd] at hold
                simp only [World.cell?, g4] at hold
                have e1 : vs'[j]? = some u := by
                  rw [hget, if_neg (by omega)]
                  simpa using hold
                exact ⟨u, e1, hcu, hu1, by rw [hcellj, e1]⟩
              · rw [List.getElem?_append_right (by omega), hfe] at hj
                obtain ⟨u, hu, hcu, hu1⟩ := q4 _ c hj
                have e1 : vs'[j]? = some u := by rw [hget, if_pos (by omega)]; exact hu
                exact ⟨u, e1, hcu, hu1, by rw [hcellj, e1]⟩
            obtain ⟨us, hul, hu⟩ := exists_vals (flat (es ++ xs)) hvat
            have key : ∀ (j : Nat) c, (flat (es ++ xs))[j]? = some c → vs'[j]? = some (us.getD j undef) ∧ C S w φ c (us.getD j undef) ∧ (us.getD j undef).oneCell' = true ∧ (w.setRow b vs').cell? ⟨b, j, none⟩ = some (us.getD j undef) := by
              intro j c hj
              have hj' : j < us.length := by rw [hul]; exact lookupD hj
              have e0 : us[j]? = some (us.getD j undef) := by rw [List.getD_eq_getElem?_getD, List.getElem?_eq_getElem hj']; rfl
              exact hu j c _ hj e0
            have hSold : ∀ j, j < n0 * (T e).size → S ⟨b, j, none⟩ := fun j hj => by
              have := (C.vals h0)
              obtain ⟨_, _, _, _, _, _, _, hSS⟩ := this
              have := hSS j hj
              rw [hadd] at this
              exact this
            rw [hlen]
            refine ⟨_, _, S', _, hrun, .lst _ _ _ _ _ _ (fun j => us.getD j undef) hlen hin hmax0 hall (fun j c hj => ⟨?_, ?_⟩) (fun j c hj => hmono (key j c hj).2.1) (fun j c hj => (key j c hj).2.2.1) ⟨_, _, upd_same _ _ _, Nat.le_refl _, fun _ => rfl⟩, hput.1, hput.2⟩
            · rw [hadd]; exact (key j c hj).2.2.2
            · rw [hadd]
              have hjl := lookupD hj
              rw [hfl] at hjl
              by_cases c1 : j < n0 * (T e).size
              · exact .inl (hSold j c1)
              · exact .inr ⟨rfl, Nat.le_of_not_lt c1, hjl, rfl⟩
        · have hrun := run_append_grow (P := P) w t ty e i z hK hi hz b0 n0 cap0 olds (by rw [hsz]; exact p1) p2 ad m cap news (by rw [hsz]; exact q1) q2 (by omega) (by omega) (growslice_fits (by omega) (hfitb _ (by omega)))
          obtain ⟨S', φ', k1, k2, k3⟩ := moved olds p1 p4 p5
          exact ⟨_, _, S', φ', hrun, k1, k2, k3⟩

end
end Go.Abs
