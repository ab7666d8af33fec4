/-
  The abstract layer, part S: maps, and appending to a slice of the call's own.
-/
import Derived.Test.YtfjjckaiopbbkaaAbsK
import Derived.MapKept
import Derived.Carry
namespace Go.Abs
open Go.RowKit

theorem toList_loop (b : ByteArray) : ∀ (n i : Nat) (r : List UInt8), b.size - i = n → ByteArray.toList.loop b i r = r.reverse ++ b.data.toList.drop i := by
  intro n
  induction n with
  | zero =>
    intro i r hn
    unfold ByteArray.toList.loop
    rw [if_neg (by omega), List.drop_of_length_le (by have : b.data.toList.length = b.size := rfl
                                                      omega), List.append_nil]
  | succ n ih =>
    intro i r hn
    unfold ByteArray.toList.loop
    have hi : i < b.size := by omega
    have hi' : i < b.data.toList.length := hi
    rw [if_pos hi, ih (i + 1) _ (by omega), List.drop_eq_getElem_cons hi', List.reverse_cons, List.append_assoc]
    congr 1
    have : b.get! i = b.data.toList[i] := by
      have hi2 : i < b.data.size := by simpa using hi'
      simp [ByteArray.get!, getElem!_pos b.data i hi2]
    rw [this]
    rfl
theorem toList_data (b : ByteArray) : b.toList = b.data.toList := by
  have := toList_loop b b.size 0 [] (by simp)
  simpa [ByteArray.toList] using this
theorem toList_inj {a b : ByteArray} (h : a.toList = b.toList) : a = b := by
  rw [toList_data, toList_data] at h
  exact ByteArray.ext (Array.toList_inj.1 h)

theorem keyEq_iff {kk : KK} {a b : Value} (ha : isKey kk a = true) (hb : isKey kk b = true) : keyEq a b = true ↔ a = b := by
  cases kk <;> cases a <;> simp only [isKey] at ha <;> first | contradiction | skip
  · cases b <;> simp only [isKey] at hb <;> first | contradiction | skip
    simp only [keyEq, beq_iff_eq, Value.string.injEq]
    exact ⟨toList_inj, fun e => by rw [e]⟩
  · rename_i k n
    cases k <;> first | contradiction | skip
    cases b <;> simp only [isKey] at hb <;> first | contradiction | skip
    rename_i k m
    cases k <;> first | contradiction | skip
    simp [keyEq]

/-- An entry set; an entry struck: the first of its key. -/
def mset (key v : Value) : List MapEntry → List MapEntry
  | [] => []
  | e :: es => match keyEq key e.key with
    | true => { e with key := key, val := v } :: es
    | false => e :: mset key v es
def mdel (key : Value) : List MapEntry → List MapEntry
  | [] => []
  | e :: es => match keyEq key e.key with
    | true => es
    | false => e :: mdel key es

def desc : KK → TypeDesc
  | .str => .string
  | .int => .int .i64

theorem sameNow_key {kk : KK} {a b : Value} (ha : isKey kk a = true) (hb : isKey kk b = true) : Instr.sameNow (desc kk) a b = some (keyEq a b) := by
  cases kk <;> cases a <;> simp only [isKey] at ha <;> first | contradiction | skip
  · cases b <;> simp only [isKey] at hb <;> first | contradiction | skip
    simp only [desc, Instr.sameNow, keyEq, beq_toListBytes]
  · rename_i k n
    cases k <;> first | contradiction | skip
    cases b <;> simp only [isKey] at hb <;> first | contradiction | skip
    rename_i k m
    cases k <;> first | contradiction | skip
    rfl

/-- What the machine finds. -/
theorem findNow_key {kk : KK} {key : Value} (hk : isKey kk key = true) : ∀ (l : List MapEntry) (i : Nat), (∀ e ∈ l, isKey kk e.key = true) →
    (mfind key l = none ∧ Instr.findNow (desc kk) key l i = some none ∧ mdel key l = l ∧ mset key undef l = l ∧ ∀ e ∈ l, keyEq key e.key = false) ∨
    (∃ (j : Nat) (e : MapEntry), l[j]? = some e ∧ keyEq key e.key = true ∧ mfind key l = some e.val ∧ Instr.findNow (desc kk) key l i = some (some (i + j, e.val)) ∧ mdel key l = l.eraseIdx j ∧ ∀ v, mset key v l = l.set j { e with key := key, val := v })
  | [], i, _ => .inl ⟨rfl, rfl, rfl, rfl, by simp⟩
  | e :: l, i, h => by
    have he := sameNow_key hk (h e (by simp))
    cases hb : keyEq key e.key with
    | true =>
      refine .inr ⟨0, e, rfl, hb, by simp [mfind, hb], ?_, by simp [mdel, hb], fun v => by simp [mset, hb]⟩
      simp only [Instr.findNow, he, hb, Nat.add_zero]
    | false =>
      rcases findNow_key hk l (i + 1) (fun x hx => h x (by simp [hx])) with ⟨h1, h2, h3, h4, h5⟩ | ⟨j, x, h1, h2, h3, h4, h5, h6⟩
      · refine .inl ⟨by simp [mfind, hb, h1], by simp only [Instr.findNow, he, hb, h2], by simp [mdel, hb, h3], by simp [mset, hb, h4], ?_⟩
        intro y hy
        rcases List.mem_cons.1 hy with rfl | hy
        · exact hb
        · exact h5 y hy
      · refine .inr ⟨j + 1, x, by simpa using h1, h2, by simp [mfind, hb, h3], ?_, by simp [mdel, hb, h5], fun v => by simp [mset, hb, h6]⟩
        simp only [Instr.findNow, he, hb, h4]
        congr 3
        omega

section
variable {P : Program} {T : TypeId → TI} {S : Addr → Prop} {φ : Nat → Loc} {h : List Blk} {w : World} {s : List AV} {a : Act} {kk : KK}

theorem keys_mset {key v : Value} (hk : isKey kk key = true) : ∀ {l : List MapEntry}, (∀ e ∈ l, isKey kk e.key = true) → ∀ e ∈ mset key v l, isKey kk e.key = true
  | [], _, e, he => by simp [mset] at he
  | x :: l, h, e, he => by
    simp only [mset] at he
    split at he
    · rcases List.mem_cons.1 he with rfl | he
      · exact hk
      · exact h e (by simp [he])
    · rcases List.mem_cons.1 he with rfl | he
      · exact h _ (by simp)
      · exact keys_mset hk (fun y hy => h y (by simp [hy])) e he

theorem mdel_sub {key : Value} : ∀ {l : List MapEntry} {e : MapEntry}, e ∈ mdel key l → e ∈ l
  | [], e, he => by simp [mdel] at he
  | x :: l, e, he => by
    simp only [mdel] at he
    split at he
    · exact List.mem_cons_of_mem _ he
    · rcases List.mem_cons.1 he with rfl | he
      · simp
      · exact List.mem_cons_of_mem _ (mdel_sub he)

/-- The keys of entries set are the old ones, or the key. -/
theorem mset_key {key v : Value} (hk : isKey kk key = true) : ∀ {l : List MapEntry}, (∀ e ∈ l, isKey kk e.key = true) → ∀ e ∈ mset key v l, ∃ x ∈ l, x.key = e.key
  | [], _, e, he => by simp [mset] at he
  | x :: l, h, e, he => by
    simp only [mset] at he
    split at he
    · rename_i hb
      rcases List.mem_cons.1 he with rfl | he
      · exact ⟨x, by simp, ((keyEq_iff hk (h x (by simp))).1 hb).symm⟩
      · exact ⟨e, by simp [he], rfl⟩
    · rcases List.mem_cons.1 he with rfl | he
      · exact ⟨_, by simp, rfl⟩
      · obtain ⟨y, hy, hye⟩ := mset_key hk (fun y hy => h y (by simp [hy])) e he
        exact ⟨y, by simp [hy], hye⟩

theorem once_mset {key v : Value} (hk : isKey kk key = true) : ∀ {l : List MapEntry}, (∀ e ∈ l, isKey kk e.key = true) → once l → once (mset key v l)
  | [], _, _ => trivial
  | x :: l, h, ho => by
    simp only [mset]
    split
    · rename_i hb
      have e := (keyEq_iff hk (h x (by simp))).1 hb
      exact ⟨fun y hy => by rw [e]; exact ho.1 y hy, ho.2⟩
    · refine ⟨fun y hy => ?_, once_mset hk (fun y hy => h y (by simp [hy])) ho.2⟩
      obtain ⟨z, hz, hzy⟩ := mset_key hk (fun y hy => h y (by simp [hy])) y hy
      rw [← hzy]
      exact ho.1 z hz

theorem once_mdel {key : Value} : ∀ {l : List MapEntry}, once l → once (mdel key l)
  | [], _ => trivial
  | x :: l, ho => by
    simp only [mdel]
    split
    · exact ho.2
    · exact ⟨fun y hy => ho.1 y (mdel_sub hy), once_mdel ho.2⟩

theorem once_push {key v : Value} {c : Nat} : ∀ {l : List MapEntry}, once l → (∀ e ∈ l, keyEq key e.key = false) → once (l ++ [⟨key, v, c⟩])
  | [], _, _ => ⟨by simp, trivial⟩
  | x :: l, ho, hn => by
    refine ⟨fun y hy => ?_, once_push ho.2 fun e he => hn e (by simp [he])⟩
    rcases List.mem_append.1 hy with hy | hy
    · exact ho.1 y hy
    · simp at hy; subst hy; exact hn x (by simp)

theorem keyEq_comm {a b : Value} : keyEq a b = keyEq b a := by
  cases a <;> cases b <;> first | rfl | skip
  · simp only [keyEq]; exact Bool.beq_comm
  · simp only [keyEq]; exact Bool.beq_comm

theorem mfind_mset {key v key' : Value} (hk : isKey kk key = true) (hk' : isKey kk key' = true) : ∀ {l : List MapEntry}, (∀ e ∈ l, isKey kk e.key = true) → (mfind key l).isSome = true → mfind key' (mset key v l) = match keyEq key' key with | true => some v | false => mfind key' l
  | [], _, hs => by simp [mfind] at hs
  | x :: l, h, hs => by
    have hx := h x (by simp)
    simp only [mset]
    cases hb : keyEq key x.key with
    | true =>
      have e := (keyEq_iff hk hx).1 hb
      simp only [mfind]
      rw [e]
      cases keyEq key' x.key <;> rfl
    | false =>
      simp only [mfind, hb] at hs ⊢
      cases hb' : keyEq key' x.key with
      | true =>
        have e := (keyEq_iff hk' hx).1 hb'
        rw [e, keyEq_comm, hb]
      | false => exact mfind_mset hk hk' (fun y hy => h y (by simp [hy])) hs

theorem mfind_push {key v key' : Value} {c : Nat} : ∀ {l : List MapEntry}, mfind key l = none → mfind key' (l ++ [⟨key, v, c⟩]) = match mfind key' l with | some x => some x | none => match keyEq key' key with | true => some v | false => none
  | [], _ => by
    simp only [List.nil_append, mfind]
    cases keyEq key' key <;> rfl
  | x :: l, hn => by
    simp only [List.cons_append, mfind] at hn ⊢
    cases hb : keyEq key x.key with
    | true => simp [hb] at hn
    | false =>
      simp only [hb] at hn
      cases hb' : keyEq key' x.key with
      | true => rfl
      | false => exact mfind_push hn

theorem mfind_none_of {key : Value} : ∀ {l : List MapEntry}, (∀ e ∈ l, keyEq key e.key = false) → mfind key l = none
  | [], _ => rfl
  | x :: l, h => by simp only [mfind, h x (by simp)]; exact mfind_none_of fun e he => h e (by simp [he])

theorem mfind_mdel {key key' : Value} (hk : isKey kk key = true) (hk' : isKey kk key' = true) : ∀ {l : List MapEntry}, (∀ e ∈ l, isKey kk e.key = true) → once l → mfind key' (mdel key l) = match keyEq key' key with | true => none | false => mfind key' l
  | [], _, _ => by simp only [mdel, mfind]; cases keyEq key' key <;> rfl
  | x :: l, h, ho => by
    have hx := h x (by simp)
    simp only [mdel]
    cases hb : keyEq key x.key with
    | true =>
      have e := (keyEq_iff hk hx).1 hb
      simp only [mfind]
      rw [e]
      cases hb' : keyEq key' x.key with
      | true =>
        have e' := (keyEq_iff hk' hx).1 hb'
        refine mfind_none_of fun y hy => ?_
        rw [e', keyEq_comm]
        exact ho.1 y hy
      | false => rfl
    | false =>
      simp only [mfind]
      cases hb' : keyEq key' x.key with
      | true =>
        have e := (keyEq_iff hk' hx).1 hb'
        rw [e, keyEq_comm, hb]
      | false => exact mfind_mdel hk hk' (fun y hy => h y (by simp [hy])) ho.2

theorem run_checkKey' {kt : TypeId} {b : Bool} (hd : P.underlying kt = some (desc kk)) {key : Value} (hk : isKey kk key = true) : (Instr.checkKey b 10000 kt key).run P w = .ok () w := by
  refine MapKept.run_checkKey hd ?_ b 9999
  cases kk <;> cases key <;> simp only [isKey] at hk <;> first | contradiction | skip
  · trivial
  · rename_i k n
    cases k <;> first | contradiction | rfl

theorem desc_of {kt : TypeId} (hT : TIok P kt (T kt)) (h : mapKK (T kt) = some kk) : P.underlying kt = some (desc kk) := by
  unfold mapKK at h
  cases hk : (T kt).kind <;> simp only [hk] at h <;> first | contradiction | skip
  · rename_i k
    obtain ⟨_, _, _, _, _, _, _, _, _, _, _, hK⟩ := hT.known (by rw [hk]; simp)
    rw [hk] at hK
    cases k <;> first | contradiction | skip
    cases h
    exact hK
  · obtain ⟨_, _, _, _, _, _, _, _, _, _, _, hK⟩ := hT.known (by rw [hk]; simp)
    rw [hk] at hK
    cases h
    exact hK

/-- A map's block is set. -/
theorem map_put (hr : R S φ h w) {k : Nat} {n n' : Nat} {f f' : Value → Option AV} (hk : h[k]? = some (.mp kk n f)) {b : Nat} {es es' : Array MapEntry} {clock clock' : Nat} (hφ : φ k = .obj b) (hb : w.heap[b]? = some (.map es clock)) (hS : ∀ a, S a → a.block ≠ b)
    (hn : es'.size = n') (hm : MapOK S w φ kk es'.toList f') : let w' : World := { w with heap := w.heap.setIfInBounds b (.map es' clock') }
    R S φ (h.set k (.mp kk n' f')) w' ∧ Ext S φ h w S φ (h.set k (.mp kk n' f')) w' := by
  intro w'
  obtain ⟨g1, g2⟩ := MapKept.heap_set (o' := .map es' clock') hb
  have hlt := heap_lt hb
  have hupd : upd φ k (.obj b) = φ := by
    funext j
    by_cases e : j = k
    · subst e; rw [upd_same, hφ]
    · rw [upd_other _ e]
  have hc : ∀ a, S a → w'.cell? a = w.cell? a := fun a ha => cell_of_heap (g2 _ (hS a ha))
  have := hr.put (w' := w') (S' := S) (l := .obj b) (x := .mp kk n' f') hk rfl rfl rfl (by simp [w']) (fun b' _ hb' => g2 b' (fun e => hb' (by rw [hφ, e]; rfl))) (fun _ h => h) hc (fun _ h => .inl h)
    (fun a ha => by have := hr.bnd a ha; simp only [w', Array.size_setIfInBounds]; exact this) (by rw [hφ]; exact Loc.le_refl _)
    (by
      rw [hupd]
      exact ⟨b, es', clock', hφ, g1, hn, hm.mono (fun _ h => h) hc (fun _ => Loc.le_refl _), hS⟩)
    (fun b' hb' => by cases hb'; exact .inr (by rw [hφ]; rfl))
  rw [hupd] at this
  exact this

theorem lookupAV_sound (hT : TabOK P T) (hr : R S φ h w) {t kt vt : TypeId} (hK : P.underlying t = some (.map kt vt)) {ok : Bool} {x y : AV} {u v : Value} (hx : C S w φ x u) (hy : C S w φ y v) {run : Result Next}
    (hrun : ∀ z w', (Instr.lookup t u v ok).run P w = .ok z w' → run = .ok (.value z) w') : (lookupAV T h kt vt ok x y).sound S φ h w run := by
  unfold lookupAV
  split
  · rename_i k key
    have ev : key = v := by cases hy; rfl
    subst ev
    clear hy
    split
    · trivial
    · rename_i kk n f kk' z hk hkk hz hag hvk
      split
      · rename_i h1 h2
        have h1 := kkEq_eq h1
        subst h1
        cases hx with
        | map _ b hφ =>
        obtain ⟨b', es, clock, e1, e2, e3, ⟨m1, m2, m3⟩, e5⟩ := hr.blk k _ hk
        rw [hφ] at e1
        cases e1
        have hd := desc_of (hT kt) hkk
        obtain ⟨i, z', hi, hsz, hbs, hz', hzc, hzz, _, _, hzl, _⟩ := (hT vt).known hvk
        have hzz := hzz hag
        rw [hz] at hzz
        cases hzz
        have hzero : (zeroValue vt).run P w = .ok z w := by
          simp [zeroValue, typeInfo, hi, hz']
        have hm := m3 key h2
        have look : ∃ o : Option Value, (Instr.lookup t (.map (some b)) key ok).run P w = .ok (match ok with | true => .tuple #[o.getD z, .bool o.isSome] | false => o.getD z) w ∧ o = mfind key es.toList := by
          rcases findNow_key h2 es.toList 0 m1 with ⟨q1, q2, _⟩ | ⟨j, e, q0, q1, q2, q3, _⟩
          · refine ⟨none, ?_, q1.symm⟩
            simp only [Instr.lookup, Sem.run_bind, run_underlying hK, Result.andThen_ok, MapKept.run_getObj_map e2, Sem.run_pure, run_checkKey' hd h2, MapKept.run_findKey hd q2, hzero]
            cases ok <;> rfl
          · refine ⟨some e.val, ?_, q2.symm⟩
            simp only [Instr.lookup, Sem.run_bind, run_underlying hK, Result.andThen_ok, MapKept.run_getObj_map e2, Sem.run_pure, run_checkKey' hd h2, MapKept.run_findKey hd q3]
            cases ok <;> rfl
        obtain ⟨o, hl, ho⟩ := look
        rw [← ho] at hm
        have hc : C S w φ (orZ (f key) (.raw z)) (o.getD z) ∧ (f key).isSome = o.isSome := by
          cases o <;> cases hf : f key <;> rw [hf] at hm <;> first | exact hm.elim | skip
          · exact ⟨.raw _, rfl⟩
          · exact ⟨hm, rfl⟩
        cases ok with
        | true => 
          refine ⟨_, w, S, φ, .inl (hrun _ _ hl), ?_, hr, Ext.refl _ _ _ _⟩
          rw [hc.2]
          exact .tup _ _ rfl (CAll.cons hc.1 (CAll.one (.raw _))).2
        | false => exact ⟨_, w, S, φ, .inl (hrun _ _ hl), hc.1, hr, Ext.refl _ _ _ _⟩
      · trivial
    · trivial
  · trivial

theorem storeAV_sound (hT : TabOK P T) (hr : R S φ h w) {t kt vt : TypeId} (hK : P.underlying t = some (.map kt vt)) {x y q : AV} {u v r : Value} (hx : C S w φ x u) (hy : C S w φ y v) (hq : C S w φ q r) {run : Result Next}
    (hrun : ∀ w', (Instr.mapUpdate t u v r).run P w = .ok () w' → run = .ok .skip w') : (storeAV T h kt x y q).sound S φ h w run := by
  unfold storeAV
  split
  · rename_i k key
    have ev : key = v := by cases hy; rfl
    subst ev
    clear hy
    split
    · rename_i kk n f kk' hk hkk htf
      split
      · rename_i h1 h2
        have h1 := kkEq_eq h1
        subst h1
        cases hx with
        | map _ b hφ =>
        obtain ⟨b', es, clock, e1, e2, e3, ⟨m1, m2, m3⟩, e5⟩ := hr.blk k _ hk
        rw [hφ] at e1
        cases e1
        have hd := desc_of (hT kt) hkk
        have hm := m3 key h2
        rcases findNow_key h2 es.toList 0 m1 with ⟨q1, q2, _, _, q5⟩ | ⟨j, e, q0, q1, q2, q3, _, q6⟩
        · have hfn : f key = none := by
            rw [q1] at hm
            cases hf : f key with
            | none => rfl
            | some a => rw [hf] at hm; exact hm.elim
          have hput := map_put hr hk hφ e2 e5 (es' := es.push ⟨key, r, clock⟩) (clock' := clock + 1) (n' := more (f key) n) (f' := mput f key q) (by rw [hfn]; simp [more, e3]) (by
            refine ⟨fun x hx => ?_, ?_, fun key' hk' => ?_⟩
            · simp only [Array.toList_push, List.mem_append, List.mem_singleton] at hx
              rcases hx with hx | rfl
              · exact m1 x hx
              · exact h2
            · rw [Array.toList_push]; exact once_push m2 q5
            · rw [Array.toList_push, mfind_push q1]
              have := m3 key' hk'
              unfold mput
              cases hb : keyEq key' key with
              | true =>
                have e := (keyEq_iff hk' h2).1 hb
                subst e
                rw [q1]
                exact hq
              | false =>
                revert this
                cases mfind key' es.toList <;> cases f key' <;> intro hh <;> exact hh)
          refine ⟨undef, _, S, φ, .inr ⟨hrun _ ?_, rfl⟩, C.undef_, hput.1, hput.2⟩
          simp only [Instr.mapUpdate, Sem.run_bind, run_underlying hK, Result.andThen_ok, MapKept.run_getObj_map e2, run_checkKey' hd h2, MapKept.run_findKey hd q2, MapKept.run_setObj_map _ e2]
        · have hfs : ∃ a, f key = some a := by
            rw [q2] at hm
            cases hf : f key with
            | none => rw [hf] at hm; exact hm.elim
            | some a => exact ⟨a, rfl⟩
          obtain ⟨a, hfs⟩ := hfs
          have hmod : (es.modify j fun e => { e with key := key, val := r }).toList = mset key r es.toList := by
            rw [q6 r]
            apply List.ext_getElem?
            intro i
            rw [List.getElem?_set, Array.getElem?_toList, Array.getElem?_modify]
            have hj : es[j]? = some e := by simpa using q0
            have hjl : j < es.size := (Array.getElem?_eq_some_iff.1 hj).1
            by_cases hij : j = i
            · subst hij
              have he : es[j] = e := by rw [Array.getElem?_eq_getElem hjl] at hj; cases hj; rfl
              simp [hjl, he]
            · simp [hij]
          have hput := map_put hr hk hφ e2 e5 (es' := es.modify j fun e => { e with key := key, val := r }) (clock' := clock) (n' := more (f key) n) (f' := mput f key q) (by rw [hfs]; simp [more, e3]) (by
            rw [hmod]
            refine ⟨keys_mset h2 m1, once_mset h2 m1 m2, fun key' hk' => ?_⟩
            rw [mfind_mset h2 hk' m1 (by rw [q2]; rfl)]
            have := m3 key' hk'
            unfold mput
            cases hb : keyEq key' key with
            | true => exact hq
            | false => exact this)
          refine ⟨undef, _, S, φ, .inr ⟨hrun _ ?_, rfl⟩, C.undef_, hput.1, hput.2⟩
          have hstay : ∀ old : Value, keyEq key old = true → isKey kk old = true → (Instr.keyThatStays old key).run P w = .ok key w := by
            intro old ho hko
            have := (keyEq_iff h2 hko).1 ho
            subst this
            have hsb : Instr.sameBits 10000 key key = true := by
              cases kk <;> cases key <;> simp only [isKey] at h2 <;> first | contradiction | skip
              · simp [Instr.sameBits, beq_toListBytes]
              · simp [Instr.sameBits]
            simp [Instr.keyThatStays, hsb]
          have hj : es[0 + j]? = some e := by rw [Nat.zero_add]; simpa using q0
          have hke : isKey kk e.key = true := m1 e (List.mem_of_getElem? q0)
          simp only [Instr.mapUpdate, Sem.run_bind, run_underlying hK, Result.andThen_ok, MapKept.run_getObj_map e2, run_checkKey' hd h2, MapKept.run_findKey hd q3, hj, Option.map_some, Option.getD_some, hstay e.key q1 hke, MapKept.run_setObj_map _ e2]
          rw [Nat.zero_add]
      · trivial
    · trivial
  · trivial

theorem deleteAV_sound (hT : TabOK P T) (hr : R S φ h w) {t u' kt vt ty : TypeId} (hK : P.underlying t = some (.map kt vt)) {x y : AV} {u v : Value} (hx : C S w φ x u) (hy : C S w φ y v) {run : Result Next}
    (hrun : ∀ z w', (Builtin.delete_ #[t, u'] ty #[u, v]).run P w = .ok z w' → run = .ok (.value z) w') : (deleteAV T h kt x y).sound S φ h w run := by
  unfold deleteAV
  split
  · rename_i k key
    have ev : key = v := by cases hy; rfl
    subst ev
    clear hy
    split
    · rename_i kk n f kk' hk hkk
      split
      · rename_i h1 h2
        have h1 := kkEq_eq h1
        subst h1
        cases hx with
        | map _ b hφ =>
        obtain ⟨b', es, clock, e1, e2, e3, ⟨m1, m2, m3⟩, e5⟩ := hr.blk k _ hk
        rw [hφ] at e1
        cases e1
        have hd := desc_of (hT kt) hkk
        have hm := m3 key h2
        have hok : ∀ key', isKey kk key' = true → match mfind key' (mdel key es.toList), mcut f key key' with | none, none => True | some v, some a => C S w φ a v | _, _ => False := by
          intro key' hk'
          rw [mfind_mdel h2 hk' m1 m2]
          unfold mcut
          cases hb : keyEq key' key with
          | true => trivial
          | false => exact m3 key' hk'
        rcases findNow_key h2 es.toList 0 m1 with ⟨q1, q2, q3, _⟩ | ⟨j, e, q0, q1, q2, q3, q4, _⟩
        · have hfn : f key = none := by
            rw [q1] at hm
            cases hf : f key with
            | none => rfl
            | some a => rw [hf] at hm; exact hm.elim
          have hput := map_put hr hk hφ e2 e5 (es' := es) (clock' := clock) (n' := less (f key) n) (f' := mcut f key) (by rw [hfn]; exact e3) (by
            refine ⟨m1, m2, fun key' hk' => ?_⟩
            have := hok key' hk'
            rw [q3] at this
            exact this)
          refine ⟨_, _, S, φ, .inl (hrun (.tuple #[]) _ ?_), .tup [] #[] rfl (fun i a v h => by simp at h), hput.1, hput.2⟩
          simp [Builtin.delete_, run_underlying hK, MapKept.run_getObj_map e2, run_checkKey' hd h2, MapKept.run_findKey hd q2, MapKept.run_setObj_map _ e2]
        · have hfs : ∃ a, f key = some a := by
            rw [q2] at hm
            cases hf : f key with
            | none => rw [hf] at hm; exact hm.elim
            | some a => exact ⟨a, rfl⟩
          obtain ⟨a, hfs⟩ := hfs
          have hj : es[j]? = some e := by simpa using q0
          have hjl : j < es.size := (Array.getElem?_eq_some_iff.1 hj).1
          have hdel : (es.eraseIdxIfInBounds j).toList = mdel key es.toList := by
            rw [q4, Array.eraseIdxIfInBounds, dif_pos hjl, Array.toList_eraseIdx]
          have hput := map_put hr hk hφ e2 e5 (es' := es.eraseIdxIfInBounds j) (clock' := clock) (n' := less (f key) n) (f' := mcut f key) (by
            rw [hfs, Array.eraseIdxIfInBounds, dif_pos hjl, Array.size_eraseIdx, e3]; rfl) (by
            rw [hdel]
            exact ⟨fun x hx => m1 x (mdel_sub hx), once_mdel m2, hok⟩)
          refine ⟨_, _, S, φ, .inl (hrun (.tuple #[]) _ ?_), .tup [] #[] rfl (fun i a v h => by simp at h), hput.1, hput.2⟩
          rw [Nat.zero_add] at q3
          simp [Builtin.delete_, run_underlying hK, MapKept.run_getObj_map e2, run_checkKey' hd h2, MapKept.run_findKey hd q3, MapKept.run_setObj_map _ e2]
      · trivial
    · trivial
  · trivial

theorem lenMapAV_sound (hr : R S φ h w) {t kt vt ty : TypeId} (hK : P.underlying t = some (.map kt vt)) {x : AV} {u : Value} (hx : C S w φ x u) {run : Result Next}
    (hrun : ∀ z w', (Builtin.len_ #[t] ty #[u]).run P w = .ok z w' → run = .ok (.value z) w') : (lenMapAV h x).sound S φ h w run := by
  unfold lenMapAV
  split
  · rename_i k
    split
    · rename_i kk n f hk
      cases hx with
      | map _ b hφ =>
      obtain ⟨b', es, clock, e1, e2, e3, _, e5⟩ := hr.blk k _ hk
      rw [hφ] at e1
      cases e1
      subst e3
      exact ⟨_, w, S, φ, .inl (hrun _ _ (by simp [Builtin.len_, run_underlying hK, MapKept.run_getObj_map e2, goInt])), .raw _, hr, Ext.refl _ _ _ _⟩
    · trivial
  · trivial

theorem makeMap_sound (hr : R S φ h w) (kk : KK) {t : TypeId} {run : Result Next} (hrun : ∀ z w', (Instr.makeMap t none).run P w = .ok z w' → run = .ok (.value z) w') :
    HSound S φ h w run (.map h.length) (h ++ [.mp kk 0 (fun _ => none)]) := by
  have hpush := hr.push (l := .obj w.heap.size) (x := .mp kk 0 (fun _ => none)) (S' := S) (w' := w.alloc (.map #[] 0)) rfl rfl rfl (by show _ ≤ (w.heap.push _).size; simp) (fun b hb => alloc_heap _ _ _ hb) (fun _ h => h) (fun _ h => .inl h)
    (fun a ha => by have := hr.bnd a ha; show _ < (w.heap.push _).size; simp; omega)
    ⟨w.heap.size, #[], 0, upd_same _ _ _, (MapKept.heap_alloc w _).1, rfl, ⟨by simp, trivial, fun key _ => trivial⟩, fun a ha e => by have := hr.bnd a ha; omega⟩
    (fun b hb => by cases hb; exact Nat.le_refl _)
  exact ⟨_, _, S, _, .inl (hrun _ _ (run_makeMap t w)), .map _ _ (upd_same _ _ _), hpush.1, hpush.2⟩

/-- A slice of the call's own, at its new place. -/
theorem own_put (hr : R S φ h w) {k : Nat} {e : TypeId} {sz : Nat} {es es' : List AV} (hk : h[k]? = some (.own e sz es)) {u0 : Value} (hφ : φ k = .tok es.length u0) {w' : World} (hos : w'.os = w.os) (htape : w'.tape = w.tape) (hout : w'.output = w.output) (hsize : w.heap.size ≤ w'.heap.size)
    {b cap : Nat} {vs : Array Value} (hw : ∀ b', b' < w.heap.size → blockOf (φ k) (.own e sz es) ≠ some b' → w'.heap[b']? = w.heap[b']?) (hb : w'.heap[b]? = some (.cells vs e (0, 0))) (hbn : w.heap.size ≤ b ∨ blockOf (φ k) (.own e sz es) = some b)
    (hcap : es'.length ≤ cap) (hmax : cap ≤ maxLen) (hvs : vs.size = cap * sz) (hsz : ∀ x ∈ es', x.cells.length = sz) (hlt : es.length < es'.length) (hcells : ∀ (j : Nat) c, (flat es')[j]? = some c → ∃ x, vs[j]? = some x ∧ C S w φ c x ∧ x.oneCell' = true) :
    ∃ φ', C S w' φ' (.own sz k es'.length) (.slice (some ⟨b, 0, none⟩) es'.length cap) ∧ R S φ' (h.set k (.own e sz es')) w' ∧ Ext S φ h w S φ' (h.set k (.own e sz es')) w' := by
  have hS : ∀ a, S a → blockOf (φ k) (.own e sz es) ≠ some a.block := by
    intro a ha hbk
    obtain ⟨u, h1, h2, h3⟩ := hr.blk k _ hk
    rw [h1] at hbk
    rcases h3 with ⟨rfl, _⟩ | ⟨b', cap', vs', g1, g2, rfl, g4, g5, g6, g7⟩
    · simp [blockOf] at hbk
    · simp only [blockOf, Option.some.injEq] at hbk
      exact g7 a ha hbk.symm
  have hc : ∀ a, S a → w'.cell? a = w.cell? a := fun a ha => cell_of_heap (hw _ (hr.bnd a ha) (hS a ha))
  have hle : (φ k).le (.tok es'.length (.slice (some ⟨b, 0, none⟩) es'.length cap)) := by
    rw [hφ]
    exact ⟨_, _, rfl, by omega, fun e => by omega⟩
  have hlej : ∀ j, (φ j).le (upd φ k (.tok es'.length (.slice (some ⟨b, 0, none⟩) es'.length cap)) j) := by
    intro j
    by_cases ej : j = k
    · subst ej; rw [upd_same]; exact hle
    · rw [upd_other _ ej]; exact Loc.le_refl _
  have hput := hr.put (S' := S) (w' := w') (l := .tok es'.length (.slice (some ⟨b, 0, none⟩) es'.length cap)) (x := .own e sz es') hk hos htape hout hsize hw (fun _ h => h) hc (fun _ h => .inl h)
    (fun a ha => Nat.lt_of_lt_of_le (hr.bnd a ha) hsize) hle
    (by
      refine ⟨_, upd_same _ _ _, hsz, .inr ⟨b, cap, vs, hcap, hmax, rfl, hb, hvs, fun j c hj => ?_, fun a ha e => ?_⟩⟩
      · obtain ⟨x, q1, q2, q3⟩ := hcells j c hj
        exact ⟨x, q1, q2.mono (fun _ h => h) hc hlej, q3⟩
      · rcases hbn with g | g
        · have := hr.bnd a ha; omega
        · exact hS a ha (by rw [e]; exact g))
    (fun b' hb' => by cases hb'; exact hbn)
  exact ⟨_, .own _ _ _ _ _ hcap hmax ⟨_, _, upd_same _ _ _, Nat.le_refl _, fun _ => rfl⟩, hput.1, hput.2⟩

theorem append_own_sound (hT : TabOK P T) (hr : R S φ h w) {t e : TypeId} (hK : P.underlying t = some (.slice e)) (hke : (T e).kind ≠ .other) (hby : (T e).bytes ≤ 32768) {es xs : List AV} {k : Nat} {tok : Option Nat} {v0 v : Value}
    (h0 : C S w φ (.own (T e).size k es.length) v0) (hx : C S w φ (.lst (T e).size xs tok) v) (hk : h[k]? = some (.own e (T e).size es)) (hle : es.length + xs.length ≤ 4294967296) (ty : TypeId) :
    ∃ u w' S' φ', (Builtin.append_ #[t, t] ty #[v0, v]).run P w = .ok u w' ∧ C S' w' φ' (.own (T e).size k (es ++ xs).length) u ∧ R S' φ' (h.set k (.own e (T e).size (es ++ xs))) w' ∧ Ext S φ h w S' φ' (h.set k (.own e (T e).size (es ++ xs))) w' := by
  obtain ⟨i, z, hi, hsz, hbs, hz, hzc, _, _, _, hzl, _⟩ := (hT e).known hke
  have hzs : z.cells.size = (T e).size := by rw [← Array.length_toList, hzc]; exact hzl
  have hfitb : ∀ n, n ≤ 4294967296 → n * i.bytes ≤ 140737488355328 := by
    intro n hn
    rw [hbs]
    have := Nat.mul_le_mul hn hby
    omega
  obtain ⟨u0, hφk, hes, hroom⟩ := hr.blk k _ hk
  obtain ⟨ad, m, cap, rfl, hm, hcapm, hmaxm, hnil⟩ := hx.slice_form
  have hv0 : v0 = u0 := by
    cases h0 with
    | own _ _ _ a cap0 _ _ ht =>
      obtain ⟨n', u', e1, _, e3⟩ := ht
      rw [hφk] at e1
      cases e1
      exact e3 rfl
  have hsame : h.set k (.own e (T e).size es) = h := by
    apply List.ext_getElem?
    intro j
    rw [List.getElem?_set]
    by_cases ej : k = j
    · subst ej; rw [if_pos rfl, if_pos (lookupD hk)]; exact hk.symm
    · rw [if_neg ej]
  by_cases hm0 : m = 0
  · subst hm0
    have hx0 : xs = [] := List.eq_nil_of_length_eq_zero hm
    subst hx0
    refine ⟨v0, w, S, φ, ?_, by rw [List.append_nil]; exact h0, by rw [List.append_nil, hsame]; exact hr, by rw [List.append_nil, hsame]; exact Ext.refl _ _ _ _⟩
    have hnone : ∀ b : Option Addr, (Builtin.firstCells (T e).size 0 (.slice b 0 cap)).run P w = .ok #[] w := by
      intro b
      cases b <;> simp [Builtin.firstCells, loadCells, loadCellsFrom]
    subst hv0
    rcases hroom with ⟨rfl, _⟩ | ⟨b, cap0, vs, g1, g2, rfl, _⟩
    · simp [Builtin.append_, run_underlying hK, sizeOf, typeInfo, hi, Builtin.lenOf, hsz, hnone]
    · have h1 : es.length + 0 ≤ cap0 := by omega
      simp [Builtin.append_, run_underlying hK, sizeOf, typeInfo, hi, Builtin.lenOf, g1, hsz, hnone, storeCells]
  · have hxs : xs ≠ [] := fun e0 => hm0 (by rw [← hm, e0]; rfl)
    cases ad with
    | none => exact absurd (hnil rfl) hxs
    | some ad =>
      obtain ⟨news, q1, q2, q3, q4, q5, q6, _⟩ := C.vals hx
      have hlen : (es ++ xs).length = es.length + m := by rw [List.length_append, hm]
      have hall : ∀ e' ∈ es ++ xs, e'.cells.length = (T e).size := fun e' he' => by
        rcases List.mem_append.1 he' with g | g
        · exact hes e' g
        · exact q5 e' g
      have moved : ∀ (olds : List Value) (cap0 : Nat), olds.length = es.length * (T e).size → (∀ (j : Nat) c, (flat es)[j]? = some c → ∃ u, olds[j]? = some u ∧ C S w φ c u ∧ u.oneCell' = true) →
          ∃ φ', C S (w.drew.alloc (.cells (olds.toArray ++ news.toArray ++ Builtin.zeroCells z.cells (grownCap w (es.length + m) cap0 e - (es.length + m))) e)) φ' (.own (T e).size k (es ++ xs).length) (.slice (some ⟨w.heap.size, 0, none⟩) (es.length + m) (grownCap w (es.length + m) cap0 e)) ∧
            R S φ' (h.set k (.own e (T e).size (es ++ xs))) (w.drew.alloc (.cells (olds.toArray ++ news.toArray ++ Builtin.zeroCells z.cells (grownCap w (es.length + m) cap0 e - (es.length + m))) e)) ∧
            Ext S φ h w S φ' (h.set k (.own e (T e).size (es ++ xs))) (w.drew.alloc (.cells (olds.toArray ++ news.toArray ++ Builtin.zeroCells z.cells (grownCap w (es.length + m) cap0 e - (es.length + m))) e)) := by
        intro olds cap0 ho1 ho2
        have hge := grownCap_ge w (es.length + m) cap0 e
        have hcm := grownCap_le_maxLen w (es.length + m) cap0 e (by simp only [maxLen]; omega)
        generalize grownCap w (es.length + m) cap0 e = cap' at hge hcm
        have hcells := grow_new (S := S) (w := w) (φ := φ) hall (olds := olds) (news := news) ho1 ho2 q4
        have hvs : (olds.toArray ++ news.toArray ++ Builtin.zeroCells z.cells (cap' - (es.length + m))).size = cap' * (T e).size := by
          simp only [Array.size_append, zeroCells_size, hzs, List.size_toArray, ho1, q1, ← Nat.add_mul]; congr 1; omega
        have := own_put hr hk hφk (w' := w.drew.alloc (.cells (olds.toArray ++ news.toArray ++ Builtin.zeroCells z.cells (cap' - (es.length + m))) e)) rfl rfl rfl (by show _ ≤ (w.heap.push _).size; simp)
          (b := w.heap.size) (cap := cap') (es' := es ++ xs) (fun b' hb' _ => alloc_heap _ _ _ hb') (heap_alloc_new w.drew _) (.inl (Nat.le_refl _)) (by omega) hcm hvs hall (by omega)
          (fun j c hj => by
            obtain ⟨u, hu, hcu⟩ := hcells j c hj
            refine ⟨u, ?_, hcu⟩
            have hjl := lookupD hu
            rw [Array.getElem?_append_left (by simpa using hjl), List.append_toArray]
            simpa using hu)
        rw [hlen] at this ⊢
        exact this
      subst hv0
      rcases hroom with ⟨rfl, he0⟩ | ⟨b, cap0, vs, g1, g2, rfl, g4, g5, g6, g7⟩
      · subst he0
        have hrun := run_append_nil (P := P) w t ty e i z hK hi hz ad m cap news (by rw [hsz]; exact q1) q2 (by omega) (by omega) (by have := hfitb m (by simpa [hm] using hle); omega)
        obtain ⟨φ', k1, k2, k3⟩ := moved [] 0 (by simp) (fun j c hj => by simp [flat] at hj)
        simp only [List.length_nil, Nat.zero_add, Array.empty_append] at k1 k2 k3 hrun
        exact ⟨_, _, S, φ', hrun, k1, k2, k3⟩
      · obtain ⟨us, hul, hu⟩ := exists_vals (flat es) g6
        have hfe := flat_length hes
        have hmulc : es.length * (T e).size ≤ cap0 * (T e).size := Nat.mul_le_mul_right _ g1
        by_cases hin : es.length + m ≤ cap0
        · have hsum : es.length * (T e).size + m * (T e).size = (es.length + m) * (T e).size := (Nat.add_mul _ _ _).symm
          have hmul : (es.length + m) * (T e).size ≤ cap0 * (T e).size := Nat.mul_le_mul_right _ hin
          have hfit : es.length * i.size + news.length ≤ vs.size := by rw [hsz, q1, g5]; omega
          have hrun := run_append_room (P := P) w t ty e i hK hi b es.length cap0 vs g4 ad m cap news (by rw [hsz]; exact q1) q2 q3 hin hfit
          rw [hsz, q1] at hrun
          generalize hvs' : (vs.toList.take (es.length * (T e).size) ++ news ++ vs.toList.drop (es.length * (T e).size + m * (T e).size)).toArray = vs' at hrun
          have hvsz : vs'.size = vs.size := by
            rw [← hvs']
            simp only [List.size_toArray, List.length_append, List.length_take, List.length_drop, Array.length_toList, q1]
            omega
          have hget : ∀ j, vs'[j]? = if es.length * (T e).size ≤ j ∧ j < (es.length + m) * (T e).size then news[j - es.length * (T e).size]? else vs[j]? := by
            intro j
            rw [← hvs']
            simp only [List.getElem?_toArray, List.append_assoc]
            rw [List.getElem?_append, List.length_take, show vs.toList.length = vs.size from rfl]
            have emin : min (es.length * (T e).size) vs.size = es.length * (T e).size := by omega
            rw [emin]
            by_cases c1 : j < es.length * (T e).size
            · rw [if_pos c1, if_neg (by omega), List.getElem?_take, if_pos c1]; simp
            · rw [if_neg c1, List.getElem?_append, q1]
              by_cases c2 : j < (es.length + m) * (T e).size
              · rw [if_pos (by omega), if_pos (by omega)]
              · rw [if_neg (by omega), if_neg (by omega), List.getElem?_drop]
                have : es.length * (T e).size + m * (T e).size + (j - es.length * (T e).size - m * (T e).size) = j := by omega
                rw [this]; simp
          have hown : blockOf (φ k) (.own e (T e).size es) = some b := by rw [hφk]; rfl
          obtain ⟨φ', k1, k2, k3⟩ := own_put hr hk hφk (w' := w.setRow b vs') rfl rfl rfl (by simp [World.setRow]) (b := b) (cap := cap0) (es' := es ++ xs)
            (fun b' _ hne => setRow_other w b b' vs' (fun e0 => hne (by rw [e0]; exact hown))) (setRow_heap w b vs vs' e (0, 0) g4) (.inr hown) (by omega) g2 (by rw [hvsz, g5]) hall (by omega)
            (fun j c hj => by
              have hjl := lookupD hj
              rw [flat_length hall, hlen] at hjl
              rw [flat_append] at hj
              by_cases c1 : j < es.length * (T e).size
              · rw [List.getElem?_append_left (by omega)] at hj
                obtain ⟨x, x1, x2, x3⟩ := g6 j c hj
                exact ⟨x, by rw [hget, if_neg (by omega)]; exact x1, x2, x3⟩
              · rw [List.getElem?_append_right (by omega), hfe] at hj
                obtain ⟨x, x1, x2, x3⟩ := q4 _ c hj
                exact ⟨x, by rw [hget, if_pos (by omega)]; exact x1, x2, x3⟩)
          rw [hlen] at k1 ⊢
          exact ⟨_, _, S, φ', hrun, k1, k2, k3⟩
        · have hold : ∀ (j : Nat) u, (vs.toList.take (es.length * (T e).size))[j]? = some u → w.cell? ((⟨b, 0, none⟩ : Addr).add j) = some u := by
            intro j u hju
            rw [List.getElem?_take] at hju
            split at hju
            · rw [add_lit]; simp only [World.cell?, g4]; simpa using hju
            · cases hju
          have hol : (vs.toList.take (es.length * (T e).size)).length = es.length * (T e).size := by rw [List.length_take, show vs.toList.length = vs.size from rfl]; omega
          have hrun := run_append_grow (P := P) w t ty e i z hK hi hz ⟨b, 0, none⟩ es.length cap0 (vs.toList.take (es.length * (T e).size)) (by rw [hsz]; exact hol) hold ad m cap news (by rw [hsz]; exact q1) q2 (by omega) (by omega) (growslice_fits (by omega) (hfitb _ (by omega)))
          obtain ⟨φ', k1, k2, k3⟩ := moved _ cap0 hol (fun j c hj => by
            obtain ⟨x, x1, x2, x3⟩ := g6 j c hj
            have hjl := lookupD hj
            rw [hfe] at hjl
            exact ⟨x, by rw [List.getElem?_take, if_pos hjl]; simpa using x1, x2, x3⟩)
          exact ⟨_, _, S, φ', hrun, k1, k2, k3⟩
end
end Go.Abs
