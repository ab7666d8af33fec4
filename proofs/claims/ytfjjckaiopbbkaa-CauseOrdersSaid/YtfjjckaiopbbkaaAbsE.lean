/-
  The abstract layer, part E: 'stepPure' is sound.
-/
import Derived.Test.YtfjjckaiopbbkaaAbsD
import Derived.Laws.StructEq
namespace Go.Abs
open Go.RowKit

section
variable {P : Program} {T : TypeId → TI} {S : Addr → Prop} {w : World} {φ : Nat → Loc} {s : List AV} {h : List Blk} {a : Act}

theorem asNext_bind (m : Sem Value) : (do pure (Next.value (← m)) : Sem Next).run P w = asNext (m.run P w) := by
  simp only [Sem.run_bind, asNext]
  rfl

theorem lookupD {α : Type} {l : List α} {i : Nat} {x : α} (h : l[i]? = some x) : i < l.length := (List.getElem?_eq_some_iff.1 h).1

theorem field_at {F : Array Field} {fs : List (Nat × TypeId)} (hF : F.toList.map (fun f => (f.offset, f.type)) = fs) {i : Nat} {off : Nat} {ft : TypeId} (h : fs[i]? = some (off, ft)) :
    ∃ f, F[i]? = some f ∧ f ∈ F.toList ∧ f.offset = off ∧ f.type = ft := by
  subst hF
  rw [List.getElem?_map, Option.map_eq_some_iff] at h
  obtain ⟨f, hf, e⟩ := h
  simp only [Prod.mk.injEq] at e
  exact ⟨f, by simpa using hf, List.mem_of_getElem? hf, e.1, e.2⟩

theorem run_fieldAt {t : TypeId} {F : Array Field} {i : Nat} {f : Field} (ht : P.underlying t = some (.struct F)) (hf : F[i]? = some f) (hz : ∃ j, P.info? f.type = some j ∧ j.size ≠ 0) (ad : Addr) :
    (Instr.fieldAt t (.pointer (some ad)) i).run P w = .ok (.pointer (some (ad.add f.offset))) w := by
  obtain ⟨j, hj, hne⟩ := hz
  simp [Instr.fieldAt, run_underlying ht, hf, Instr.sureAddr, fieldPlace, sizeOf, typeInfo, hj, hne]

theorem part_sound {t : TypeId} (hT : TIok P t (T t)) (hk : (T t).kind ≠ .other) {cs : List AV} {vs : Array Value} (hc : CAll S w φ cs vs) (h1 : ∀ v ∈ vs.toList, v.oneCell' = true) (off : Nat) :
    (loadAV (T t) (cs.drop off)).sound S w φ (asNext ((part t vs off).run P w)) := by
  unfold loadAV
  simp only [part, Sem.run_bind, run_isAgg hT hk, Result.andThen_ok]
  cases hag : (T t).agg with
  | true =>
    simp only [if_true, Sem.run_bind, run_size hT hk, Result.andThen_ok, Sem.run_pure]
    split
    · rename_i l hl
      obtain ⟨e1, e2⟩ := takeN_eq hl
      have hle : off + (T t).size ≤ cs.length ∨ (T t).size = 0 := by
        rcases Nat.eq_zero_or_pos (T t).size with h0 | h0
        · exact .inr h0
        · have := e2 ((T t).size - 1) (by omega)
          rw [List.getElem?_eq_getElem (by omega), List.getElem?_drop] at this
          have := lookupD this.symm
          left; omega
      refine PR.sound_ok (u := .agg (vs.extract off (off + (T t).size))) rfl (.agg l _ ?_ (fun i c v hc' hv => ?_) (fun v hv => ?_))
      · rw [Array.size_extract, hc.1, e1]; omega
      · rw [Array.getElem?_extract] at hv
        split at hv
        · rw [e2 i (by rw [← e1]; exact lookupD hc'), List.getElem?_drop] at hc'
          exact hc.2 _ c v hc' hv
        · cases hv
      · rw [Array.toList_extract] at hv
        exact h1 v (List.mem_of_mem_drop (List.mem_of_mem_take hv))
    · trivial
  | false =>
    simp only [Bool.false_eq_true, if_false]
    cases hd : cs.drop off with
    | nil => trivial
    | cons c r =>
      have : cs[off]? = some c := by
        have := congrArg (fun l => l[0]?) hd
        simpa [List.getElem?_drop] using this
      obtain ⟨u, hu, hcu⟩ := hc.at this
      simp only [hu]
      exact PR.sound_ok (u := u) rfl hcu

theorem raw_all (vs : Array Value) : CAll S w φ (vs.toList.map .raw) vs := CAll.map_raw vs.toList

/-- What the parts of a struct literal are put into. -/
theorem putAt_sound : ∀ (new : List AV) (us : List Value) (cells : List AV) (vs : Array Value) (off : Nat), new.length = us.length → (∀ (i : Nat) c u, new[i]? = some c → us[i]? = some u → C S w φ c u) → (∀ u ∈ us, u.oneCell' = true) →
    CAll S w φ cells vs → (∀ v ∈ vs.toList, v.oneCell' = true) →
    CAll S w φ (putAt cells off new) ((us.zipIdx).foldl (fun cs (c, j) => cs.setIfInBounds (off + j) c) vs) ∧ (∀ v ∈ ((us.zipIdx).foldl (fun cs (c, j) => cs.setIfInBounds (off + j) c) vs).toList, v.oneCell' = true) := by
  have key : ∀ (new : List AV) (us : List Value) (cells : List AV) (vs : Array Value) (off k : Nat), new.length = us.length → (∀ (i : Nat) c u, new[i]? = some c → us[i]? = some u → C S w φ c u) → (∀ u ∈ us, u.oneCell' = true) →
      CAll S w φ cells vs → (∀ v ∈ vs.toList, v.oneCell' = true) →
      CAll S w φ (putAt cells (off + k) new) ((us.zipIdx k).foldl (fun cs (c, j) => cs.setIfInBounds (off + j) c) vs) ∧ (∀ v ∈ ((us.zipIdx k).foldl (fun cs (c, j) => cs.setIfInBounds (off + j) c) vs).toList, v.oneCell' = true) := by
    intro new
    induction new with
    | nil =>
      intro us cells vs off k hl _ _ h1 h2
      cases us with
      | nil => exact ⟨h1, h2⟩
      | cons u us => simp at hl
    | cons c new ih =>
      intro us cells vs off k hl hc ho h1 h2
      cases us with
      | nil => simp at hl
      | cons u us =>
        simp only [List.zipIdx_cons, List.foldl_cons, putAt]
        have e : off + k + 1 = off + (k + 1) := by omega
        rw [e]
        refine ih us _ _ off (k + 1) (by simpa using hl) (fun i c u hi hu => hc (i + 1) c u (by simpa using hi) (by simpa using hu)) (fun u hu => ho u (by simp [hu])) (h1.set _ (hc 0 c u rfl rfl)) (fun v hv => ?_)
        rw [Array.toList_setIfInBounds] at hv
        rcases List.mem_or_eq_of_mem_set hv with hv | rfl
        · exact h2 v hv
        · exact ho _ (by simp)
  intro new us cells vs off
  exact key new us cells vs off 0

theorem fill_sound (place : Nat → Option (Nat × Nat)) : ∀ (parts : List (Nat × AV)) (vparts : List (Nat × Value)) (cells out : List AV) (vs : Array Value),
    parts.length = vparts.length → (∀ (i : Nat) p q, parts[i]? = some p → vparts[i]? = some q → p.1 = q.1 ∧ C S w φ p.2 q.2) → CAll S w φ cells vs → (∀ v ∈ vs.toList, v.oneCell' = true) →
    fillAV place cells parts = some out → ∃ us, Instr.fill place vs vparts = some us ∧ CAll S w φ out us ∧ (∀ v ∈ us.toList, v.oneCell' = true) := by
  intro parts
  induction parts with
  | nil =>
    intro vparts cells out vs hl _ h1 h2 hf
    cases vparts with
    | nil => simp only [fillAV] at hf; cases hf; exact ⟨vs, rfl, h1, h2⟩
    | cons p ps => simp at hl
  | cons p parts ih =>
    intro vparts cells out vs hl hc h1 h2 hf
    cases vparts with
    | nil => simp at hl
    | cons q vparts =>
      obtain ⟨i, v⟩ := p
      obtain ⟨j, u⟩ := q
      obtain ⟨e, hvu⟩ := hc 0 _ _ rfl rfl
      simp only at e hvu
      subst e
      simp only [fillAV] at hf
      split at hf
      · cases hf
      · rename_i off size hp
        split at hf
        · rename_i g1 g2 g3
          have g1 := of_decide_eq_true g1
          have g2 := of_decide_eq_true g2
          have hnt : ∀ cs, v ≠ .tup cs := by
            intro cs e
            subst e
            simp [AV.cells, AV.one] at g3
          have hcs := hvu.cells hnt
          have hus : ∀ x ∈ u.cells.toList, x.oneCell' = true := by
            intro x hx
            obtain ⟨k, hk, hkx⟩ := List.getElem_of_mem hx
            have hk' : u.cells[k]? = some x := by rw [← hkx]; simp
            have hkl : k < v.cells.length := by rw [← hcs.1]; simpa using hk
            have := hcs.2 k _ x (List.getElem?_eq_getElem hkl) hk'
            exact this.one (List.all_eq_true.1 g3 _ (List.getElem_mem _))
          have hput := putAt_sound (S := S) (w := w) (φ := φ) v.cells u.cells.toList cells vs off (by simpa using hcs.1.symm) (fun i c x hi hx => hcs.2 i c x hi (by simpa using hx)) hus h1 h2
          obtain ⟨us, h3, h4⟩ := ih vparts _ out _ (by simpa using hl) (fun i p q hi hq => hc (i + 1) p q (by simpa using hi) (by simpa using hq)) hput.1 hput.2 hf
          refine ⟨us, ?_, h4⟩
          simp only [Instr.fill, hp]
          have e1 : u.cells.size = size := by rw [hcs.1, g1]
          have e2 : vs.size = cells.length := h1.1
          rw [if_neg (by simp [e1, e2]; omega)]
          rw [← Array.foldl_toList, Array.toList_zipIdx]
          exact h3
        · cases hf

theorem opds (hs : CAll S w φ s a.tmps) : ∀ (l : List Operand), CAll S w φ (l.map (opd s)) (l.map a.eval).toArray
  | [] => CAll.nil
  | x :: l => CAll.cons (C.opd hs x) (opds hs l)

theorem opdo (hs : CAll S w φ s a.tmps) (o : Option Operand) : o.map (opd s) = none ∧ o.map a.eval = none ∨ ∃ x y, o.map (opd s) = some x ∧ o.map a.eval = some y ∧ C S w φ x y := by
  cases o with
  | none => exact .inl ⟨rfl, rfl⟩
  | some x => exact .inr ⟨_, _, rfl, rfl, C.opd hs x⟩


theorem part_run (hT : TabOK P T) {ft : TypeId} (hk : (T ft).kind ≠ .other) {cs : List AV} {vs : Array Value} (hc : CAll S w φ cs vs) (h1 : ∀ v ∈ vs.toList, v.oneCell' = true) {off : Nat} {x : AV} (hl : loadAV (T ft) (cs.drop off) = .ok x) :
    ∃ u, (part ft vs off).run P w = .ok u w ∧ C S w φ x u := by
  have := part_sound (P := P) (T := T) (hT ft) hk hc h1 off
  rw [hl] at this
  obtain ⟨u, hu, hcu⟩ := this
  refine ⟨u, ?_, hcu⟩
  generalize (part ft vs off).run P w = r at hu
  cases r with
  | ok v w' => simp only [asNext, Result.andThen_ok, Result.ok.injEq, Next.value.injEq] at hu; obtain ⟨rfl, rfl⟩ := hu; rfl
  | halt x w' => simp [asNext, Result.andThen] at hu

theorem eqV_sound (hT : TabOK P T) : ∀ (d k : Nat) {t : TypeId} {a b : AV} {u v : Value} {p : Bool}, C S w φ a u → C S w φ b v → eqV T d t a b = some p → (Op.equalIn (d + k) t u v).run P w = .ok p w
  | 0, k, t, a, b, u, v, p, _, _, h => by simp [eqV] at h
  | d + 1, k, t, a, b, u, v, p, ha, hb, h => by
    rw [show d + 1 + k = (d + k) + 1 by omega]
    unfold eqV at h
    split at h
    · rename_i k' q1 x q2 y hk
      cases ha; cases hb
      split at h
      case h_2 => cases h
      rename_i hkk
      have hkk := kEq_eq hkk
      subst hkk
      cases h
      obtain ⟨_, _, _, _, _, _, _, _, _, _, _, hK⟩ := (hT t).known (by rw [hk]; simp)
      rw [hk] at hK
      simp [Op.equalIn, run_underlying hK]
    · rename_i x y hk
      cases ha; cases hb; cases h
      obtain ⟨_, _, _, _, _, _, _, _, _, _, _, hK⟩ := (hT t).known (by rw [hk]; simp)
      rw [hk] at hK
      simp [Op.equalIn, run_underlying hK, beq_toListBytes]
    · rename_i x y hk
      cases ha; cases hb; cases h
      obtain ⟨_, _, _, _, _, _, _, _, _, _, _, hK⟩ := (hT t).known (by rw [hk]; simp)
      rw [hk] at hK
      exact run_equalIn_bool w _ t x y hK
    · rename_i fs cs ds hk
      obtain ⟨_, _, _, _, _, _, _, _, _, _, _, hK⟩ := (hT t).known (by rw [hk]; simp)
      rw [hk] at hK
      obtain ⟨F, hu, hF, hn, _, hst, _⟩ := hK
      have hfo : P.fieldsOf t = F := by simp [Program.fieldsOf, hu]
      cases ha with
      | agg _ us hl hc h1 =>
      cases hb with
      | agg _ vs hl' hc' h1' =>
      rw [run_equalIn_struct w (d + k) t us vs (by rw [hfo]; exact hu) hst, hfo]
      subst hF
      have key : ∀ (G : List Field) (p : Bool), (∀ f ∈ G, f.name ≠ "_") → eqFs (eqV T d) T cs ds (G.map fun f => (f.offset, f.type)) = some p → (Op.eqFields (d + k) us vs G).run P w = .ok p w := by
        intro G
        induction G with
        | nil => intro p _ hp; simp only [List.map_nil, eqFs] at hp; cases hp; rfl
        | cons f G ih =>
          intro p hnm hp
          simp only [List.map_cons, eqFs] at hp
          split at hp
          · cases hp
          · rename_i hko
            split at hp
            · rename_i x y hx hy
              split at hp
              · rename_i p1 p2 hp1 hp2
                cases hp
                obtain ⟨ux, hux, hcx⟩ := part_run hT hko ⟨hl, hc⟩ h1 hx
                obtain ⟨uy, huy, hcy⟩ := part_run hT hko ⟨hl', hc'⟩ h1' hy
                have he := eqV_sound hT d k hcx hcy hp1
                simp only [Op.eqFields]
                rw [if_pos (hnm f (by simp))]
                simp only [Sem.run_bind, hux, huy, he, Result.andThen_ok]
                cases p1 with
                | false => rfl
                | true => exact ih p2 (fun g hg => hnm g (by simp [hg])) hp2
              · cases hp
            · cases hp
      exact key F.toList p (fun f hf => hn f (by simpa using hf)) h
    · cases h

theorem structAV_sound (hT : TabOK P T) {t : TypeId} (hk : ∃ fs, (T t).kind = .struct fs) (op : BinOp) (x y : Operand) {p q : AV} {u v : Value} (hu : C S w φ p u) (hv : C S w φ q v) :
    (structAV T t op p q).sound S w φ (asNext (Sem.run P (do eqGuard op t x y u v; binOp op t u v) w)) := by
  unfold structAV
  have agg : ∀ {a : AV} {u : Value}, C S w φ a u → isAggAV a = true → ∃ us, u = .agg us ∧ C S w φ (.agg a.cells) u := by
    intro a z hc ha
    cases a with
    | agg cs =>
      cases hc with
      | agg _ vs hl h h1 => exact ⟨vs, rfl, .agg cs vs hl h h1⟩
    | raw x =>
      have e : x = z := by cases hc; rfl
      subst e
      cases x with
      | agg vs =>
        simp only [isAggAV, List.all_eq_true] at ha
        have hm := CAll.map_raw (S := S) (w := w) (φ := φ) vs.toList
        exact ⟨vs, rfl, .agg _ _ (by simp [AV.cells]) (by simpa [AV.cells] using hm.2) ha⟩
      | _ => simp [isAggAV] at ha
    | _ => simp [isAggAV] at ha
  split
  · rename_i b h1 h2 h3
    obtain ⟨us, rfl, hcu⟩ := agg hu h1
    obtain ⟨vs, rfl, hcv⟩ := agg hv h2
    have he := eqV_sound (P := P) hT 6 9994 hcu hcv h3
    obtain ⟨fs, hk⟩ := hk
    obtain ⟨_, _, _, _, _, _, _, _, _, _, _, hK⟩ := (hT t).known (by rw [hk]; simp)
    rw [hk] at hK
    obtain ⟨F, hF, _, _, _, _, hg⟩ := hK
    split
    · exact PR.sound_ok (by simp only [Sem.run_bind, run_eqGuard_agg w .eql t x y us vs hg, Result.andThen_ok, run_eql_struct, he, asNext]) (.raw _)
    · exact PR.sound_ok (by simp only [Sem.run_bind, run_eqGuard_agg w .neq t x y us vs hg, Result.andThen_ok, run_neq_struct, he, asNext]) (.raw _)
    · trivial
  · trivial

end
end Go.Abs
