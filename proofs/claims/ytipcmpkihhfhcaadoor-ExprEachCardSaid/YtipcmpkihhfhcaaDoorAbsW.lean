/-
  Fresh slices: a call's result that its caller may append to.
-/
import Derived.Test.YtipcmpkihhfhcaaDoorAbsR
namespace Go.Abs
open Go

theorem swap_sound {S S' : Addr → Prop} {φ φ' : Nat → Loc} {w w' : World} {h h1 junk : List Blk} {e : TypeId} {sz n k : Nat} (hr : R S φ h w) (hr' : R S' φ' (h1 ++ junk) w') (he : Ext S φ h w S' φ' (h1 ++ junk) w') (hc : Chg h.length h h1)
    (hk : (h1 ++ junk)[k]? = some (.tok e sz n)) (hkl : h.length ≤ k) :
    let φ'' : Nat → Loc := fun j => if j < h.length then φ' j else if j = h.length then φ' k else .no
    R S' φ'' (h1 ++ [.tok e sz n]) w' ∧ Ext S φ h w S' φ'' (h1 ++ [.tok e sz n]) w' := by
  intro φ''
  obtain ⟨hl, hat⟩ := hc.at
  have hf : ∀ j, j < h.length → φ'' j = φ' j := fun j hj => by simp only [φ'']; rw [if_pos hj]
  have hmid : φ'' h.length = φ' k := by simp [φ'']
  have hno : ∀ j, h.length < j → φ'' j = .no := fun j hj => by simp only [φ'']; rw [if_neg (by omega), if_neg (by omega)]
  have hle : ∀ j, (φ j).le (φ'' j) := by
    intro j
    rcases Nat.lt_or_ge j h.length with g | g
    · rw [hf j g]; exact he.loc j
    · rw [hr.fresh j g]; trivial
  have hin : ∀ (j : Nat) y, (h1 ++ [Blk.tok e sz n])[j]? = some y → (j < h.length ∧ h1[j]? = some y ∧ (h1 ++ junk)[j]? = some y) ∨ (j = h.length ∧ y = .tok e sz n) := by
    intro j y hj
    rcases Nat.lt_or_ge j h1.length with g | g
    · rw [List.getElem?_append_left g] at hj
      exact .inl ⟨by omega, hj, by rw [List.getElem?_append_left g]; exact hj⟩
    · rw [List.getElem?_append_right g] at hj
      have : j - h1.length = 0 := by
        rcases Nat.eq_zero_or_pos (j - h1.length) with q | q
        · exact q
        · rw [List.getElem?_eq_none (by simp; omega)] at hj; cases hj
      rw [this] at hj
      simp at hj
      exact .inr ⟨by omega, hj.symm⟩
  have hlow : ∀ (j : Nat) y, h1[j]? = some y → BlwBlk h.length y := by
    intro j y hj
    rcases hat j y hj with g | g
    · exact RB.blw (fun i hi => hr.fresh i hi) (hr.blk j _ g)
    · exact g
  have hown : ∀ b, Owns φ'' (h1 ++ [.tok e sz n]) b → Owns φ' (h1 ++ junk) b := by
    rintro b ⟨j, x, hj, hb⟩
    rcases hin j x hj with ⟨g1, _, g2⟩ | ⟨rfl, rfl⟩
    · exact ⟨j, x, g2, by rw [← hf j g1]; exact hb⟩
    · exact ⟨k, _, hk, by rw [← hmid]; exact hb⟩
  refine ⟨⟨fun j x hj => ?_, fun j j' x x' b hj hj' hb hb' => ?_, hr'.bnd, fun j hj => hno j (by simp at hj; omega)⟩, ⟨he.os, he.tape, he.output, he.size, he.keep, he.sub, he.cell, hle, he.new, fun b hb => he.own b (hown b hb)⟩⟩
  · rcases hin j x hj with ⟨g1, g3, g2⟩ | ⟨rfl, rfl⟩
    · exact RB.low hf g1 (hr'.blk j x g2) (hlow j x g3)
    · obtain ⟨u, q1, q2⟩ := hr'.blk k _ hk
      exact ⟨u, by rw [hmid]; exact q1, q2⟩
  · rcases hin j x hj with ⟨g1, _, g2⟩ | ⟨rfl, rfl⟩
    · rw [hf j g1] at hb
      rcases hin j' x' hj' with ⟨q1, _, q2⟩ | ⟨rfl, rfl⟩
      · rw [hf j' q1] at hb'
        exact hr'.inj j j' x x' b g2 q2 hb hb'
      · rw [hmid] at hb'
        have := hr'.inj j k x _ b g2 hk hb hb'
        omega
    · rw [hmid] at hb
      rcases hin j' x' hj' with ⟨q1, _, q2⟩ | ⟨rfl, rfl⟩
      · rw [hf j' q1] at hb'
        have := hr'.inj k j' _ x' b hk q2 hb hb'
        omega
      · rfl

section
variable {P : Program} {T : TypeId → TI} {s : List AV} {h : List Blk} {c : Code}

/-- What the end of a function must be whose result is a fresh slice, with its token at the caller's next place. -/
def FinT (T : TypeId → TI) (rs : List ResultVar) (h : List Blk) (e : TypeId) (sz : Nat) (l : List AV) (K : AV → List Blk → Prop) (s : List AV) (h' : List Blk) : Prop :=
  ∃ h1 junk k, resAV T s h' rs = some [.lst sz l (some k)] ∧ h' = h1 ++ junk ∧ Chg h.length h h1 ∧ h.length ≤ k ∧ h'[k]? = some (.tok e sz l.length) ∧ (∀ c ∈ flat l, Blw h.length c) ∧
    K (.lst sz l (some h.length)) (h1 ++ [.tok e sz l.length])

theorem acallT_of_vc (hT : TabOK P T) {f : FuncId} {fn : Func} (hf : P.funcs[f]? = some fn) (hname : (fn.name == "runtime.NumGoroutine") = false) (hb : fn.body = some c) {args : List AV} {K : AV → List Blk → Prop}
    {n : Nat} (hn : fn.ntmps = n) {rs : List ResultVar} (hrs : fn.results.toList = rs) {e : TypeId} {sz : Nat} {l : List AV}
    (hv : vc P T c (finPost (FinT T rs h e sz l K)) (args ++ List.replicate (n - args.length) (.tup [])) h) : ACall P f args h K := by
  intro S φ w vs hr hargs
  refine ⟨run_callFunc hf hname (by rw [hb]; rfl) vs w, ?_⟩
  have htmps : CAll S w φ (args ++ List.replicate (n - args.length) (.tup [])) (vs ++ Array.replicate (fn.ntmps - vs.size) undef) := by
    refine hargs.append ⟨by rw [Array.size_replicate, List.length_replicate, hn, hargs.1], fun i x v hx hv => ?_⟩
    rw [List.getElem?_replicate] at hx
    rw [Array.getElem?_replicate] at hv
    split at hx
    · split at hv
      · cases hx; cases hv; exact C.undef_
      · cases hv
    · cases hx
  refine calls_of_vc hT hf hb hv htmps hr ?_
  intro tmps s' h' S' φ' w' hG hs' hr' he
  revert hG
  rintro ⟨h1, junk, k, hl, rfl, hchg, hkl, hk, hbl, hKr⟩
  obtain ⟨k1, k2⟩ := swap_sound hr hr' he hchg hk hkl
  have g3 := results_plain hT hs' hr' (fn := fn) (a := { tmps := tmps, defers := [] }) (by rw [hrs]; exact hl)
  obtain ⟨v', e1, e2⟩ := g3
  refine ⟨v', e1, v', _, _, S', _, rfl, hKr, ?_, k1, k2⟩
  have hlow : ∀ j, j < h.length → (fun j => if j < h.length then φ' j else if j = h.length then φ' k else Loc.no) j = φ' j := fun j hj => by simp [hj]
  have e3 : C S' w' φ' (.lst sz l (some k)) v' := e2
  cases e3 with
  | lst _ _ _ a len cap u hlen hcap hmax hsz hm hc h1' ht =>
    exact .lst sz l _ a len cap u hlen hcap hmax hsz hm (fun j c hj => Blw.C hlow (hc j c hj) (hbl c (List.mem_of_getElem? hj))) h1' (by simpa [TokOK] using ht)
  | lstnil _ _ ht => exact .lstnil _ _ (by simpa [TokOK] using ht)

/-- A slot that holds no slice becomes an empty list with a token. -/
theorem ghost_tok (t : Nat) (e : TypeId) (sz : Nat) (ht : s[t]? = some (.raw (.slice none 0 0))) : Ghost s h (s.set t (.lst sz [] (some h.length))) (h ++ [.tok e sz 0]) := by
  intro S φ w vs hs hr
  obtain ⟨k1, k2⟩ := hr.push (l := .tok 0 (.slice none 0 0)) (x := .tok e sz 0) (S' := S) (w' := w) rfl rfl rfl (Nat.le_refl _) (fun _ _ => rfl) (fun _ h => h) (fun _ h => .inl h) hr.bnd
    ⟨_, upd_same _ _ _, .inl ⟨rfl, rfl⟩⟩ (fun b hb => by simp [blockOf] at hb)
  refine ⟨S, _, ?_, k1, k2⟩
  have hs' := k2.CAll hs
  obtain ⟨v, hv, hc⟩ := hs.at ht
  cases hc
  have := hs'.set t (C.lstnil (S := S) (w := w) sz (some h.length) ⟨_, _, upd_same _ _ _, Nat.le_refl _, fun _ => rfl⟩)
  have e : vs.setIfInBounds t (.slice none 0 0) = vs := by
    apply Array.ext
    · simp
    · intro i h1 h2
      by_cases ei : t = i
      · subst ei
        have hv' : vs[t] = .slice none 0 0 := by
          rw [Array.getElem?_eq_getElem h2] at hv
          exact Option.some.inj hv
        simp [hv']
      · simp [h2, ei]
  rw [e] at this
  exact this

theorem R.recell {S : Addr → Prop} {φ : Nat → Loc} {w : World} {k : Nat} {t : TypeId} {cs cs' : List AV} (r : R S φ h w) (hk : h[k]? = some (.cells t cs)) (hc : ∀ vs, CAll S w φ cs vs → CAll S w φ cs' vs) :
    R S φ (h.set k (.cells t cs')) w ∧ Ext S φ h w S φ (h.set k (.cells t cs')) w := by
  have hkl : k < h.length := by obtain ⟨a, _⟩ := List.getElem?_eq_some_iff.1 hk; exact a
  have hin : ∀ (j : Nat) x, (h.set k (.cells t cs'))[j]? = some x → (j = k ∧ x = .cells t cs') ∨ (j ≠ k ∧ h[j]? = some x) := by
    intro j x hj
    rw [List.getElem?_set] at hj
    split at hj
    · rename_i e
      subst e
      cases hj
      exact .inl ⟨rfl, rfl⟩
    · exact .inr ⟨fun e => by subst e; contradiction, hj⟩
  have hback : ∀ (j : Nat) x b, (h.set k (.cells t cs'))[j]? = some x → blockOf (φ j) x = some b → ∃ y, h[j]? = some y ∧ blockOf (φ j) y = some b := by
    intro j x b hj hb
    rcases hin j x hj with ⟨rfl, rfl⟩ | ⟨_, g⟩
    · refine ⟨_, hk, ?_⟩
      cases hl : φ j <;> rw [hl] at hb <;> simp [blockOf] at hb ⊢ <;> exact hb
    · exact ⟨x, g, hb⟩
  refine ⟨⟨fun j x hj => ?_, fun j j' x x' b hj hj' hb hb' => ?_, r.bnd, fun j hj => r.fresh j (by simpa using hj)⟩, ⟨rfl, rfl, rfl, Nat.le_refl _, fun _ _ _ => rfl, fun _ h => h, fun _ _ => rfl, fun _ => Loc.le_refl _, fun _ h => .inl h, ?_⟩⟩
  · rcases hin j x hj with ⟨rfl, rfl⟩ | ⟨_, g⟩
    · obtain ⟨b, vs, h1, h2, h3, h4, h5⟩ := r.blk j _ hk
      exact ⟨b, vs, h1, h2, hc vs h3, h4, h5⟩
    · exact r.blk j x g
  · obtain ⟨y, g1, g2⟩ := hback j x b hj hb
    obtain ⟨y', g3, g4⟩ := hback j' x' b hj' hb'
    exact r.inj j j' y y' b g1 g3 g2 g4
  · rintro b ⟨j, x, hj, hb⟩
    obtain ⟨y, g1, g2⟩ := hback j x b hj hb
    exact .inl ⟨j, y, g1, g2⟩

theorem CAll.nil_tok {S : Addr → Prop} {φ : Nat → Loc} {w : World} {m i : Nat} {cs : List AV} {vs : Array Value} (sz : Nat) (hs : CAll S w φ cs vs) (ht : cs[i]? = some (.raw (.slice none 0 0))) (hm : TokOK φ (some m) 0 (.slice none 0 0)) : CAll S w φ (cs.set i (.lst sz [] (some m))) vs := by
  obtain ⟨v, hv, hc⟩ := hs.at ht
  cases hc
  have := hs.set i (C.lstnil (S := S) (w := w) sz (some m) hm)
  have e : vs.setIfInBounds i (.slice none 0 0) = vs := by
    apply Array.ext
    · simp
    · intro j h1 h2
      by_cases ei : i = j
      · subst ei
        have hv' : vs[i] = .slice none 0 0 := by
          rw [Array.getElem?_eq_getElem h2] at hv
          exact Option.some.inj hv
        simp [hv']
      · simp [h2, ei]
  rw [e] at this
  exact this

/-- A cell that holds no slice comes to hold an empty list with a token. -/
theorem ghost_cell (k i : Nat) (e : TypeId) (sz : Nat) {t : TypeId} {cs : List AV} (hk : h[k]? = some (.cells t cs)) (ht : cs[i]? = some (.raw (.slice none 0 0))) :
    Ghost s h s ((h ++ [Blk.tok e sz 0]).set k (Blk.cells t (cs.set i (.lst sz [] (some h.length))))) := by
  intro S φ w vs hs hr
  obtain ⟨k1, k2⟩ := hr.push (l := .tok 0 (.slice none 0 0)) (x := .tok e sz 0) (S' := S) (w' := w) rfl rfl rfl (Nat.le_refl _) (fun _ _ => rfl) (fun _ h => h) (fun _ h => .inl h) hr.bnd
    ⟨_, upd_same _ _ _, .inl ⟨rfl, rfl⟩⟩ (fun b hb => by simp [blockOf] at hb)
  obtain ⟨q1, q2⟩ := k1.recell (k := k) (t := t) (cs := cs) (cs' := cs.set i (.lst sz [] (some h.length)))
    (by rw [List.getElem?_append_left (by obtain ⟨a, _⟩ := List.getElem?_eq_some_iff.1 hk; exact a)]; exact hk)
    (fun vs hc => hc.nil_tok sz ht ⟨_, _, upd_same _ _ _, Nat.le_refl _, fun _ => rfl⟩)
  exact ⟨S, _, q2.CAll (k2.CAll hs), q1, k2.trans q2⟩

/-- A contract in the empty heap whose result is a fresh slice, in any heap. -/
theorem tcall {f : FuncId} {args : List AV} {e : TypeId} {sz : Nat} {l : List AV} {K : AV → List Blk → Prop} (hv : ∀ KK : AV → List Blk → Prop, KK (.lst sz l (some 0)) [.tok e sz l.length] → ACall P f args [] KK)
    (pa : ∀ x ∈ args, Pure x) (pl : ∀ c ∈ flat l, Pure c) (hK : K (.lst sz l (some h.length)) (h ++ [.tok e sz l.length])) : ACall P f args h K := by
  intro S φ w vs hr hargs
  obtain ⟨henter, hcalls⟩ := hv (fun r h' => r = .lst sz l (some 0) ∧ h' = [.tok e sz l.length]) ⟨rfl, rfl⟩ S (fun _ => .no) w vs (R.nil hr.bnd) (hargs.pure _ pa)
  refine ⟨henter, Calls.mono hcalls ?_⟩
  rintro e' w' ⟨v, r, h', S', φ', rfl, ⟨rfl, rfl⟩, hc, hr', he⟩
  obtain ⟨u, q1, q2⟩ := hr'.blk 0 _ rfl
  obtain ⟨k1, k2⟩ := hr.push (l := φ' 0) (x := .tok e sz l.length) he.os he.tape he.output he.size (fun b hb => he.keep b hb no_owns) he.sub (fun a ha => (he.new a ha).imp_right (fun x => x.resolve_right no_owns)) hr'.bnd
    ⟨u, by rw [upd_same, q1], q2⟩ (fun b hb => (he.own b ⟨0, _, rfl, hb⟩).resolve_left no_owns)
  refine ⟨v, _, _, S', _, rfl, hK, ?_, k1, k2⟩
  cases hc with
  | lst _ _ _ a len cap u hlen hcap hmax hsz hm hc h1' ht =>
    exact .lst sz l _ a len cap u hlen hcap hmax hsz hm (fun j c hj => (hc j c hj).pure _ (pl c (List.mem_of_getElem? hj))) h1' (by simpa [TokOK, upd_same] using ht)
  | lstnil _ _ ht => exact .lstnil _ _ (by simpa [TokOK, upd_same] using ht)

theorem finTk {rs : List ResultVar} {e : TypeId} {sz : Nat} {l l0 : List AV} {k n : Nat} {h' : List Blk} {KK : AV → List Blk → Prop} (hk0 : KK (.lst sz l (some 0)) [.tok e sz l.length]) (hl : resAV T s h' rs = some [.lst sz l0 (some k)]) (hll : l0 = l) (hk : h'[k]? = some (.tok e sz n)) (hn : n = l.length)
    (hb : ∀ c ∈ flat l, Go.Abs.Pure c) : FinT T rs [] e sz l KK s h' := by
  subst hll hn
  exact ⟨[], h', k, hl, rfl, .refl _ _, Nat.zero_le _, hk, fun c hc => Blw.pure (hb c hc), hk0⟩
attribute [irreducible] FinT
end
end Go.Abs
