/-
  The abstract layer, part R: a loop's rule that keeps what the loop does not touch; calls that run in the caller's heap.
-/
import Derived.Test.YtipcmpkihhfhcaaDoorAbsO
namespace Go.Abs
open Go.RowKit

section
variable {P : Program} {T : TypeId → TI} {s s' : List AV} {h h' : List Blk} {Q : Post} {c : Code}

def carried (C : List (Nat × AV)) (t : Nat) : Option AV :=
  match C with
  | [] => none
  | (u, v) :: r => match Nat.beq u t with
    | true => some v
    | false => carried r t

def inD (D : List Nat) (t : Nat) : Bool :=
  match D with
  | [] => false
  | u :: r => match Nat.beq u t with
    | true => true
    | false => inD r t

/-- A state: the slots of C as told, those of D whatever they are, the others as in the given one. -/
def mixC (D : List Nat) (C : List (Nat × AV)) (j : Nat → AV) : Nat → List AV → List AV
  | _, [] => []
  | k, a :: l => (match carried C k with | some v => v | none => match inD D k with | true => j k | false => a) :: mixC D C j (k + 1) l

def Agree (C : List (Nat × AV)) (s : List AV) : Prop := ∀ p ∈ C, s[p.1]? = some p.2
theorem Agree.nil : Agree [] s := by intro p hp; simp at hp
theorem Agree.cons {C : List (Nat × AV)} {t : Nat} {v : AV} (h : s[t]? = some v) (hv : Agree C s) : Agree ((t, v) :: C) s := by
  intro p hp
  rcases List.mem_cons.1 hp with rfl | hp
  · exact h
  · exact hv p hp

def Fr (D : List Nat) (s s' : List AV) : Prop := s' = mixC D [] (fun k => s'.getD k (.tup [])) 0 s

theorem mixC_at (D : List Nat) (C : List (Nat × AV)) (j : Nat → AV) : ∀ (s : List AV) (k i : Nat), (mixC D C j k s)[i]? = s[i]?.map fun a => match carried C (k + i) with | some v => v | none => match inD D (k + i) with | true => j (k + i) | false => a
  | [], k, i => by simp [mixC]
  | a :: l, k, 0 => by simp [mixC]
  | a :: l, k, i + 1 => by
    simp only [mixC, List.getElem?_cons_succ]
    rw [mixC_at D C j l (k + 1) i]
    have : k + 1 + i = k + (i + 1) := by omega
    rw [this]

theorem carried_some {C : List (Nat × AV)} {t : Nat} {v : AV} (h : carried C t = some v) : (t, v) ∈ C := by
  induction C with
  | nil => cases h
  | cons p r ih =>
    obtain ⟨u, x⟩ := p
    simp only [carried] at h
    split at h
    · rename_i hb
      cases h
      rw [Nat.eq_of_beq_eq_true hb]
      simp
    · exact List.mem_cons_of_mem _ (ih h)

theorem mix_eq {D : List Nat} {C : List (Nat × AV)} (hf : Fr D s s') (ha : Agree C s') : s' = mixC D C (fun k => s'.getD k (.tup [])) 0 s := by
  apply List.ext_getElem?
  intro i
  rw [mixC_at]
  rw [Nat.zero_add]
  have hi : s'[i]? = (mixC D [] (fun k => s'.getD k (.tup [])) 0 s)[i]? := congrArg (fun l => l[i]?) hf
  rw [mixC_at, Nat.zero_add] at hi
  cases hc : carried C i with
  | none => rw [hi]; simp [carried]
  | some v =>
    have := ha _ (carried_some hc)
    simp only at this
    rw [this]
    rw [this] at hi
    cases hs : s[i]? with
    | none => rw [hs] at hi; simp at hi
    | some a => simp

/-- What a round comes to, the heap told with it. -/
def FrI (I : Nat → List (Nat × AV) → List Blk → Prop) (D : List Nat) (s : List AV) (n : Nat) (s' : List AV) (h' : List Blk) : Prop := ∃ C, I n C h' ∧ Agree C s' ∧ Fr D s s'

theorem fr_self (D : List Nat) (s : List AV) : Fr D s s := by
  apply List.ext_getElem?
  intro i
  rw [mixC_at]
  cases hs : s[i]? with
  | none => simp
  | some a =>
    simp only [Option.map_some, carried, Nat.zero_add, Option.some.injEq]
    split <;> simp [List.getD_eq_getElem?_getD, hs]

/-- **A loop: the invariant tells the slots that it carries; all that the loop does not touch stays.** -/
theorem loop_fr (D : List Nat) (I : Nat → List (Nat × AV) → List Blk → Prop) (n0 : Nat) (C0 : List (Nat × AV)) (hi : I n0 C0 h) (hc : Agree C0 s)
    (hstep : ∀ n C j h', I n C h' → vc P T c (LoopK (FrI I D s) n Q) (mixC D C j 0 s) h') : vc P T (.loop c) Q s h := by
  refine loop_rule (FrI I D s) n0 ⟨C0, hi, hc, fr_self D s⟩ ?_
  rintro n s' h' ⟨C, hI, ha, hf⟩
  have := hstep n C (fun k => s'.getD k (.tup [])) h' hI
  rw [← mix_eq hf ha] at this
  exact this

theorem loopFr {I : Nat → List (Nat × AV) → List Blk → Prop} {D : List Nat} {n : Nat} (m : Nat) (hm : m < n) {C : List (Nat × AV)} (hi : I m C h') (ha : Agree C s') (hf : Fr D s s') : LoopGo (FrI I D s) n s' h' := ⟨m, hm, C, hi, ha, hf⟩

/-- The heap stays. -/
theorem loop_frH (D : List Nat) (I : Nat → List (Nat × AV) → Prop) (n0 : Nat) (C0 : List (Nat × AV)) (hi : I n0 C0) (hc : Agree C0 s)
    (hstep : ∀ n C j, I n C → vc P T c (LoopK (FrI (fun n C h' => I n C ∧ h' = h) D s) n Q) (mixC D C j 0 s) h) : vc P T (.loop c) Q s h :=
  loop_fr D (fun n C h' => I n C ∧ h' = h) n0 C0 ⟨hi, rfl⟩ hc fun n C j h' hI => by obtain ⟨hI, rfl⟩ := hI; exact hstep n C j hI

theorem loopFrH {I : Nat → List (Nat × AV) → Prop} {D : List Nat} {n : Nat} (m : Nat) (hm : m < n) {C : List (Nat × AV)} (hi : I m C) (ha : Agree C s') (hf : Fr D s s') : LoopGo (FrI (fun n C h' => I n C ∧ h' = h) D s) n s' h := ⟨m, hm, C, ⟨hi, rfl⟩, ha, hf⟩

/-- The heap has more behind it. -/
def HExt (h h' : List Blk) : Prop := ∃ r, h' = h ++ r

/-- The heap gets more behind it. -/
theorem loop_frX (D : List Nat) (I : Nat → List (Nat × AV) → Prop) (n0 : Nat) (C0 : List (Nat × AV)) (hi : I n0 C0) (hc : Agree C0 s)
    (hstep : ∀ n C j r, I n C → vc P T c (LoopK (FrI (fun n C h' => I n C ∧ HExt h h') D s) n Q) (mixC D C j 0 s) (h ++ r)) : vc P T (.loop c) Q s h :=
  loop_fr D (fun n C h' => I n C ∧ HExt h h') n0 C0 ⟨hi, [], by simp⟩ hc fun n C j h' hI => by obtain ⟨hI, r, rfl⟩ := hI; exact hstep n C j r hI

theorem loopFrX {I : Nat → List (Nat × AV) → Prop} {D : List Nat} {n : Nat} (m : Nat) (hm : m < n) {C : List (Nat × AV)} (r : List Blk) (hi : I m C) (ha : Agree C s') (hf : Fr D s s') (hh : h' = h ++ r) : LoopGo (FrI (fun n C h' => I n C ∧ HExt h h') D s) n s' h' := ⟨m, hm, C, ⟨hi, r, hh⟩, ha, hf⟩

theorem Agree.next {C : List (Nat × AV)} {t i : Nat} (h : s[t]? = some (.raw (.int .i64 (IntKind.i64.wrap ((i : Int) + 1))))) (hi : i < 9223372036854775807) (hv : Agree C s) : Agree ((t, .raw (.int .i64 ((i + 1 : Nat) : Int))) :: C) s := by
  have : IntKind.i64.wrap ((i : Int) + 1) = ((i + 1 : Nat) : Int) := by rw [IntKind.wrap_i64]; omega
  rw [this] at h
  exact .cons h hv

theorem loop_ghost {s' : List AV} {h' : List Blk} (hg : Ghost s h s' h') (hv : vc P T (.loop c) Q s' h') : vc P T (.loop c) Q s h := by
  obtain ⟨s0, h0, hg', hn⟩ := hv
  exact ⟨s0, h0, hg.trans hg', hn⟩

/-- A slot that holds no slice becomes a slice of the call's own. -/
theorem ghost_own (t : Nat) (e : TypeId) (sz : Nat) (ht : s[t]? = some (.raw (.slice none 0 0))) : Ghost s h (s.set t (.own sz h.length 0)) (h ++ [.own e sz []]) := by
  intro S φ w vs hs hr
  obtain ⟨k1, k2⟩ := hr.push (l := .tok 0 (.slice none 0 0)) (x := .own e sz []) (S' := S) (w' := w) rfl rfl rfl (Nat.le_refl _) (fun _ _ => rfl) (fun _ h => h) (fun _ h => .inl h) hr.bnd
    ⟨_, upd_same _ _ _, by simp, .inl ⟨rfl, rfl⟩⟩ (fun b hb => by simp [blockOf] at hb)
  refine ⟨S, _, ?_, k1, k2⟩
  have hs' := k2.CAll hs
  obtain ⟨v, hv, hc⟩ := hs.at ht
  cases hc
  have := hs'.set t (C.own (S := S) (w := w) sz h.length 0 none 0 (Nat.le_refl _) (by simp [maxLen]) ⟨_, _, upd_same _ _ _, Nat.le_refl _, fun _ => rfl⟩)
  have e : vs.setIfInBounds t (.slice none 0 0) = vs := by
    apply Array.ext
    · simp
    · intro i h1 h2
      by_cases ei : t = i
      · subst ei
        have hv' : vs[t] = .slice none 0 0 := by
          rw [Array.getElem?_eq_getElem h2] at hv
          exact Option.some.inj hv
        simp [hv']
      · simp [h2, ei]
  rw [e] at this
  exact this

/-- Values that speak of the blocks below n alone. -/
inductive Blw (n : Nat) : AV → Prop where
  | raw (v : Value) : Blw n (.raw v)
  | agg (cs : List AV) (h : ∀ c ∈ cs, Blw n c) : Blw n (.agg cs)
  | tup (cs : List AV) (h : ∀ c ∈ cs, Blw n c) : Blw n (.tup cs)
  | lst (sz : Nat) (es : List AV) (tok : Option Nat) (h : ∀ c ∈ flat es, Blw n c) (ht : ∀ k, tok = some k → k < n) : Blw n (.lst sz es tok)
  | eptr (cs : List AV) (h : ∀ c ∈ cs, Blw n c) : Blw n (.eptr cs)
  | ptr (k off : Nat) (h : k < n) : Blw n (.ptr k off)
  | sl (sz k off len : Nat) (h : k < n) : Blw n (.sl sz k off len)
  | fn (f : Fn) (xs ys : List AV) (h : ∀ c ∈ xs, Blw n c) (h' : ∀ c ∈ ys, Blw n c) : Blw n (.fn f xs ys)
  | map (k : Nat) (h : k < n) : Blw n (.map k)
  | own (sz k m : Nat) (h : k < n) : Blw n (.own sz k m)

theorem Blw.pure {n : Nat} {a : AV} (h : Pure a) : Blw n a := by
  induction h with
  | raw v => exact .raw v
  | agg cs _ ih => exact .agg cs ih
  | tup cs _ ih => exact .tup cs ih
  | lst sz es _ ih => exact .lst sz es none ih (fun k e => by cases e)
  | eptr cs _ ih => exact .eptr cs ih
  | fn f xs ys _ _ ih ih' => exact .fn f xs ys ih ih'

section
variable {S : Addr → Prop} {φ φ' : Nat → Loc} {w : World}

/-- What is told under places that are none from n on speaks of the blocks below n. -/
theorem Blw.of_C {n : Nat} (hf : ∀ k, n ≤ k → φ k = .no) {a : AV} {v : Value} (h : C S w φ a v) : Blw n a := by
  have lt : ∀ {k : Nat}, φ k ≠ .no → k < n := fun {k} hk => by
    rcases Nat.lt_or_ge k n with g | g
    · exact g
    · exact absurd (hf k g) hk
  have all : ∀ {cs : List AV} {vs : Array Value}, vs.size = cs.length → (∀ (i : Nat) a v, cs[i]? = some a → vs[i]? = some v → Blw n a) → ∀ c ∈ cs, Blw n c := by
    intro cs vs hl h c hc
    obtain ⟨i, hi, rfl⟩ := List.getElem_of_mem hc
    exact h i _ vs[i] (List.getElem?_eq_getElem hi) (Array.getElem?_eq_getElem (by omega))
  have cells : ∀ {cs : List AV}, (∀ (j : Nat) c, cs[j]? = some c → Blw n c) → ∀ c ∈ cs, Blw n c := by
    intro cs h c hc
    obtain ⟨i, hi, rfl⟩ := List.getElem_of_mem hc
    exact h i _ (List.getElem?_eq_getElem hi)
  have tk : ∀ {tok : Option Nat} {len : Nat} {v : Value}, TokOK φ tok len v → ∀ k, tok = some k → k < n := by
    intro tok len v ht k e
    subst e
    obtain ⟨_, _, h1, _⟩ := ht
    exact lt (by rw [h1]; simp)
  induction h with
  | raw v => exact .raw v
  | agg cs vs hl h h1 ih => exact .agg cs (all hl ih)
  | tup cs vs hl h ih => exact .tup cs (all hl ih)
  | lst sz es tok a len cap u hlen hcap hmax hsz hm hc h1 ht ih => exact .lst sz es tok (cells ih) (tk ht)
  | lstnil sz tok ht => exact .lst sz [] tok (by simp [flat]) (tk ht)
  | eptr cs a u hm hc h1 ih => exact .eptr cs (cells ih)
  | ptr k off b h => exact .ptr k off (lt (by rw [h]; simp))
  | sl sz k off len b cap h hcap hmax => exact .sl sz k off len (lt (by rw [h]; simp))
  | fn f xs ys vs us hl hl' h h' ih ih' => exact .fn f xs ys (all hl ih) (all hl' ih')
  | map k b h => exact .map k (lt (by rw [h]; simp))
  | own sz k m a cap hcap hmax ht => exact .own sz k m (tk ht k rfl)

/-- What speaks of the blocks below n is told by the places below n. -/
theorem Blw.C {n : Nat} (hf : ∀ k, k < n → φ' k = φ k) {a : AV} {v : Value} (h : C S w φ a v) : Blw n a → Go.Abs.C S w φ' a v := by
  have tk : ∀ {tok : Option Nat} {len : Nat} {v : Value}, TokOK φ tok len v → (∀ k, tok = some k → k < n) → TokOK φ' tok len v := by
    intro tok len v ht hk
    cases tok with
    | none => trivial
    | some k =>
      obtain ⟨m, u, h1, h2⟩ := ht
      exact ⟨m, u, by rw [hf k (hk k rfl)]; exact h1, h2⟩
  induction h with
  | raw v => intro _; exact .raw v
  | agg cs vs hl h h1 ih => intro hb; cases hb with | agg _ hb => exact .agg cs vs hl (fun i a v ha hv => ih i a v ha hv (hb a (List.mem_of_getElem? ha))) h1
  | tup cs vs hl h ih => intro hb; cases hb with | tup _ hb => exact .tup cs vs hl (fun i a v ha hv => ih i a v ha hv (hb a (List.mem_of_getElem? ha)))
  | lst sz es tok a len cap u hlen hcap hmax hsz hm hc h1 ht ih => intro hb; cases hb with | lst _ _ _ hb hk => exact .lst sz es tok a len cap u hlen hcap hmax hsz hm (fun j c hj => ih j c hj (hb c (List.mem_of_getElem? hj))) h1 (tk ht hk)
  | lstnil sz tok ht => intro hb; cases hb with | lst _ _ _ hb hk => exact .lstnil sz tok (tk ht hk)
  | eptr cs a u hm hc h1 ih => intro hb; cases hb with | eptr _ hb => exact .eptr cs a u hm (fun j c hj => ih j c hj (hb c (List.mem_of_getElem? hj))) h1
  | ptr k off b h => intro hb; cases hb with | ptr _ _ hb => exact .ptr k off b (by rw [hf k hb]; exact h)
  | sl sz k off len b cap h hcap hmax => intro hb; cases hb with | sl _ _ _ _ hb => exact .sl sz k off len b cap (by rw [hf k hb]; exact h) hcap hmax
  | fn f xs ys vs us hl hl' h h' ih ih' => intro hb; cases hb with | fn _ _ _ hb hb' => exact .fn f xs ys vs us hl hl' (fun i a v ha hv => ih i a v ha hv (hb a (List.mem_of_getElem? ha))) (fun i a v ha hv => ih' i a v ha hv (hb' a (List.mem_of_getElem? ha)))
  | map k b h => intro hb; cases hb with | map _ hb => exact .map k b (by rw [hf k hb]; exact h)
  | own sz k m a cap hcap hmax ht => intro hb; cases hb with | own _ _ _ hb => exact .own sz k m a cap hcap hmax (tk ht fun j e => by cases e; exact hb)

def BlwBlk (n : Nat) : Blk → Prop
  | .cells _ cs => ∀ c ∈ cs, Blw n c
  | .own _ _ es => ∀ c ∈ flat es, Blw n c
  | .mp kk _ f => ∀ k a, isKey kk k = true → f k = some a → Blw n a
  | .lp _ _ _ _ _ _ s => ∀ c ∈ s, Blw n c
  | _ => True

/-- A heap, and what a call has made of it: what it has turned speaks of nothing new. -/
def Chg (n : Nat) : List Blk → List Blk → Prop
  | [], [] => True
  | x :: r, y :: r' => (x = y ∨ BlwBlk n y) ∧ Chg n r r'
  | _, _ => False

theorem Chg.refl (n : Nat) : ∀ h : List Blk, Chg n h h
  | [] => trivial
  | _ :: r => ⟨.inl rfl, Chg.refl n r⟩

theorem Chg.at {n : Nat} : ∀ {h h' : List Blk}, Chg n h h' → h'.length = h.length ∧ ∀ (k : Nat) y, h'[k]? = some y → h[k]? = some y ∨ BlwBlk n y
  | [], [], _ => ⟨rfl, fun k y h => by simp at h⟩
  | x :: r, y :: r', hc => by
    obtain ⟨h1, h2⟩ := hc.2.at
    refine ⟨by simp [h1], fun k z hz => ?_⟩
    cases k with
    | zero =>
      simp at hz
      subst hz
      rcases hc.1 with e | e
      · exact .inl (by simp [e])
      · exact .inr e
    | succ k => simpa using h2 k z (by simpa using hz)
  | [], _ :: _, h => h.elim
  | _ :: _, [], h => h.elim

theorem RB.low {n : Nat} (hf : ∀ k, k < n → φ' k = φ k) {k : Nat} (hk : k < n) {x : Blk} (hb : RB S w φ k x) (hx : BlwBlk n x) : RB S w φ' k x := by
  cases x with
  | cells t cs =>
    obtain ⟨b, vs, h1, h2, h3, h4, h5⟩ := hb
    exact ⟨b, vs, by rw [hf k hk]; exact h1, h2, ⟨h3.1, fun i a v ha hv => (h3.2 i a v ha hv |> Blw.C hf) (hx a (List.mem_of_getElem? ha))⟩, h4, h5⟩
  | tok e sz m => obtain ⟨u, h1, h2⟩ := hb; exact ⟨u, by rw [hf k hk]; exact h1, h2⟩
  | cut e sz m => obtain ⟨u, h1, h2⟩ := hb; exact ⟨u, by rw [hf k hk]; exact h1, h2⟩
  | own e sz es =>
    obtain ⟨u, h1, h2, h3⟩ := hb
    refine ⟨u, by rw [hf k hk]; exact h1, h2, ?_⟩
    rcases h3 with h3 | ⟨b, cap, vs, g1, g2, g3, g4, g5, g6, g7⟩
    · exact .inl h3
    · exact .inr ⟨b, cap, vs, g1, g2, g3, g4, g5, fun j c hj => by
        obtain ⟨x, q1, q2, q3⟩ := g6 j c hj
        exact ⟨x, q1, Blw.C hf q2 (hx c (List.mem_of_getElem? hj)), q3⟩, g7⟩
  | mp kk m f =>
    obtain ⟨b, es, clock, h1, h2, h3, ⟨m1, m2, m3⟩, h5⟩ := hb
    refine ⟨b, es, clock, by rw [hf k hk]; exact h1, h2, h3, ⟨m1, m2, fun key hkey => ?_⟩, h5⟩
    have := m3 key hkey
    revert this
    cases mfind key es.toList <;> cases hfk : f key <;> intro hh
    · trivial
    · exact hh
    · exact hh
    · exact Blw.C hf hh (hx key _ hkey hfk)
  | it b p =>
    obtain ⟨l, h1, h2, h4⟩ := hb
    exact ⟨l, by rw [hf k hk]; exact h1, h2, h4⟩
  | lp l st pe ps x y s =>
    obtain ⟨h1, fn, tmps, D, h2, h3, h4⟩ := hb
    exact ⟨by rw [hf k hk]; exact h1, fn, tmps, D, h2, ⟨h3.1, fun i a v ha hv => (h3.2 i a v ha hv |> Blw.C hf) (hx a (List.mem_of_getElem? ha))⟩, h4⟩
  | dead => trivial

theorem RB.blw {n : Nat} (hf : ∀ k, n ≤ k → φ k = .no) {k : Nat} {x : Blk} (hb : RB S w φ k x) : BlwBlk n x := by
  cases x with
  | cells t cs =>
    obtain ⟨b, vs, h1, h2, h3, _⟩ := hb
    intro c hc
    obtain ⟨i, hi, rfl⟩ := List.getElem_of_mem hc
    have hiv : i < vs.size := by rw [h3.1]; exact hi
    exact Blw.of_C hf (h3.2 i _ vs[i] (List.getElem?_eq_getElem hi) (Array.getElem?_eq_getElem hiv))
  | tok e sz m => trivial
  | cut e sz m => trivial
  | own e sz es =>
    obtain ⟨u, h1, h2, h3⟩ := hb
    rcases h3 with ⟨_, rfl⟩ | ⟨b, cap, vs, g1, g2, g3, g4, g5, g6, g7⟩
    · intro c hc; simp [flat] at hc
    · intro c hc
      obtain ⟨i, hi, rfl⟩ := List.getElem_of_mem hc
      obtain ⟨x, q1, q2, q3⟩ := g6 i _ (List.getElem?_eq_getElem hi)
      exact Blw.of_C hf q2
  | mp kk m f =>
    obtain ⟨b, es, clock, h1, h2, h3, ⟨m1, m2, m3⟩, h5⟩ := hb
    intro key a hkey hfa
    have := m3 key hkey
    rw [hfa] at this
    revert this
    cases mfind key es.toList with
    | none => intro hh; exact hh.elim
    | some v => intro hh; exact Blw.of_C hf hh
  | it b p => trivial
  | lp l st pe ps x y s =>
    obtain ⟨h1, fn, tmps, D, h2, h3, h4⟩ := hb
    intro c hc
    obtain ⟨i, hi, rfl⟩ := List.getElem_of_mem hc
    have hiv : i < tmps.size := by rw [h3.1]; exact hi
    exact Blw.of_C hf (h3.2 i _ tmps[i] (List.getElem?_eq_getElem hi) (Array.getElem?_eq_getElem hiv))
  | dead => trivial

end

/-- What a function's end must be, in its caller's heap. -/
def FinH (T : TypeId → TI) (rs : List ResultVar) (h : List Blk) (K : AV → List Blk → Prop) (s : List AV) (h' : List Blk) : Prop :=
  ∃ l, resAV T s h' rs = some l ∧ ∃ r h1 junk, Weak (oneOrTup l) r ∧ Blw h.length r ∧ h' = h1 ++ junk ∧ Chg h.length h h1 ∧ K r h1

theorem drop_sound {S S' : Addr → Prop} {φ φ' : Nat → Loc} {w w' : World} {h1 junk : List Blk} (hr : R S φ h w) (hr' : R S' φ' (h1 ++ junk) w') (he : Ext S φ h w S' φ' (h1 ++ junk) w') (hc : Chg h.length h h1) :
    let φ'' : Nat → Loc := fun k => if k < h.length then φ' k else .no
    R S' φ'' h1 w' ∧ Ext S φ h w S' φ'' h1 w' := by
  intro φ''
  obtain ⟨hl, hat⟩ := hc.at
  have hf : ∀ k, k < h.length → φ'' k = φ' k := fun k hk => by simp only [φ'']; rw [if_pos hk]
  have hno : ∀ k, h.length ≤ k → φ'' k = .no := fun k hk => by simp only [φ'']; rw [if_neg (by omega)]
  have hle : ∀ k, (φ k).le (φ'' k) := by
    intro k
    rcases Nat.lt_or_ge k h.length with g | g
    · rw [hf k g]; exact he.loc k
    · rw [hr.fresh k g]; trivial
  have hin : ∀ (k : Nat) y, h1[k]? = some y → k < h.length ∧ (h1 ++ junk)[k]? = some y := fun k y hk => by
    have := lookupD hk
    exact ⟨by omega, by rw [List.getElem?_append_left (by omega)]; exact hk⟩
  have hlow : ∀ (k : Nat) y, h1[k]? = some y → BlwBlk h.length y := by
    intro k y hk
    rcases hat k y hk with g | g
    · exact RB.blw (fun j hj => hr.fresh j hj) (hr.blk k _ g)
    · exact g
  have hown : ∀ b, Owns φ'' h1 b → Owns φ' (h1 ++ junk) b := by
    rintro b ⟨k, x, hk, hb⟩
    obtain ⟨g1, g2⟩ := hin k x hk
    exact ⟨k, x, g2, by rw [← hf k g1]; exact hb⟩
  refine ⟨⟨fun k x hk => ?_, fun k k' x x' b hk hk' hb hb' => ?_, hr'.bnd, fun k hk => hno k (by omega)⟩, ⟨he.os, he.tape, he.output, he.size, he.keep, he.sub, he.cell, hle, he.new, fun b hb => he.own b (hown b hb)⟩⟩
  · obtain ⟨g1, g2⟩ := hin k x hk
    exact RB.low hf g1 (hr'.blk k x g2) (hlow k x hk)
  · obtain ⟨g1, g2⟩ := hin k x hk
    obtain ⟨q1, q2⟩ := hin k' x' hk'
    rw [hf k g1] at hb
    rw [hf k' q1] at hb'
    exact hr'.inj k k' x x' b g2 q2 hb hb'

/-- **A call's contract in its caller's heap, out of the body's 'vc'.** -/
theorem acall_of_vc (hT : TabOK P T) {f : FuncId} {fn : Func} (hf : P.funcs[f]? = some fn) (hname : (fn.name == "runtime.NumGoroutine") = false) (hb : fn.body = some c) {args : List AV} {K : AV → List Blk → Prop}
    {n : Nat} (hn : fn.ntmps = n) {rs : List ResultVar} (hrs : fn.results.toList = rs)
    (hv : vc P T c (finPost (FinH T rs h K)) (args ++ List.replicate (n - args.length) (.tup [])) h) : ACall P f args h K := by
  intro S φ w vs hr hargs
  refine ⟨run_callFunc hf hname (by rw [hb]; rfl) vs w, ?_⟩
  have htmps : CAll S w φ (args ++ List.replicate (n - args.length) (.tup [])) (vs ++ Array.replicate (fn.ntmps - vs.size) undef) := by
    refine hargs.append ⟨by rw [Array.size_replicate, List.length_replicate, hn, hargs.1], fun i x v hx hv => ?_⟩
    rw [List.getElem?_replicate] at hx
    rw [Array.getElem?_replicate] at hv
    split at hx
    · split at hv
      · cases hx; cases hv; exact C.undef_
      · cases hv
    · cases hx
  refine calls_of_vc hT hf hb hv htmps hr ?_
  intro tmps s' h' S' φ' w' hG hs' hr' he
  revert hG
  rintro ⟨l, hl, r, h1, junk, hwk, hbl, rfl, hchg, hKr⟩
  obtain ⟨k1, k2⟩ := drop_sound hr hr' he hchg
  have g3 := results_plain hT hs' hr' (fn := fn) (a := { tmps := tmps, defers := [] }) (by rw [hrs]; exact hl)
  obtain ⟨v', e1, e2⟩ := g3
  exact ⟨v', e1, v', r, h1, S', _, rfl, hKr, Blw.C (fun k hk => by rw [if_pos hk]) (e2.weak hwk) hbl, k1, k2⟩

/-- What a function's end must be, all that it has made kept. -/
def FinK (T : TypeId → TI) (rs : List ResultVar) (K : AV → List Blk → Prop) (s : List AV) (h' : List Blk) : Prop :=
  ∃ l, resAV T s h' rs = some l ∧ ∃ r, Weak (oneOrTup l) r ∧ K r h'
theorem finK {rs : List ResultVar} {K : AV → List Blk → Prop} {r : AV} (hl : resAV T s h rs = some [r]) (hK : K r h) : FinK T rs K s h := ⟨_, hl, r, .refl _, hK⟩

/-- The same, what the call has made kept. -/
theorem acallK_of_vc (hT : TabOK P T) {f : FuncId} {fn : Func} (hf : P.funcs[f]? = some fn) (hname : (fn.name == "runtime.NumGoroutine") = false) (hb : fn.body = some c) {args : List AV} {K : AV → List Blk → Prop}
    {n : Nat} (hn : fn.ntmps = n) {rs : List ResultVar} (hrs : fn.results.toList = rs)
    (hv : vc P T c (finPost (FinK T rs K)) (args ++ List.replicate (n - args.length) (.tup [])) h) : ACall P f args h K := by
  intro S φ w vs hr hargs
  refine ⟨run_callFunc hf hname (by rw [hb]; rfl) vs w, ?_⟩
  have htmps : CAll S w φ (args ++ List.replicate (n - args.length) (.tup [])) (vs ++ Array.replicate (fn.ntmps - vs.size) undef) := by
    refine hargs.append ⟨by rw [Array.size_replicate, List.length_replicate, hn, hargs.1], fun i x v hx hv => ?_⟩
    rw [List.getElem?_replicate] at hx
    rw [Array.getElem?_replicate] at hv
    split at hx
    · split at hv
      · cases hx; cases hv; exact C.undef_
      · cases hv
    · cases hx
  refine calls_of_vc hT hf hb hv htmps hr ?_
  intro tmps s' h' S' φ' w' hG hs' hr' he
  revert hG
  rintro ⟨l, hl, r, hwk, hKr⟩
  obtain ⟨v', e1, e2⟩ := results_plain hT hs' hr' (fn := fn) (a := { tmps := tmps, defers := [] }) (by rw [hrs]; exact hl)
  exact ⟨v', e1, v', r, h', S', φ', rfl, hKr, e2.weak hwk, hr', he⟩

/-- The end where the caller's heap is as it was, and a pure value is handed back. -/
theorem finH0 {rs : List ResultVar} {K : AV → List Blk → Prop} {r : AV} (junk : List Blk) (hl : resAV T s (h ++ junk) rs = some [r]) (hp : Pure r) (hK : K r h) : FinH T rs h K s (h ++ junk) :=
  ⟨_, hl, r, h, junk, .refl _, Blw.pure hp, rfl, Chg.refl _ _, hK⟩
theorem acall_of {f : FuncId} {args : List AV} {h : List Blk} {K : AV → List Blk → Prop} (hc : ∀ S φ w vs, R S φ h w → CAll S w φ args vs → (callFunc f vs).run P w = .ok (.enter f vs) w ∧
    Calls P f vs w fun e w' => ∃ v r h' S' φ', e = .returned v ∧ K r h' ∧ C S' w' φ' r v ∧ R S' φ' h' w' ∧ Ext S φ h w S' φ' h' w') : ACall P f args h K := hc

theorem finH1 {rs : List ResultVar} {K : AV → List Blk → Prop} {r : AV} (hl : resAV T s h rs = some [r]) (hp : Pure r) (hK : K r h) : FinH T rs h K s h :=
  ⟨_, hl, r, h, [], .refl _, Blw.pure hp, (List.append_nil h).symm, Chg.refl _ _, hK⟩
end
attribute [go_sem] mixC carried inD
end Go.Abs
