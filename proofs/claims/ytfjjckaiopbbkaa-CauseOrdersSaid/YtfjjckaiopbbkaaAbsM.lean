/-
  The abstract layer, part M: code. 'vc' reckons what must hold for a code to do what Q says; 'vc_sound'.
-/
import Derived.Test.YtfjjckaiopbbkaaAbsL
import Derived.Scope
namespace Go.Abs
open Go.RowKit

inductive AExit where
  | normal | exit (id : Nat) | ret | goto (l : Nat)

/-- A call's contract: from arguments and a heap to a result and a heap. -/
def ACall (P : Program) (f : FuncId) (args : List AV) (h : List Blk) (K : AV → List Blk → Prop) : Prop :=
  ∀ S φ w vs, R S φ h w → CAll S w φ args vs → (callFunc f vs).run P w = .ok (.enter f vs) w ∧
    Calls P f vs w fun e w' => ∃ v r h' S' φ', e = .returned v ∧ K r h' ∧ C S' w' φ' r v ∧ R S' φ' h' w' ∧ Ext S φ h w S' φ' h' w'

def put (s : List AV) (dst : Option Tmp) (v : AV) : List AV :=
  match dst with
  | some d => s.set d v
  | none => s

/-- One operation. -/
def vcStep (P : Program) (T : TypeId → TI) (o : Oper) (s : List AV) (h : List Blk) (K : List AV → List Blk → Prop) : Prop :=
  match o.op with
  | .call { callee := .value f, args, .. } => match opd s f with
    | .fn (.func g) first captured => ACall P g (first ++ args.toList.map (opd s) ++ captured) h fun r h' => K (put s o.dst r) h'
    | _ => False
  | op => match stepPure T s h op with
    | .ok v => K (put s o.dst v) h
    | .side p v => p ∧ K (put s o.dst v) h
    | .fact p v => p → K (put s o.dst v) h
    | .elem i es f => ∃ x, (0 ≤ i ∧ es[i.toNat]? = some x) ∧ K (put s o.dst (f x)) h
    | .bad => match stepHeap T s h op with
      | .ok v h' => K (put s o.dst v) h'
      | .side p v h' => p ∧ K (put s o.dst v) h'
      | .bad => False

/-- The slot of a guard. -/
def guardSlot (ops : Array Oper) (j : Nat) : Option Tmp :=
  match ops.toList[j]? with
  | some o => o.dst
  | none => none

/-- An operation behind its guard. -/
def vcGuard (P : Program) (T : TypeId → TI) (ops : Array Oper) (o : Oper) (s : List AV) (h : List Blk) (K : List AV → List Blk → Prop) : Prop :=
  match o.guard with
  | none => vcStep P T o s h K
  | some (j, want) => match guardSlot ops j with
    | none => False
    | some d => match s.getD d (.tup []) with
      | .raw (.bool b) => match b with
        | true => match want with
          | true => vcStep P T o (s.set d (.raw (.bool true))) h K
          | false => K (put (s.set d (.raw (.bool true))) o.dst (.tup [])) h
        | false => match want with
          | true => K (put (s.set d (.raw (.bool false))) o.dst (.tup [])) h
          | false => vcStep P T o (s.set d (.raw (.bool false))) h K
      | .tup _ => K (put s o.dst (.tup [])) h
      | _ => False

def vcOps (P : Program) (T : TypeId → TI) (ops : Array Oper) : List Oper → List AV → List Blk → (List AV → List Blk → Prop) → Prop
  | [], s, h, K => K s h
  | o :: rest, s, h, K => vcGuard P T ops o s h fun s' h' => vcOps P T ops rest s' h' K

/-- At most n rounds. -/
def LoopN (body : (AExit → List AV → List Blk → Prop) → List AV → List Blk → Prop) (Q : AExit → List AV → List Blk → Prop) : Nat → List AV → List Blk → Prop
  | 0, _, _ => False
  | n + 1, s, h => body (fun e s h => match e with
    | .normal => LoopN body Q n s h
    | .exit i => Q (.exit i) s h
    | .ret => Q .ret s h
    | .goto l => Q (.goto l) s h) s h

section
variable {P : Program} {T : TypeId → TI} {S S' : Addr → Prop} {φ φ' : Nat → Loc} {h h' : List Blk} {w w' : World} {s : List AV} {a : Act}

/-- What is told of the concrete state where the abstract one is such. -/
def Conc (K : List AV → List Blk → Prop) (S : Addr → Prop) (φ : Nat → Loc) (h : List Blk) (w : World) (a' : Act) (w' : World) : Prop :=
  ∃ s' h' S' φ', K s' h' ∧ a'.defers = [] ∧ CAll S' w' φ' s' a'.tmps ∧ R S' φ' h' w' ∧ Ext S φ h w S' φ' h' w'

theorem CAll.put (hs : CAll S w φ s a.tmps) (dst : Option Tmp) {v : AV} {u : Value} (hc : C S w φ v u) : CAll S w φ (put s dst v) (a.put dst u).tmps := by
  cases dst with
  | none => exact hs
  | some d => exact hs.set d hc

theorem put_defers (dst : Option Tmp) (u : Value) : (a.put dst u).defers = a.defers := by cases dst <;> rfl

theorem Conc.of {K : List AV → List Blk → Prop} {v : AV} {u : Value} (hd : a.defers = []) (hs : CAll S w φ s a.tmps) (dst : Option Tmp) (hc : C S' w' φ' v u) (hr : R S' φ' h' w') (he : Ext S φ h w S' φ' h' w')
    (hK : K (put s dst v) h') : Conc K S φ h w (a.put dst u) w' :=
  ⟨_, h', S', φ', hK, by rw [put_defers]; exact hd, (he.CAll hs).put dst hc, hr, he⟩

theorem vcStep_sound (hT : TabOK P T) {K : List AV → List Blk → Prop} {Kc : Act → World → Prop} {Q : Exit → Act → World → Prop} (o : Oper) (hd : a.defers = []) (hs : CAll S w φ s a.tmps) (hr : R S φ h w)
    (hv : vcStep P T o s h K) (hK : ∀ a' w', Conc K S φ h w a' w' → Kc a' w') : o.wp P a w Kc Q := by
  obtain ⟨dst, op, ty, pos, af, gd⟩ := o
  have hpure := stepPure_sound (P := P) hT hs hr dst op ty pos af gd
  have hheap := stepHeap_sound (P := P) hT hs hr dst op ty pos af gd
  have fromPure : (∀ f args tys, op ≠ .call { callee := .value f, args := args, argTypes := tys }) → (match stepPure T s h op with
    | .ok v => K (put s dst v) h
    | .side p v => p ∧ K (put s dst v) h
    | .fact p v => p → K (put s dst v) h
    | .elem i es f => ∃ x, (0 ≤ i ∧ es[i.toNat]? = some x) ∧ K (put s dst (f x)) h
    | .bad => match stepHeap T s h op with
      | .ok v h' => K (put s dst v) h'
      | .side p v h' => p ∧ K (put s dst v) h'
      | .bad => False) → Oper.wp P ⟨dst, op, ty, pos, af, gd⟩ a w Kc Q := by
    intro _ hv
    have done : ∀ {v : AV} {u : Value} {w' S' φ' h'}, ((execOp a.eval ⟨dst, op, ty, pos, af, gd⟩).run P w = .ok (.value u) w' ∨ (execOp a.eval ⟨dst, op, ty, pos, af, gd⟩).run P w = .ok .skip w' ∧ u = undef) → C S' w' φ' v u → R S' φ' h' w' → Ext S φ h w S' φ' h' w' →
        K (put s dst v) h' → Oper.wp P ⟨dst, op, ty, pos, af, gd⟩ a w Kc Q := by
      intro v u w' S' φ' h' hrun hc hr' he hKv
      have := hK _ _ (Conc.of hd hs dst hc hr' he hKv)
      unfold Oper.wp
      rcases hrun with e | ⟨e, rfl⟩ <;> rw [e] <;> exact this
    split at hv
    · rename_i v hp
      rw [hp] at hpure
      obtain ⟨u, e, hc⟩ := hpure
      exact done (.inl e) hc hr (Ext.refl _ _ _ _) hv
    · rename_i p v hp
      rw [hp] at hpure
      obtain ⟨u, e, hc⟩ := hpure hv.1
      exact done (.inl e) hc hr (Ext.refl _ _ _ _) hv.2
    · rename_i p v hp
      rw [hp] at hpure
      obtain ⟨hpp, u, e, hc⟩ := hpure
      exact done (.inl e) hc hr (Ext.refl _ _ _ _) (hv hpp)
    · rename_i i es f hp
      rw [hp] at hpure
      obtain ⟨x, ⟨h0, hx⟩, hKx⟩ := hv
      obtain ⟨u, e, hc⟩ := hpure x h0 hx
      exact done (.inl e) hc hr (Ext.refl _ _ _ _) hKx
    · split at hv
      · rename_i v h' hp
        rw [hp] at hheap
        obtain ⟨u, w', S', φ', e, hc, hr', he⟩ := hheap
        exact done e hc hr' he hv
      · rename_i p v h' hp
        rw [hp] at hheap
        obtain ⟨u, w', S', φ', e, hc, hr', he⟩ := hheap hv.1
        exact done e hc hr' he hv.2
      · exact hv.elim
  cases op with
  | call c =>
    obtain ⟨callee, args, tys⟩ := c
    cases callee with
    | value f =>
      simp only [vcStep] at hv
      have hf := C.opd hs f
      split at hv
      · rename_i g first captured hfe
        rw [hfe] at hf
        generalize hvf : a.eval f = vf at hf
        cases hf with
        | fn _ _ _ vs us hl hl' hc1 hc2 =>
          have hargs : CAll S w φ (first ++ args.toList.map (opd s) ++ captured) (vs ++ args.map a.eval ++ us) := by
            have h1 : CAll S w φ first vs := ⟨hl, hc1⟩
            have h2 : CAll S w φ captured us := ⟨hl', hc2⟩
            have h3 := opds hs args.toList
            have h3' : CAll S w φ (args.toList.map (opd s)) (args.map a.eval) := by
              rw [show args.map a.eval = (args.toList.map a.eval).toArray from by apply Array.toList_inj.1; simp]
              exact h3
            exact (h1.append h3').append h2
          obtain ⟨henter, hcalls⟩ := hv S φ w _ hr hargs
          unfold Oper.wp
          have hrun : (execOp a.eval ⟨dst, .call { callee := .value f, args := args, argTypes := tys }, ty, pos, af, gd⟩).run P w = .ok (.enter g (vs ++ args.map a.eval ++ us)) w := by
            simp only [execOp, resolve, hvf, Deferred.ofValue, Sem.run_bind, Sem.run_pure, Result.andThen_ok, invoke]
            exact henter
          rw [hrun]
          refine Calls.mono hcalls ?_
          rintro e w' ⟨v, r, h', S', φ', rfl, hKr, hc, hr', he⟩
          exact hK _ _ (Conc.of hd hs dst hc hr' he hKr)
      · exact hv.elim
    | builtin b => exact fromPure (fun f args tys e => by cases e) hv
    | invoke r m => exact fromPure (fun f args tys e => by cases e) hv
  | _ => exact fromPure (fun f args tys e => by cases e) hv

theorem set_same_bool {d : Nat} {b : Bool} (hs : CAll S w φ s a.tmps) (hd : s.getD d (.tup []) = .raw (.bool b)) : CAll S w φ (s.set d (.raw (.bool b))) a.tmps := by
  refine ⟨by rw [List.length_set]; exact hs.1, fun i x v hx hv => ?_⟩
  rw [List.getElem?_set] at hx
  by_cases e : d = i
  · subst e
    rw [if_pos rfl] at hx
    split at hx
    · rename_i hlt
      have h0 : s[d]? = some (.raw (.bool b)) := by
        rw [List.getD_eq_getElem?_getD, List.getElem?_eq_getElem hlt] at hd
        rw [List.getElem?_eq_getElem hlt]
        exact congrArg some hd
      cases hx
      exact hs.2 d _ v h0 hv
    · cases hx
  · rw [if_neg e] at hx
    exact hs.2 i x v hx hv

theorem yielded_eq {ops : Array Oper} {j d : Nat} (hg : guardSlot ops j = some d) : yielded ops a.tmps j = match a.tmps[d]? with | some (.bool b) => some b | _ => none := by
  unfold guardSlot at hg
  unfold yielded
  cases ho : ops.toList[j]? with
  | none => simp [ho] at hg
  | some o =>
    have ho' : ops[j]? = some o := by simpa using ho
    simp only [ho] at hg
    simp only [ho', hg, Option.bind_some]
    cases a.tmps[d]? with
    | none => rfl
    | some v => cases v <;> rfl

theorem yielded_bool {ops : Array Oper} {j d : Nat} {b : Bool} (hg : guardSlot ops j = some d) (hs : CAll S w φ s a.tmps) (hd : s.getD d (.tup []) = .raw (.bool b)) : yielded ops a.tmps j = some b := by
  rw [yielded_eq hg]
  have hlt : d < s.length := by
    rcases Nat.lt_or_ge d s.length with h | h
    · exact h
    · rw [List.getD_eq_getElem?_getD, List.getElem?_eq_none h] at hd
      cases hd
  have h0 : s[d]? = some (.raw (.bool b)) := by
    rw [List.getD_eq_getElem?_getD, List.getElem?_eq_getElem hlt] at hd
    rw [List.getElem?_eq_getElem hlt]
    exact congrArg some hd
  obtain ⟨v, hv, hc⟩ := hs.at h0
  cases hc
  rw [hv]

theorem yielded_tup {ops : Array Oper} {j d : Nat} {cs : List AV} (hg : guardSlot ops j = some d) (hs : CAll S w φ s a.tmps) (hd : s.getD d (.tup []) = .tup cs) : yielded ops a.tmps j = none := by
  rw [yielded_eq hg]
  cases h0 : s[d]? with
  | none =>
    have : a.tmps[d]? = none := by
      rw [Array.getElem?_eq_none_iff, hs.1]
      exact List.getElem?_eq_none_iff.1 h0
    rw [this]
  | some x =>
    rw [List.getD_eq_getElem?_getD, h0] at hd
    simp at hd
    subst hd
    obtain ⟨v, hv, hc⟩ := hs.at h0
    cases hc
    rw [hv]

theorem vcGuard_sound (hT : TabOK P T) {ops : Array Oper} {K : List AV → List Blk → Prop} {Kc : Act → World → Prop} {Q : Exit → Act → World → Prop} (o : Oper) (hd : a.defers = []) (hs : CAll S w φ s a.tmps) (hr : R S φ h w)
    (hv : vcGuard P T ops o s h K) (hK : ∀ a' w', Conc K S φ h w a' w' → Kc a' w') : if Region.wanted o (yielded ops a.tmps) then o.wp P a w Kc Q else Kc (a.put o.dst undef) w := by
  have skip : ∀ s', CAll S w φ s' a.tmps → K (put s' o.dst (.tup [])) h → Kc (a.put o.dst undef) w := fun s' hs' hk => hK _ _ (Conc.of hd hs' o.dst C.undef_ hr (Ext.refl _ _ _ _) hk)
  unfold vcGuard at hv
  cases hg : o.guard with
  | none =>
    rw [hg] at hv
    rw [if_pos (by simp [Region.wanted, hg])]
    exact vcStep_sound hT o hd hs hr hv hK
  | some jw =>
    obtain ⟨j, want⟩ := jw
    rw [hg] at hv
    dsimp only at hv
    have hwant : Region.wanted o (yielded ops a.tmps) = (yielded ops a.tmps j == some want) := by simp [Region.wanted, hg]
    rw [hwant]
    split at hv
    · exact hv.elim
    · rename_i d hgs
      split at hv
      · rename_i b hb
        rw [yielded_bool hgs hs hb]
        split at hv
        · split at hv
          · rw [if_pos (by simp)]
            exact vcStep_sound hT o hd (set_same_bool hs hb) hr hv hK
          · rw [if_neg (by simp)]
            exact skip _ (set_same_bool hs hb) hv
        · split at hv
          · rw [if_neg (by simp)]
            exact skip _ (set_same_bool hs hb) hv
          · rw [if_pos (by simp)]
            exact vcStep_sound hT o hd (set_same_bool hs hb) hr hv hK
      · rename_i cs hb
        rw [yielded_tup hgs hs hb, if_neg (by simp)]
        exact skip s hs hv
      · exact hv.elim

theorem vcOps_sound (hT : TabOK P T) {ops : Array Oper} {Q : Exit → Act → World → Prop} : ∀ (l : List Oper) {K : List AV → List Blk → Prop} {S φ h w s a}, a.defers = [] → CAll S w φ s a.tmps → R S φ h w →
    vcOps P T ops l s h K → (∀ a' w', Conc K S φ h w a' w' → Q .normal a' w') → wpList P ops Q l a w
  | [], K, S, φ, h, w, s, a, hd, hs, hr, hv, hQ => hQ _ _ ⟨s, h, S, φ, hv, hd, hs, hr, Ext.refl _ _ _ _⟩
  | o :: rest, K, S, φ, h, w, s, a, hd, hs, hr, hv, hQ => by
    refine wpList_step fun Kc hKc => ?_
    refine vcGuard_sound hT o hd hs hr hv ?_
    rintro a' w' ⟨s', h', S', φ', hv', hd', hs', hr', he⟩
    refine hKc _ _ (vcOps_sound hT rest hd' hs' hr' hv' ?_)
    rintro a'' w'' ⟨s'', h'', S'', φ'', hK'', hd'', hs'', hr'', he'⟩
    exact hQ _ _ ⟨s'', h'', S'', φ'', hK'', hd'', hs'', hr'', he.trans he'⟩
end
end Go.Abs
