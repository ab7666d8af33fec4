/-
  A range over a function: what a call of yield does, out of a walk through the loop's body.
-/
import Derived.Test.YtipcmpkihhfhcaaDoorAbsR
namespace Go.Abs
open Go.RowKit

/-- The slots with a loop's variables set. -/
def setPs (s : List AV) : List Tmp → List AV → List AV
  | t :: ts, v :: vs => setPs (s.set t v) ts vs
  | _, _ => s

section
variable {P : Program} {T : TypeId → TI} {S S' : Addr → Prop} {φ φ' : Nat → Loc} {h h' : List Blk} {w w' : World}

theorem setPs_list : ∀ (ps : List Tmp) {s args : List AV} {tmps : Array Value} {vs : List Value}, CAll S w φ s tmps → CAll S w φ args vs.toArray → CAll S w φ (setPs s ps args) ((ps.zip vs).foldl (fun t p => t.setIfInBounds p.1 p.2) tmps)
  | [], s, args, tmps, vs, hs, _ => by simpa [setPs] using hs
  | t :: ps, s, [], tmps, vs, hs, ha => by
    have : vs = [] := List.length_eq_zero_iff.1 (by simpa using ha.1)
    subst this
    simpa [setPs] using hs
  | t :: ps, s, v :: args, tmps, [], hs, ha => by have := ha.1; simp at this
  | t :: ps, s, v :: args, tmps, u :: vs, hs, ha => by
    simp only [setPs, List.zip_cons_cons, List.foldl_cons]
    refine setPs_list ps (hs.set t (ha.2 0 v u rfl rfl)) ⟨by have := ha.1; simpa using this, fun i x y hx hy => ha.2 (i + 1) x y (by simpa using hx) (by simpa using hy)⟩
theorem setPs_all {ps : Array Tmp} {s args : List AV} {tmps vs : Array Value} (hs : CAll S w φ s tmps) (ha : CAll S w φ args vs) : CAll S w φ (setPs s ps.toList args) ((ps.zip vs).foldl (fun t (p, v) => t.setIfInBounds p v) tmps) := by
  have := setPs_list ps.toList (vs := vs.toList) hs (by simpa using ha)
  rw [← Array.foldl_toList, Array.toList_zip]
  exact this

/-- A loop's record is turned. -/
theorem lp_put {k l : Nat} {st : LoopState} {pe : Option Code} {ps : Array Tmp} {x y : Code} {s : List AV} (hr : R S φ h w) (hk : h[k]? = some (.lp l st pe ps x y s)) :
    ∃ rec : Loop, w.heap[l]? = some (.loop rec) ∧ rec.state = st ∧ rec.pending = pe ∧ rec.params = ps ∧ rec.assign = x ∧ rec.body = y ∧ CAll S w φ s rec.tmps ∧
      ∀ st' pe', R S (upd φ k (.obj l)) (h.set k (.lp l st' pe' ps x y s)) (w.putObj l (.loop { rec with state := st', pending := pe' })) ∧ Ext S φ h w S (upd φ k (.obj l)) (h.set k (.lp l st' pe' ps x y s)) (w.putObj l (.loop { rec with state := st', pending := pe' })) := by
  obtain ⟨g1, fn, tmps, D, g2, g3, g4⟩ := hr.blk _ _ hk
  have hlt := (Array.getElem?_eq_some_iff.1 g2).1
  have hown : blockOf (φ k) (.lp l st pe ps x y s) = some l := by rw [g1]; rfl
  have hoth : ∀ (o : Obj) b, b ≠ l → (w.putObj l o).heap[b]? = w.heap[b]? := fun o b hb => World.putObj_heap_other hb
  have hle : ∀ j, (φ j).le (upd φ k (.obj l) j) := fun j => by
    by_cases e : j = k
    · subst e; rw [upd_same, g1]; rfl
    · rw [upd_other _ e]; exact Loc.le_refl _
  refine ⟨_, g2, rfl, rfl, rfl, rfl, rfl, g3, fun st' pe' => ?_⟩
  have hcell : ∀ (o : Obj) c, S c → (w.putObj l o).cell? c = w.cell? c := fun o c hc => cell_of_heap (hoth o c.block (g4 c hc))
  exact hr.put (k := k) (x := .lp l st' pe' ps x y s) (l := .obj l) (S' := S) hk rfl rfl rfl (by simp) (fun b _ hne => hoth _ b (fun e => hne (by rw [hown, e]))) (fun _ h => h) (hcell _) (fun _ h => .inl h) (fun c hc => by have := hr.bnd c hc; simpa using this) (by rw [g1]; rfl)
    ⟨upd_same _ _ _, fn, tmps, D, World.putObj_heap_same hlt, g3.mono (fun _ h => h) (hcell _) hle, g4⟩ (fun b hb => by cases hb; exact .inr hown)

/-- Behind a round's body. -/
def roundB (l k : Nat) (ps : Array Tmp) (x y : Code) (s : List AV) (K : AV → List Blk → Prop) : Post := fun e _ h2 =>
  h2[k]? = some (.lp l .busy none ps x y s) ∧ match e with
    | .normal => K (.raw (.bool true)) (h2.set k (.lp l .ready none ps x y s))
    | .ret => K (.raw (.bool false)) (h2.set k (.lp l .done (some .ret) ps x y s))
    | .exit id => K (.raw (.bool false)) (h2.set k (.lp l .done (some (.exit id)) ps x y s))
    | .goto _ => False
/-- Behind a round's assignments. -/
def roundA (P : Program) (T : TypeId → TI) (l k : Nat) (ps : Array Tmp) (x y : Code) (s : List AV) (K : AV → List Blk → Prop) : Post := fun e s1 h1 => match e with
  | .normal => h1[k]? = some (.lp l .ready none ps x y s) ∧ vc P T y (roundB l k ps x y s K) s1 (h1.set k (.lp l .busy none ps x y s))
  | _ => False

set_option maxHeartbeats 1000000 in
/-- **What yield does.** -/
theorem ycall_of_vc (hT : TabOK P T) {l k : Nat} {ps : Array Tmp} {x y : Code} {s args : List AV} {K : AV → List Blk → Prop} (hk : h[k]? = some (.lp l .ready none ps x y s)) (hl : args.length = ps.size) (hx : noR x = true) (hy : noR y = true)
    (hv : vc P T x (roundA P T l k ps x y s K) (setPs s ps.toList args) h) : YCall P l args h K := by
  intro S φ w vs hr hargs
  obtain ⟨rec, g1, g2, g3, g4, g5, g6, g7, _⟩ := lp_put hr hk
  have hrun := run_yield (P := P) (args := vs) g1 (by rw [g4, hargs.1, hl])
  refine ⟨_, _, _, _, hrun, roundIn_of_wpIn trivial ?_⟩
  rw [g4, g5, g6]
  refine wpIn_mono (vc_soundIn (ro := some l) (n0 := w.heap.size) hT x (fun _ => hx) hv (MK.nil (Nat.le_refl _)) (setPs_all g7 hargs) hr) ?_
  rintro e a1 w1 ⟨xx, hxx, s1, h1, S1, φ1, hK1, hd1, hs1, hr1, he1⟩
  cases e <;> simp only [exitOf] at hxx <;> cases hxx
  · obtain ⟨hk1, hv1⟩ := hK1
    obtain ⟨rec1, f1, f2, f3, f4, f5, f6, f7, f8⟩ := lp_put hr1 hk1
    have hbr := run_beginRound (P := P) f1 f2
    have e1 : ({ rec1 with state := .busy } : Loop) = { rec1 with state := .busy, pending := none } := by rw [← f3]
    rw [e1] at hbr
    obtain ⟨m1, m2⟩ := f8 .busy none
    refine ⟨_, hbr, ?_⟩
    refine wpIn_mono (vc_soundIn (ro := some l) (n0 := w.heap.size) hT y (fun _ => hy) hv1 (hd1.ext m2) (m2.CAll hs1) m1) ?_
    rintro e a2 w2 ⟨xx, hxx, s2, h2, S2, φ2, hK2, hd2, hs2, hr2, he2⟩
    obtain ⟨hk2, hK2⟩ := hK2
    obtain ⟨rec2, p1, p2, p3, p4, p5, p6, p7, p8⟩ := lp_put hr2 hk2
    have hee := (he1.trans m2).trans he2
    have fin : ∀ (jump : Option Code), ∃ w3, (Instr.endRound l jump).run P w2 = .ok (.bool jump.isNone) w3 ∧ R S2 (upd φ2 k (.obj l)) (h2.set k (.lp l (if jump.isNone then .ready else .done) jump ps x y s)) w3 ∧ Ext S φ h w S2 (upd φ2 k (.obj l)) (h2.set k (.lp l (if jump.isNone then .ready else .done) jump ps x y s)) w3 := fun jump => by
      obtain ⟨n1, n2⟩ := p8 (if jump.isNone then .ready else .done) jump
      exact ⟨_, run_endRound (P := P) jump p1, n1, hee.trans n2⟩
    cases e <;> simp only [exitOf] at hxx <;> cases hxx
    · obtain ⟨w3, q1, q2, q3⟩ := fin none
      exact ⟨_, w3, q1, _, _, _, S2, _, rfl, hK2, .raw _, q2, q3⟩
    · rename_i id
      obtain ⟨w3, q1, q2, q3⟩ := fin (some (.exit id))
      exact ⟨_, w3, q1, _, _, _, S2, _, rfl, hK2, .raw _, q2, q3⟩
    · exact hK2.elim
    · obtain ⟨w3, q1, q2, q3⟩ := fin (some .ret)
      exact ⟨_, w3, q1, _, _, _, S2, _, rfl, hK2, .raw _, q2, q3⟩
  · exact hK1.elim
  · exact hK1.elim
  · exact hK1.elim
end
end Go.Abs
