import Derived.Test.YtipcmpkihhfhcaaDoorParts
import Derived.Test.YtipcmpkihhfhcaaDoorOnce
namespace Go.Proofs.YtipcmpkihhfhcaaDoor
open Go.Abs
set_option maxRecDepth 20000
set_option linter.unusedSimpArgs false
set_option linter.unusedVariables false
set_option maxHeartbeats 1000000
attribute [local irreducible] vc vcOps vcStep vcGuard prK hrK gK gsK brK callK ElemK SeqK BlockK ScopeK OpsK CallK LoopK LoopGo finPost ACall PCall PCallE BCall vqOps vqStep vqGuard qrK heK pcK gqK gqsK QOpsK qcallK DrawK
structure DRule where
  number : Bool
  name : Bool
  op : Bool
  least : Int
  most : Int
  arms : Int
abbrev DRule.enc (r : DRule) : AV := .agg [.b r.number, .b r.name, .b r.op, .i r.least, .i r.most, .i r.arms]
theorem DRule.pure (r : DRule) : Go.Abs.Pure r.enc := .agg _ (pure_cons (.raw _) (pure_cons (.raw _) (pure_cons (.raw _) (pure_cons (.raw _) (pure_cons (.raw _) (pure_cons (.raw _) pure_nil))))))
abbrev ruleA (p : DRule × Bool) : AV := .tup [p.1.enc, .b p.2]
theorem pure_ruleA (p : DRule × Bool) : Go.Abs.Pure (ruleA p) := .tup _ (pure_cons (DRule.pure _) (pure_cons (.raw _) pure_nil))
theorem finRule {T : TypeId → TI} {rs : List ResultVar} {s : List AV} {h : List Blk} {p : DRule} {x y z : Bool} {a b c : Int} (hr : resAV T s h rs = some [.agg [.b x, .b y, .b z, .i a, .i b, .i c]]) (hp : p = ⟨x, y, z, a, b, c⟩) : Go.Abs.Fin T rs p.enc s h := by
  subst hp
  exact ⟨_, hr, false, .refl _⟩
theorem finRule2 {T : TypeId → TI} {rs : List ResultVar} {s : List AV} {h : List Blk} {p : DRule × Bool} {x y z ok : Bool} {a b c : Int} (hr : resAV T s h rs = some [.agg [.b x, .b y, .b z, .i a, .i b, .i c], .b ok]) (hp : p = (⟨x, y, z, a, b, c⟩, ok)) : Go.Abs.Fin T rs (ruleA p) s h := by
  subst hp
  exact ⟨_, hr, false, .refl _⟩
def k0 : List Ex → Int
  | [] => 0
  | x :: _ => x.kind
def litE (e : Ex) : Bool := if e.kind = 5 then decide (e.op = 1) && decide (e.subs.length = 1) && decide (k0 e.subs = 1) else decide (e.kind = 1 ∨ e.kind = 2 ∨ e.kind = 4)
def constE (e : Ex) : Bool := if e.kind = 14 then e.subs.all litE else litE e
abbrev tTrue : ByteArray := ⟨#[116, 114, 117, 101]⟩
abbrev tFalse : ByteArray := ⟨#[102, 97, 108, 115, 101]⟩
def armE (s : ByteArray) : Bool := highF s || decide (s = tTrue) || decide (s = tFalse)
def nothingE (e : Ex) (n : Int) : DRule := ⟨decide (e.n = 0), decide (e.name = ⟨#[]⟩), decide (e.op = 0), n, n, 0⟩
def leafE (e : Ex) : DRule :=
  if e.kind = 1 then { nothingE e 0 with number := decide (e.n ≥ 0) }
  else if e.kind = 2 then { nothingE e 0 with number := decide (e.n = 0 ∨ e.n = 1) }
  else if e.kind = 3 then { nothingE e 0 with name := lowF e.name }
  else if e.kind = 4 then { nothingE e 0 with name := highF e.name }
  else if e.kind = 17 then { nothingE e 0 with name := pathF e.name }
  else nothingE e 0
def ofE (e : Ex) : DRule × Bool :=
  if e.kind = 1 ∨ e.kind = 2 ∨ e.kind = 3 ∨ e.kind = 4 ∨ e.kind = 17 then (leafE e, true)
  else if e.kind = 5 then ({ nothingE e 1 with op := decide (e.op = 1 ∨ e.op = 2) }, true)
  else if e.kind = 6 then ({ nothingE e 2 with op := decide (3 ≤ e.op ∧ e.op ≤ 16) }, true)
  else if e.kind = 7 ∨ e.kind = 16 then (nothingE e 3, true)
  else if e.kind = 8 ∨ e.kind = 9 ∨ e.kind = 15 then (nothingE e 2, true)
  else if e.kind = 10 then (nothingE e 1, true)
  else if e.kind = 11 then ({ nothingE e 1 with name := lowF e.name, arms := 1 }, true)
  else if e.kind = 12 then ({ nothingE e e.arms.length with name := lowF e.name, arms := 6 }, true)
  else if e.kind = 13 then (⟨decide (e.n = 0 ∨ e.n = 1), lowF e.name, decide (e.op = 0), e.n, if e.n = 0 then 6 else 7, 0⟩, true)
  else if e.kind = 14 then ({ nothingE e 1 with most := 8 }, true)
  else (⟨false, false, false, 0, 0, 0⟩, false)
noncomputable def partP (e : Ex) : Bool :=
  (ofE e).2 && (ofE e).1.number && (ofE e).1.name && (ofE e).1.op && decide ((ofE e).1.least ≤ e.subs.length) && decide ((e.subs.length : Int) ≤ (ofE e).1.most) && decide ((e.arms.length : Int) ≤ (ofE e).1.arms) && !(decide ((ofE e).1.arms > 0) && decide (e.arms.length = 0))
    && onceB e.arms && e.arms.all armE && (decide (¬ e.kind = 8) || constE (e.subs.headD e))
def numbersE (e : Ex) : Bool := (if e.kind = 5 then decide (1 ≤ e.op ∧ e.op ≤ 2) else if e.kind = 6 then decide (3 ≤ e.op ∧ e.op ≤ 16) else decide (e.op = 0)) && (if e.kind = 1 then decide (0 ≤ e.n) else if e.kind = 2 ∨ e.kind = 13 then decide (e.n = 0 ∨ e.n = 1) else decide (e.n = 0))
def namedE (e : Ex) : Bool := if e.kind = 3 ∨ e.kind = 11 ∨ e.kind = 12 ∨ e.kind = 13 then lowF e.name else if e.kind = 4 then highF e.name else if e.kind = 17 then pathF e.name else decide (e.name = ⟨#[]⟩)
noncomputable def armsE (e : Ex) : Bool := e.arms.all armE && (if e.kind = 11 then decide (e.arms.length = 1) else if e.kind = 12 then decide (1 ≤ e.arms.length ∧ e.arms.length ≤ 6) && onceB e.arms else decide (e.arms.length = 0))
def subsE (e : Ex) : Int × Int :=
  if e.kind = 5 ∨ e.kind = 10 ∨ e.kind = 11 then (1, 1) else if e.kind = 6 ∨ e.kind = 8 ∨ e.kind = 9 ∨ e.kind = 15 then (2, 2) else if e.kind = 7 ∨ e.kind = 16 then (3, 3)
  else if e.kind = 12 then (e.arms.length, e.arms.length) else if e.kind = 13 then (e.n, 6 + e.n) else if e.kind = 14 then (1, 8) else (0, 0)
noncomputable def partE (e : Ex) : Bool := decide (1 ≤ e.kind ∧ e.kind ≤ 17) && numbersE e && namedE e && armsE e && decide ((subsE e).1 ≤ e.subs.length) && decide ((e.subs.length : Int) ≤ (subsE e).2) && (decide (¬ e.kind = 8) || constE (e.subs.headD e))
theorem once0 {l : List ByteArray} (h : l.length = 0) : onceB l = true := onceB_yes (by rw [List.length_eq_zero_iff.1 h]; exact List.nodup_nil)
theorem once1 {l : List ByteArray} (h : l.length = 1) : onceB l = true := by
  match l, h with
  | [x], _ => exact onceB_yes (by simp)
mutual
def depthE : Ex → Nat
  | .mk _ _ _ _ _ s => depthL s + 1
def depthL : List Ex → Nat
  | [] => 0
  | x :: xs => max (depthE x) (depthL xs)
end
theorem depthE_eq (e : Ex) : depthE e = depthL e.subs + 1 := by cases e; simp [depthE, Ex.subs]
def maxL : List Nat → Nat
  | [] => 0
  | x :: l => max x (maxL l)
theorem depthL_append (l m : List Ex) : depthL (l ++ m) = max (depthL l) (depthL m) := by
  induction l with
  | nil => simp [depthL]
  | cons x l ih => simp only [List.cons_append, depthL, ih]; omega
theorem depthL_take {l : List Ex} {k : Nat} {x : Ex} (hx : l[k]? = some x) : depthL (l.take (k + 1)) = max (depthL (l.take k)) (depthE x) := by
  obtain ⟨hk, rfl⟩ := List.getElem?_eq_some_iff.1 hx
  rw [List.take_succ_eq_append_getElem hk, depthL_append]
  simp [depthL]
mutual
theorem depth_le : ∀ (e : Ex), depthE e ≤ (parts e).length
  | .mk _ _ _ _ _ s => by
    have := depthL_le s
    simp only [depthE, parts, List.length_cons]; omega
theorem depthL_le : ∀ (l : List Ex), depthL l ≤ (partsL l).length
  | [] => by simp [depthL]
  | x :: xs => by
    have h1 := depth_le x
    have h2 := depthL_le xs
    simp only [depthL, partsL, List.length_append]; omega
end
def isV (e : Ex) : Bool := decide (e.kind = 3 ∨ e.kind = 11 ∨ e.kind = 12)
def varsE (l : List Ex) : List ByteArray := (l.filter isV).map Ex.name
theorem varsE_step {l : List Ex} {k : Nat} {x : Ex} (hx : l[k]? = some x) : varsE (l.take (k + 1)) = varsE (l.take k) ++ (if isV x = true then [x.name] else []) := by
  obtain ⟨hk, rfl⟩ := List.getElem?_eq_some_iff.1 hx
  unfold varsE
  rw [List.take_succ_eq_append_getElem hk, List.filter_append, List.map_append]
  congr 1
  by_cases h : isV l[k] = true <;> simp [h]
theorem varsE_le (l : List Ex) : (varsE l).length ≤ l.length := by unfold varsE; rw [List.length_map]; exact List.length_filter_le _ _
noncomputable def rightE (e : Ex) : Bool := decide ((parts e).length ≤ 60) && decide (depthE e ≤ 12) && (parts e).all partE
set_option maxHeartbeats 4000000 in
theorem part_same (e : Ex) : partP e = partE e := by
  unfold partP partE
  by_cases h : 1 ≤ e.kind ∧ e.kind ≤ 17
  · have : e.kind = 1 ∨ e.kind = 2 ∨ e.kind = 3 ∨ e.kind = 4 ∨ e.kind = 5 ∨ e.kind = 6 ∨ e.kind = 7 ∨ e.kind = 8 ∨ e.kind = 9 ∨ e.kind = 10 ∨ e.kind = 11 ∨ e.kind = 12 ∨ e.kind = 13 ∨ e.kind = 14 ∨ e.kind = 15 ∨ e.kind = 16 ∨ e.kind = 17 := by omega
    rcases this with h | h | h | h | h | h | h | h | h | h | h | h | h | h | h | h | h
    all_goals
      rw [Bool.eq_iff_iff]
      simp only [ofE, leafE, nothingE, numbersE, namedE, armsE, subsE, h]
      have o0 := @once0 e.arms
      have o1 := @once1 e.arms
      simp
      first | (done) | (constructor <;> (intro hh; simp_all <;> omega)) | skip
    · intro hc
      rw [← List.length_eq_zero_iff]
      constructor
      · rintro ⟨⟨⟨⟨⟨⟨⟨a, b⟩, c⟩, d⟩, f⟩, g⟩, _⟩, j⟩
        exact ⟨⟨⟨⟨⟨c, a⟩, b⟩, j, g⟩, d⟩, f⟩
      · rintro ⟨⟨⟨⟨⟨c, a⟩, b⟩, j, g⟩, d⟩, f⟩
        exact ⟨⟨⟨⟨⟨⟨⟨a, b⟩, c⟩, d⟩, f⟩, g⟩, o0 g⟩, j⟩
    · rw [← List.length_eq_zero_iff]
      constructor
      · rintro ⟨⟨⟨⟨⟨⟨⟨⟨a, b⟩, c⟩, d⟩, f⟩, g⟩, g2⟩, _⟩, j⟩
        exact ⟨⟨⟨⟨⟨c, a⟩, b⟩, j, by omega⟩, d⟩, f⟩
      · rintro ⟨⟨⟨⟨⟨c, a⟩, b⟩, j, g⟩, d⟩, f⟩
        exact ⟨⟨⟨⟨⟨⟨⟨⟨a, b⟩, c⟩, d⟩, f⟩, by omega⟩, by omega⟩, o1 g⟩, j⟩
    · rw [← List.length_eq_zero_iff]
      constructor
      · rintro ⟨⟨⟨⟨⟨⟨⟨⟨a, b⟩, c⟩, d⟩, f⟩, g⟩, g2⟩, i⟩, j⟩
        exact ⟨⟨⟨⟨⟨c, a⟩, b⟩, j, ⟨by omega, by omega⟩, i⟩, d⟩, f⟩
      · rintro ⟨⟨⟨⟨⟨c, a⟩, b⟩, j, ⟨g1, g2⟩, i⟩, d⟩, f⟩
        exact ⟨⟨⟨⟨⟨⟨⟨⟨a, b⟩, c⟩, d⟩, f⟩, by omega⟩, by omega⟩, i⟩, j⟩
  · have h2 : (ofE e).2 = false := by
      unfold ofE
      repeat' (first | rw [if_neg (by omega)] | rfl)
    rw [h2, decide_eq_false h]
    simp
theorem k0_at {l : List Ex} {x : Ex} (hx : l[((0 : Int)).toNat]? = some x) : k0 l = x.kind := by
  match l with
  | y :: l => simp at hx; rw [hx]; rfl
theorem head_at {l : List Ex} {x z : Ex} (hx : l[((0 : Int)).toNat]? = some x) : l.headD z = x := by
  match l with
  | y :: l => simp at hx; rw [hx]; rfl
theorem sub_small {e x : Ex} (hx : x ∈ e.subs) (h : (parts e).length ≤ 100000) : (parts x).length ≤ 100000 := by
  obtain ⟨i, hi, rfl⟩ := List.getElem_of_mem hx
  have := parts_le hi
  rw [parts_eq e] at h
  simp at h
  omega
theorem max_step {l : List Ex} {i : Nat} {x : Ex} (hx : l[i]? = some x) : (if ((depthE x : Nat) : Int) > ((depthL (l.take i) : Nat) : Int) then ((depthE x : Nat) : Int) else ((depthL (l.take i) : Nat) : Int)) = ((depthL (l.take (i + 1)) : Nat) : Int) := by
  rw [depthL_take hx]
  split <;> omega
theorem parts_len {e : Ex} {i : Nat} {x : Ex} (hx : e.subs[i]? = some x) : (partsL (e.subs.take (i + 1))).length = (partsL (e.subs.take i)).length + (parts x).length := by
  obtain ⟨hi, rfl⟩ := List.getElem?_eq_some_iff.1 hx
  rw [partsL_take hi, List.length_append]
abbrev exBx (e : Ex) : Blk := .cells 25 [.i e.kind, .i e.n, .s e.name, .i e.op, .lst 1 (e.arms.map AV.s) none, .lst 6 (e.subs.map Ex.enc) none]
end Go.Proofs.YtipcmpkihhfhcaaDoor
