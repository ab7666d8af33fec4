/-
  The abstract layer, part D: the reading operations come to what 'stepPure' says.
-/
import Derived.Test.YtfjjckaiopbbkaaAbsC
namespace Go.Abs
open Go.RowKit

theorem add_add (a : Addr) (i j : Nat) : (a.add i).add j = a.add (i + j) := by
  unfold Addr.add
  by_cases hi : i = 0 <;> by_cases hj : j = 0 <;> simp [hi, hj, Nat.add_assoc]

theorem exists_vals {α β : Type} {Q : Nat → α → β → Prop} : ∀ (l : List α), (∀ (j : Nat) c, l[j]? = some c → ∃ u, Q j c u) → ∃ us : List β, us.length = l.length ∧ ∀ (j : Nat) c u, l[j]? = some c → us[j]? = some u → Q j c u := by
  intro l
  induction l generalizing Q with
  | nil => intro _; exact ⟨[], rfl, fun j c u h => by simp at h⟩
  | cons x l ih =>
    intro h
    obtain ⟨u0, h0⟩ := h 0 x rfl
    obtain ⟨us, hl, hu⟩ := ih (Q := fun j => Q (j + 1)) (fun j c hj => h (j + 1) c (by simpa using hj))
    refine ⟨u0 :: us, by simp [hl], fun j c u hc hu' => ?_⟩
    cases j with
    | zero => simp at hc hu'; subst hc; subst hu'; exact h0
    | succ j => exact hu j c u (by simpa using hc) (by simpa using hu')

section
variable {P : Program} {T : TypeId → TI} {S : Addr → Prop} {w : World} {φ : Nat → Loc} {s : List AV} {h : List Blk} {a : Act}

/-- The value of an operation, as 'execOp' hands it on. -/
def asNext (r : Result Value) : Result Next := r.andThen fun v w => .ok (.value v) w

theorem asNext_ok (v : Value) (w : World) : asNext (.ok v w) = .ok (.value v) w := rfl

theorem PR.sound_ok {run : Result Next} {v : AV} {u : Value} (hr : run = .ok (.value u) w) (hc : C S w φ v u) : (PR.ok v).sound S w φ run := ⟨u, hr, hc⟩

/-- A list of cells lies at an address. -/
def LiesAt (S : Addr → Prop) (w : World) (φ : Nat → Loc) (cs : List AV) (ad : Addr) : Prop := ∀ (j : Nat) c, cs[j]? = some c → ∃ u, w.cell? (ad.add j) = some u ∧ C S w φ c u ∧ u.oneCell' = true

theorem LiesAt.drop {cs : List AV} {ad : Addr} (hl : LiesAt S w φ cs ad) (n : Nat) : LiesAt S w φ (cs.drop n) (ad.add n) := by
  intro j c hj
  rw [List.getElem?_drop] at hj
  rw [add_add]
  exact hl _ _ hj

theorem loadAV_sound {t : TypeId} (hT : TIok P t (T t)) (hk : (T t).kind ≠ .other) {cs : List AV} {ad : Addr} (hl : LiesAt S w φ cs ad) :
    (loadAV (T t) cs).sound S w φ (asNext ((Instr.loadAt t (.pointer (some ad))).run P w)) := by
  unfold loadAV
  simp only [Instr.loadAt, Instr.sureAddr, loadVar, Sem.run_bind, Sem.run_pure, Result.andThen_ok, run_isAgg hT hk]
  cases hag : (T t).agg with
  | true =>
    simp only [if_true, Sem.run_bind, run_size hT hk, Result.andThen_ok]
    split
    · rename_i l hl'
      obtain ⟨h1, h2⟩ := takeN_eq hl'
      obtain ⟨us, hul, hu⟩ := exists_vals (Q := fun j c u => w.cell? (ad.add j) = some u ∧ C S w φ c u ∧ u.oneCell' = true) l (fun j c hj => hl j c (by
        rw [← h2 j (by rw [← h1]; exact (List.getElem?_eq_some_iff.1 hj).1)]; exact hj))
      have hall : ∀ (j : Nat) u, us[j]? = some u → ∃ c, l[j]? = some c := fun j u hj => by
        have : j < l.length := by rw [← hul]; exact (List.getElem?_eq_some_iff.1 hj).1
        exact ⟨_, List.getElem?_eq_getElem this⟩
      have hrun := run_loadCells_list (P := P) w ad us (fun j v hj => by
        obtain ⟨c, hc⟩ := hall j v hj
        exact (hu j c v hc hj).1)
      rw [hul, h1] at hrun
      refine PR.sound_ok (u := .agg us.toArray) (by simp [hrun, asNext, Result.andThen]) (.agg l us.toArray (by simp [hul]) (fun i c v hc hv => (hu i c v hc (by simpa using hv)).2.1) (fun v hv => ?_))
      obtain ⟨i, hi, hiv⟩ := List.getElem_of_mem hv
      have hiv' : us[i]? = some v := by rw [← hiv]; simp
      obtain ⟨c, hc⟩ := hall i v hiv'
      exact (hu i c v hc hiv').2.2
    · trivial
  | false =>
    simp only [Bool.false_eq_true, if_false]
    cases cs with
    | nil => trivial
    | cons c cs =>
      obtain ⟨u, hu, hc, _⟩ := hl 0 c rfl
      have h0 : ad.add 0 = ad := by simp [Addr.add]
      rw [h0] at hu
      exact PR.sound_ok (u := u) (by simp [load, Sem.run, hu, asNext, Result.andThen]) hc

theorem LiesAt.of_eptr {cs : List AV} {v : Value} (hc : C S w φ (.eptr cs) v) : ∃ ad, v = .pointer (some ad) ∧ LiesAt S w φ cs ad := by
  cases hc with
  | eptr _ ad u hm hc h1 => exact ⟨ad, rfl, fun j c hj => ⟨u j, (hm j c hj).1, hc j c hj, h1 j c hj⟩⟩

theorem LiesAt.of_ptr (hr : R S φ h w) {k off : Nat} {v : Value} (hc : C S w φ (.ptr k off) v) {cs : List AV} (hb : blkCells h k = some cs) :
    ∃ b, v = .pointer (some ⟨b, off, none⟩) ∧ LiesAt S w φ (cs.drop off) ⟨b, off, none⟩ := by
  cases hc with
  | ptr _ _ b hφ =>
    refine ⟨b, rfl, ?_⟩
    unfold blkCells at hb
    split at hb
    · rename_i t cs' hk
      cases hb
      obtain ⟨b', vs, h1, h2, h3, h4, _⟩ := hr.blk k _ hk
      rw [hφ] at h1
      cases h1
      intro j c hj
      rw [List.getElem?_drop] at hj
      obtain ⟨u, hu, hcu⟩ := h3.at hj
      refine ⟨u, ?_, hcu, h4 u (by rw [← Array.mem_def]; exact Array.mem_of_getElem? hu)⟩
      have : (⟨b, off, none⟩ : Addr).add j = ⟨b, off + j, none⟩ := by
        unfold Addr.add; split <;> simp_all
      rw [this]
      simp [World.cell?, h2, hu]
    · cases hb

theorem LiesAt.eptr {cs : List AV} {ad : Addr} (hm : ∀ (j : Nat) c, cs[j]? = some c → S (ad.add j)) (hl : LiesAt S w φ cs ad) : C S w φ (.eptr cs) (.pointer (some ad)) := by
  obtain ⟨us, hul, hu⟩ := exists_vals cs hl
  have key : ∀ (j : Nat) c, cs[j]? = some c → w.cell? (ad.add j) = some (us.getD j undef) ∧ C S w φ c (us.getD j undef) ∧ (us.getD j undef).oneCell' = true := by
    intro j c hj
    have hj' : j < us.length := by rw [hul]; exact (List.getElem?_eq_some_iff.1 hj).1
    have e : us[j]? = some (us.getD j undef) := by rw [List.getD_eq_getElem?_getD, List.getElem?_eq_getElem hj']; rfl
    exact hu j c _ hj e
  exact .eptr cs ad (fun j => us.getD j undef) (fun j c hj => ⟨(key j c hj).1, hm j c hj⟩) (fun j c hj => (key j c hj).2.1) (fun j c hj => (key j c hj).2.2)

theorem C.eptr_drop {cs : List AV} {ad : Addr} (hc : C S w φ (.eptr cs) (.pointer (some ad))) (n : Nat) : C S w φ (.eptr (cs.drop n)) (.pointer (some (ad.add n))) := by
  cases hc with
  | eptr _ _ u hm hc h1 =>
    refine .eptr _ _ (fun j => u (n + j)) (fun j c hj => ?_) (fun j c hj => ?_) (fun j c hj => ?_) <;> rw [List.getElem?_drop] at hj
    · rw [add_add]; exact hm _ _ hj
    · exact hc _ _ hj
    · exact h1 _ _ hj

theorem flat_at {es : List AV} {sz : Nat} (hsz : ∀ e ∈ es, e.cells.length = sz) {i : Nat} {x : AV} (hx : es[i]? = some x) {j : Nat} {c : AV} (hc : x.cells[j]? = some c) : (flat es)[i * sz + j]? = some c := by
  induction es generalizing i with
  | nil => simp at hx
  | cons e es ih =>
    have he := hsz e (by simp)
    have hes : ∀ e ∈ es, e.cells.length = sz := fun e h => hsz e (by simp [h])
    simp only [flat, List.flatMap_cons]
    cases i with
    | zero =>
      simp at hx; subst hx
      rw [Nat.zero_mul, Nat.zero_add, List.getElem?_append_left (by exact (List.getElem?_eq_some_iff.1 hc).1)]
      exact hc
    | succ i =>
      rw [List.getElem?_append_right (by rw [he, Nat.succ_mul]; omega), he]
      have : (i + 1) * sz + j - sz = i * sz + j := by rw [Nat.succ_mul]; omega
      rw [this]
      exact ih hes (by simpa using hx)

theorem flat_length {es : List AV} {sz : Nat} (hsz : ∀ e ∈ es, e.cells.length = sz) : (flat es).length = es.length * sz := by
  induction es with
  | nil => simp [flat]
  | cons e es ih =>
    have := ih (fun e h => hsz e (by simp [h]))
    simp only [flat, List.flatMap_cons, List.length_append, List.length_cons] at this ⊢
    rw [this, hsz e (by simp), Nat.succ_mul]
    omega

theorem flat_drop {es : List AV} {sz : Nat} (hsz : ∀ e ∈ es, e.cells.length = sz) (n : Nat) : flat (es.drop n) = (flat es).drop (n * sz) := by
  induction n generalizing es with
  | zero => simp
  | succ n ih =>
    cases es with
    | nil => simp [flat]
    | cons e es =>
      have h1 := ih (es := es) (fun e h => hsz e (by simp [h]))
      simp only [List.drop_succ_cons, h1]
      simp only [flat, List.flatMap_cons]
      have he := hsz e (by simp)
      rw [Nat.succ_mul, Nat.add_comm (n * sz) sz, ← List.drop_drop]
      congr 1
      rw [← he, List.drop_left]

theorem flat_take {es : List AV} (n : Nat) (j : Nat) (c : AV) (hj : (flat (es.take n))[j]? = some c) : (flat es)[j]? = some c := by
  have e : flat es = flat (es.take n) ++ flat (es.drop n) := by
    simp only [flat, ← List.flatMap_append, List.take_append_drop]
  have hlt : j < (flat (es.take n)).length := (List.getElem?_eq_some_iff.1 hj).1
  rw [e, List.getElem?_append_left hlt]
  exact hj

theorem C.elem {sz : Nat} {es : List AV} {tok : Option Nat} {ad : Addr} {len cap : Nat} (hc : C S w φ (.lst sz es tok) (.slice (some ad) len cap)) {i : Nat} {x : AV} (hx : es[i]? = some x) : C S w φ (.eptr x.cells) (.pointer (some (ad.add (i * sz)))) := by
  cases hc with
  | lst _ _ _ _ _ _ u hlen hcap hmax hsz hm hc h1 ht =>
    refine .eptr _ _ (fun j => u (i * sz + j)) (fun j c hj => ?_) (fun j c hj => ?_) (fun j c hj => ?_)
    · rw [add_add]; exact hm _ _ (flat_at hsz hx hj)
    · exact hc _ _ (flat_at hsz hx hj)
    · exact h1 _ _ (flat_at hsz hx hj)

theorem C.slice_form {sz : Nat} {es : List AV} {tok : Option Nat} {v : Value} (hc : C S w φ (.lst sz es tok) v) : ∃ ad len cap, v = .slice ad len cap ∧ es.length = len ∧ len ≤ cap ∧ cap ≤ maxLen ∧ (ad = none → es = []) := by
  cases hc with
  | lst _ _ _ ad len cap u hlen hcap hmax => exact ⟨some ad, len, cap, rfl, hlen, hcap, hmax, fun e => by cases e⟩
  | lstnil sz tok ht => exact ⟨none, 0, 0, rfl, rfl, Nat.le_refl _, by simp [maxLen], fun _ => rfl⟩

/-- A part of a list. -/
theorem C.sub {sz : Nat} {es : List AV} {tok : Option Nat} {ad : Addr} {len cap : Nat} (hc : C S w φ (.lst sz es tok) (.slice (some ad) len cap)) (l h c' : Nat) (hl : l ≤ h) (hh : h ≤ len) (hcc : h - l ≤ c') (hm' : c' ≤ maxLen)
    (ad' : Addr) (had : h - l = 0 ∨ ad' = ad.add (l * sz)) : C S w φ (.lst sz ((es.take h).drop l) none) (.slice (some ad') (h - l) c') := by
  cases hc with
  | lst _ _ _ _ _ _ u hlen hcap hmax hsz hm hc h1 ht =>
    have hsz' : ∀ e ∈ (es.take h).drop l, e.cells.length = sz := fun e he => hsz e (List.mem_of_mem_take (List.mem_of_mem_drop he))
    have key : ∀ (j : Nat) c, (flat ((es.take h).drop l))[j]? = some c → (flat es)[l * sz + j]? = some c := by
      intro j c hj
      rw [flat_drop (fun e he => hsz e (List.mem_of_mem_take he)), List.getElem?_drop] at hj
      exact flat_take h _ _ hj
    rcases had with h0 | rfl
    · have hn : (es.take h).drop l = [] := by
        apply List.eq_nil_of_length_eq_zero
        rw [List.length_drop, List.length_take]; omega
      rw [hn]
      refine .lst _ _ _ _ _ _ (fun _ => undef) (by simp; omega) hcc hm' (by simp) ?_ ?_ ?_ trivial <;> intro j c hj <;> simp [flat] at hj
    · refine .lst _ _ _ _ _ _ (fun j => u (l * sz + j)) (by rw [List.length_drop, List.length_take]; omega) hcc hm' hsz' (fun j c hj => ?_) (fun j c hj => ?_) (fun j c hj => ?_) trivial
      · rw [add_add]; exact hm _ _ (key j c hj)
      · exact hc _ _ (key j c hj)
      · exact h1 _ _ (key j c hj)

theorem elem_of {t e : TypeId} (ht : P.underlying t = some (.slice e)) : P.elem t = e := by simp [Program.elem, ht]

theorem sliceAV_sound {t e : TypeId} (ht : P.underlying t = some (.slice e)) {sz : Nat} (hs : ∀ w', (sizeOf e).run P w' = .ok sz w') {es : List AV} {tok : Option Nat} {v : Value} (hc : C S w φ (.lst sz es tok) v)
    {lo hi : Option AV} {lo' hi' : Option Value} (hlo : lo = none ∧ lo' = none ∨ ∃ x y, lo = some x ∧ lo' = some y ∧ C S w φ x y) (hhi : hi = none ∧ hi' = none ∨ ∃ x y, hi = some x ∧ hi' = some y ∧ C S w φ x y) :
    (sliceAV lo hi sz es).sound S w φ (asNext ((Instr.sliceAt t v lo' hi' none).run P w)) := by
  obtain ⟨ad, len, cap, rfl, hlen, hcap, hmax, hnil⟩ := hc.slice_form
  have ht' : P.underlying t = some (.slice (P.elem t)) := by rw [elem_of ht]; exact ht
  have hs' : ∀ w', (sizeOf (P.elem t)).run P w' = .ok sz w' := by rw [elem_of ht]; exact hs
  have fin : ∀ l h : Nat, l ≤ h → h ≤ len → C S w φ (.lst sz ((es.take h).drop l) none) (sliced ad l h cap sz) := by
    intro l h h1 h2
    unfold sliced
    cases ad with
    | none =>
      have : es = [] := hnil rfl
      subst this
      simp only [List.length_nil] at hlen
      have hl0 : l = 0 := by omega
      have hh0 : h = 0 := by omega
      subst hl0; subst hh0
      cases hc
      simpa using C.lstnil (S := S) (w := w) (φ := φ) sz none trivial
    | some ad =>
      split
      · rename_i e
        exact hc.sub l h (cap - l) h1 h2 (by omega) (by omega) ad (.inl (by omega))
      · exact hc.sub l h (cap - l) h1 h2 (by omega) (by omega) _ (.inr rfl)
  rw [run_sliceAt_slice _ _ _ _ _ _ ht']
  rcases hlo with ⟨rfl, rfl⟩ | ⟨x, x', rfl, rfl, hx⟩ <;> rcases hhi with ⟨rfl, rfl⟩ | ⟨y, y', rfl, rfl, hy⟩
  · have := fin 0 len (Nat.zero_le _) (Nat.le_refl _)
    simp only [← hlen, List.take_length, List.drop_zero] at this
    exact PR.sound_ok (by rw [run_slice_all _ _ _ _ _ ht', hs', ← hlen]; rfl) this
  · cases y with
    | raw y =>
      cases hy
      cases y' <;> first | trivial | skip
      rename_i k n
      intro hp
      have := fin 0 n.toNat (Nat.zero_le _) (by omega)
      rw [run_slice_h _ _ _ _ _ ht' k n hp.1 (by omega), hs']
      exact ⟨_, rfl, by simpa using this⟩
    | _ => trivial
  · cases x with
    | raw x =>
      cases hx
      cases x' <;> first | trivial | skip
      rename_i k n
      intro hp
      have := fin n.toNat len (by omega) (Nat.le_refl _)
      rw [run_slice_l _ _ _ _ _ ht' k n hp.1 (by omega), hs']
      rw [← hlen, List.take_length] at this
      rw [← hlen]
      exact ⟨_, rfl, this⟩
    | _ => trivial
  · cases x with
    | raw x =>
      cases hx
      cases y with
      | raw y =>
        cases hy
        cases x' <;> first | trivial | skip
        rename_i k n
        cases y' <;> first | trivial | skip
        rename_i k' n'
        intro hp
        have := fin n.toNat n'.toNat (by omega) (by omega)
        rw [run_slice_lh _ _ _ _ _ ht' k k' n n' hp.1 hp.2.1 (by omega), hs']
        exact ⟨_, rfl, this⟩
      | _ => cases x' <;> trivial
    | _ => trivial

theorem sliceStr_sound {t : TypeId} (ht : P.underlying t = some .string) {b : ByteArray}
    {lo hi : Option AV} {lo' hi' : Option Value} (hlo : lo = none ∧ lo' = none ∨ ∃ x y, lo = some x ∧ lo' = some y ∧ C S w φ x y) (hhi : hi = none ∧ hi' = none ∨ ∃ x y, hi = some x ∧ hi' = some y ∧ C S w φ x y) :
    (sliceStr lo hi b).sound S w φ (asNext ((Instr.sliceAt t (.string b) lo' hi' none).run P w)) := by
  rw [run_sliceAt_string _ _ _ _ _ _ ht]
  rcases hlo with ⟨rfl, rfl⟩ | ⟨x, x', rfl, rfl, hx⟩ <;> rcases hhi with ⟨rfl, rfl⟩ | ⟨y, y', rfl, rfl, hy⟩
  · have e : b.extract 0 b.size = b := by simp
    exact PR.sound_ok (by rw [run_slice_string_all _ _ _ ht, e]; rfl) (.raw _)
  · cases y with
    | raw y =>
      cases hy
      cases y' <;> first | trivial | skip
      rename_i k n
      intro hp
      exact ⟨_, by rw [run_slice_string_h w t b ht k n hp.1 hp.2]; rfl, .raw _⟩
    | _ => trivial
  · cases x with
    | raw x =>
      cases hx
      cases x' <;> first | trivial | skip
      rename_i k n
      intro hp
      exact ⟨_, by rw [run_slice_string_l w t b ht k n hp.1 hp.2]; rfl, .raw _⟩
    | _ => trivial
  · cases x with
    | raw x =>
      cases hx
      cases y with
      | raw y =>
        cases hy
        cases x' <;> first | trivial | skip
        rename_i k n
        cases y' <;> first | trivial | skip
        rename_i k' n'
        intro hp
        exact ⟨_, by rw [run_slice_string w t b k k' n n' ht hp.1 hp.2.1 hp.2.2]; rfl, .raw _⟩
      | _ => cases x' <;> trivial
    | _ => trivial

theorem binAV_sound {t : TypeId} (hT : TIok P t (T t)) (op : BinOp) (x y : Operand) {p q : AV} {u v : Value} (hu : C S w φ p u) (hv : C S w φ q v) :
    (binAV (T t) op p q).sound S w φ (asNext (Sem.run P (do eqGuard op t x y u v; binOp op t u v) w)) := by
  unfold binAV
  split
  · rename_i k a k' b
    cases hu; cases hv
    split
    · rename_i hk
      have hk := kEq_eq hk
      subst hk
      cases op <;> first | trivial | exact PR.sound_ok (by simp [eqGuard, binOp, Op.intArith, Op.intCmp, asNext, Result.andThen]) (.raw _)
    · trivial
  · rename_i a b
    cases hu; cases hv
    cases op <;> first | trivial | skip
    · intro hp
      exact ⟨_, by simp [eqGuard, binOp, run_string_add_sum w a b hp, asNext, Result.andThen], .raw _⟩
    · exact PR.sound_ok (by simp [eqGuard, binOp, Op.stringOp, asNext, Result.andThen]) (.raw _)
    · exact PR.sound_ok (by simp [eqGuard, binOp, Op.stringOp, asNext, Result.andThen]) (.raw _)
  · rename_i a b
    cases hu; cases hv
    split
    · rename_i hk
      obtain ⟨i, z, _, _, _, _, _, _, _, _, _, hK⟩ := hT.known (by rw [hk]; simp)
      rw [hk] at hK
      cases op <;> first | trivial | skip
      · exact PR.sound_ok (by simp [eqGuard, run_eql_bool w t a b hK, asNext, Result.andThen]) (.raw _)
      · exact PR.sound_ok (by simp [eqGuard, run_neq_bool w t a b hK, asNext, Result.andThen]) (.raw _)
    · trivial
  · trivial

end
end Go.Abs
