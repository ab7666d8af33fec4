/-
  The abstract layer, part F: 'stepPure' is sound, the operations one by one.
-/
import Derived.Test.YtfjjckaiopbbkaaAbsE
namespace Go.Abs
open Go.RowKit

section
variable {P : Program} {T : TypeId → TI} {S : Addr → Prop} {w : World} {φ : Nat → Loc} {s : List AV} {h : List Blk} {a : Act}

theorem kind_ne {x : TI} (h : x.kind = .other → False) : x.kind ≠ .other := h

theorem C.lst_addr {sz : Nat} {es : List AV} {tok : Option Nat} {v : Value} (hc : C S w φ (.lst sz es tok) v) {i : Nat} {x : AV} (hx : es[i]? = some x) :
    ∃ ad len cap, v = .slice (some ad) len cap ∧ es.length = len := by
  cases hc with
  | lst _ _ _ ad len cap u hlen => exact ⟨ad, len, cap, rfl, hlen⟩
  | lstnil => simp at hx

theorem stepPure_sound (hT : TabOK P T) (hs : CAll S w φ s a.tmps) (hr : R S φ h w) (dst : Option Tmp) (op : Op) (ty : TypeId) (pos : String) (af : Array Edge) (gd : Option (Nat × Bool)) :
    (stepPure T s h op).sound S w φ ((execOp a.eval ⟨dst, op, ty, pos, af, gd⟩).run P w) := by
  cases op with
  | move x => exact PR.sound_ok (by simp [execOp]) (C.opd hs x)
  | assign x => exact PR.sound_ok (by simp [execOp]) (C.opd hs x)
  | pick c x y =>
    simp only [stepPure, execOp]
    have hc := C.opd hs c
    have hx := C.opd hs x
    have hy := C.opd hs y
    split
    · rename_i t ht
      rw [ht] at hc
      generalize a.eval c = vc at hc
      cases hc
      split
      · rename_i p q hp hq
        rw [hp] at hx; rw [hq] at hy
        generalize a.eval x = vx at hx
        generalize a.eval y = vy at hy
        cases hx; cases hy
        refine PR.sound_ok (u := .bool (bif t then p else q)) ?_ (.raw _)
        cases t <;> simp [asBool]
      · cases t
        · exact PR.sound_ok (by simp [asBool]) hy
        · exact PR.sound_ok (by simp [asBool]) hx
    · trivial
  | load t x =>
    simp only [stepPure, execOp, asNext_bind]
    split
    · trivial
    · rename_i hk
      have hx := C.opd hs x
      split
      · rename_i cs hcs
        rw [hcs] at hx
        obtain ⟨ad, e, hl⟩ := LiesAt.of_eptr hx
        rw [e]
        exact loadAV_sound (hT t) hk hl
      · rename_i k off hcs
        rw [hcs] at hx
        split
        · rename_i cs hb
          obtain ⟨b, e, hl⟩ := LiesAt.of_ptr hr hx hb
          rw [e]
          exact loadAV_sound (hT t) hk hl
        · trivial
      · trivial
  | fieldAddr t x f =>
    simp only [stepPure, execOp, asNext_bind]
    split
    · rename_i fs hk
      obtain ⟨i, z, _, _, _, _, _, _, _, _, _, hK⟩ := (hT t).known (by rw [hk]; simp)
      rw [hk] at hK
      obtain ⟨F, hu, hF, hnm, hsz, _, _⟩ := hK
      have hx := C.opd hs x
      split
      · rename_i off ft hf
        obtain ⟨fd, hfd, hmem, ho, hty⟩ := field_at hF hf
        split
        · rename_i cs hcs
          rw [hcs] at hx
          obtain ⟨ad, e, _⟩ := LiesAt.of_eptr hx
          rw [e] at hx ⊢
          exact PR.sound_ok (by rw [run_fieldAt hu hfd (hsz fd hmem), ho]; rfl) (hx.eptr_drop off)
        · rename_i k o hcs
          rw [hcs] at hx
          generalize a.eval x = vx at hx
          cases hx with
          | ptr _ _ b hb =>
            refine PR.sound_ok (by rw [run_fieldAt hu hfd (hsz fd hmem), ho]; rfl) ?_
            have : (⟨b, o, none⟩ : Addr).add off = ⟨b, o + off, none⟩ := by unfold Addr.add; split <;> simp_all
            rw [this]
            exact .ptr _ _ b hb
        · trivial
      · trivial
    · trivial
  | field t x f =>
    simp only [stepPure, execOp, asNext_bind]
    split
    · rename_i fs hk
      obtain ⟨i, z, _, _, _, _, _, _, _, _, _, hK⟩ := (hT t).known (by rw [hk]; simp)
      rw [hk] at hK
      obtain ⟨F, hu, hF, hnm, hsz, _, _⟩ := hK
      have hx := C.opd hs x
      split
      · rename_i off ft hf
        obtain ⟨fd, hfd, hmem, ho, hty⟩ := field_at hF hf
        split
        · trivial
        · rename_i hkk
          split
          · rename_i cs hcs
            rw [hcs] at hx
            generalize a.eval x = vx at hx
            cases hx with
            | agg _ vs hl hcv h1 =>
              have := part_sound (P := P) (hT ft) hkk (S := S) (w := w) (φ := φ) (cs := cs) (vs := vs) ⟨hl, hcv⟩ h1 off
              simpa [Instr.field, run_underlying hu, hfd, asAgg, hty, ho] using this
          · trivial
      · trivial
    · trivial
  | indexAddr t x i =>
    simp only [stepPure, execOp, asNext_bind]
    have hx := C.opd hs x
    have hi := C.opd hs i
    split
    · rename_i e hk
      obtain ⟨_, z, _, _, _, _, _, _, _, _, _, hK⟩ := (hT t).known (by rw [hk]; simp)
      rw [hk] at hK
      split
      · trivial
      · rename_i hke
        split
        · rename_i sz es tok k n hxe hie
          rw [hxe] at hx; rw [hie] at hi
          generalize a.eval x = vx at hx
          generalize a.eval i = vi at hi
          cases hi
          split
          · rename_i hsz
            have hsz := of_decide_eq_true hsz
            intro y h0 hy
            obtain ⟨ad, len, cap, rfl, hlen⟩ := hx.lst_addr hy
            have hlt := lookupD hy
            refine ⟨.pointer (some (ad.add (n.toNat * sz))), ?_, hx.elem hy⟩
            have hc : 0 ≤ n ∧ n < (len : Int) := ⟨h0, by omega⟩
            simp [Instr.indexAt, asIntOf, run_underlying hK, hc, run_size (hT e) hke, asNext, Result.andThen, hsz]
          · trivial
        · rename_i sz k off len k' n hxe hie
          rw [hxe] at hx; rw [hie] at hi
          generalize a.eval x = vx at hx
          generalize a.eval i = vi at hi
          cases hi
          split
          · rename_i hsz
            have hsz := of_decide_eq_true hsz
            intro hp
            cases hx with
            | sl _ _ _ _ b cap hb hcap hmax =>
              refine ⟨.pointer (some ⟨b, off + n.toNat * sz, none⟩), ?_, .ptr _ _ b hb⟩
              have : (⟨b, off, none⟩ : Addr).add (n.toNat * sz) = ⟨b, off + n.toNat * sz, none⟩ := by unfold Addr.add; split <;> simp_all
              simp [Instr.indexAt, asIntOf, run_underlying hK, hp, run_size (hT e) hke, asNext, Result.andThen, hsz, this]
          · trivial
        · trivial
    · rename_i len e hk
      obtain ⟨_, z, _, _, _, _, _, _, _, _, _, hK⟩ := (hT t).known (by rw [hk]; simp)
      rw [hk] at hK
      obtain ⟨hK, _⟩ := hK
      split
      · trivial
      · rename_i hke
        split
        · rename_i cs k n hxe hie
          rw [hxe] at hx; rw [hie] at hi
          obtain ⟨ad, ex, _⟩ := LiesAt.of_eptr hx
          rw [ex] at hx ⊢
          generalize a.eval i = vi at hi
          cases hi
          intro hp
          refine ⟨_, ?_, hx.eptr_drop (n.toNat * (T e).size)⟩
          simp [Instr.indexAt, asIntOf, run_underlying hK, hp, Instr.sureAddr, run_size (hT e) hke, asNext, Result.andThen]
        · rename_i k' o k n hxe hie
          rw [hxe] at hx; rw [hie] at hi
          generalize a.eval x = vx at hx
          generalize a.eval i = vi at hi
          cases hi
          cases hx with
          | ptr _ _ b hb =>
            intro hp
            refine ⟨.pointer (some ⟨b, o + n.toNat * (T e).size, none⟩), ?_, .ptr _ _ b hb⟩
            have : (⟨b, o, none⟩ : Addr).add (n.toNat * (T e).size) = ⟨b, o + n.toNat * (T e).size, none⟩ := by unfold Addr.add; split <;> simp_all
            simp [Instr.indexAt, asIntOf, run_underlying hK, hp, Instr.sureAddr, run_size (hT e) hke, asNext, Result.andThen, this]
        · trivial
    · trivial
  | index t x i =>
    simp only [stepPure, execOp, asNext_bind]
    have hx := C.opd hs x
    have hi := C.opd hs i
    split
    · rename_i b k n hk hxe hie
      rw [hxe] at hx; rw [hie] at hi
      obtain ⟨_, z, _, _, _, _, _, _, _, _, _, hK⟩ := (hT t).known (by rw [hk]; simp)
      rw [hk] at hK
      generalize a.eval x = vx at hx
      generalize a.eval i = vi at hi
      cases hi; cases hx
      intro hp
      refine ⟨.int .u8 (b.data.toList.getD n.toNat 0).toNat, ?_, .raw _⟩
      have hlt : n.toNat < b.size := by omega
      have e : b[n.toNat]? = some (b.data.toList.getD n.toNat 0) := by
        obtain ⟨⟨l⟩⟩ := b
        simp only [ByteArray.size, List.size_toArray] at hlt
        rw [List.getD_eq_getElem?_getD, List.getElem?_eq_getElem hlt]
        show (if h : n.toNat < _ then some _ else none) = _
        rw [dif_pos (by simpa [ByteArray.size] using hlt)]
        rfl
      simp [Instr.index, asIntOf, run_underlying hK, hp.1, e, asNext, Result.andThen]
    · trivial
  | binOp op t x y u =>
    simp only [stepPure, execOp]
    split
    · rename_i fs hk
      have := structAV_sound (P := P) (T := T) hT ⟨fs, hk⟩ op x y (C.opd hs x) (C.opd hs y)
      simp only [Sem.run_bind, asNext] at this ⊢
      exact this
    · have := binAV_sound (P := P) (hT t) op x y (C.opd hs x) (C.opd hs y)
      simp only [Sem.run_bind, asNext] at this ⊢
      exact this
  | unOp op t x =>
    simp only [stepPure, execOp, asNext_bind]
    have hx := C.opd hs x
    split
    · rename_i b hxe
      rw [hxe] at hx
      generalize a.eval x = vx at hx
      cases hx
      exact PR.sound_ok (by simp [Op.unary, asNext, Result.andThen]) (.raw _)
    · rename_i k n hxe
      rw [hxe] at hx
      generalize a.eval x = vx at hx
      cases hx
      exact PR.sound_ok (by simp [Op.unary, Op.intArith, asNext, Result.andThen]) (.raw _)
    · trivial
  | extract x i =>
    simp only [stepPure, execOp, asNext_bind]
    have hx := C.opd hs x
    split
    · rename_i c hc
      obtain ⟨vs, u, hv, hu, hcu⟩ := hx.comps hc
      rw [hv]
      exact PR.sound_ok (by simp [Instr.extract, hu, asNext, Result.andThen]) hcu
    · trivial
  | build t parts =>
    simp only [stepPure, execOp, asNext_bind]
    split
    · rename_i fs hk
      obtain ⟨i, z, hi, hsz, _, hz, hzc, _, hzag, hz1, hzl, hK⟩ := (hT t).known (by rw [hk]; simp)
      have hzz := hzag (by simp [TI.agg, hk])
      rw [hk] at hK
      obtain ⟨F, hu, hF, _, hfs, _, _⟩ := hK
      split
      · rename_i out hf
        have hzero : CAll S w φ ((T t).zero.map .raw) (T t).zero.toArray := CAll.map_raw _
        have hplaces : ∀ (l : List Field) (pl : List (Nat × Nat)), (∀ f ∈ l, ∃ j, P.info? f.type = some j) → l.map (fun f => (f.offset, P.cellsOf f.type)) = pl → (l.mapM fun f => (do pure (f.offset, ← sizeOf f.type) : Sem (Nat × Nat))).run P w = .ok pl w := by
          intro l
          induction l with
          | nil => intro pl _ e; subst e; rfl
          | cons f l ih =>
            intro pl hl e
            subst e
            obtain ⟨j, hj⟩ := hl f (by simp)
            have := ih _ (fun f hf => hl f (by simp [hf])) rfl
            simp [List.mapM_cons, sizeOf, typeInfo, hj, Program.cellsOf] at this ⊢
            simp [this]
        have hpl := hplaces F.toList _ (fun f hf => by obtain ⟨j, hj, _⟩ := hfs f hf; exact ⟨j, hj⟩) rfl
        obtain ⟨us, h1, h2, h3⟩ := fill_sound (S := S) (w := w) (φ := φ) (fun i => match fs[i]? with | some (off, ft) => (match (T ft).kind with | .other => none | _ => some (off, (T ft).size)) | none => none) (parts.toList.map fun p => (p.1, opd s p.2)) (parts.toList.map fun p => (p.1, a.eval p.2)) _ out _
          (by simp) (fun i p q hp hq => by
            simp only [List.getElem?_map, Option.map_eq_some_iff] at hp hq
            obtain ⟨x, hx, rfl⟩ := hp
            obtain ⟨y, hy, rfl⟩ := hq
            rw [hx] at hy
            cases hy
            exact ⟨rfl, C.opd hs x.2⟩) hzero (by simpa using hz1) hf
        have hfill : ∀ (l : List (Nat × Value)) (vs us : Array Value), Instr.fill (fun i => match fs[i]? with | some (off, ft) => (match (T ft).kind with | .other => none | _ => some (off, (T ft).size)) | none => none) vs l = some us →
            Instr.fill (fun i => (F.toList.map fun f => (f.offset, P.cellsOf f.type)).toArray[i]?) vs l = some us := by
          intro l
          induction l with
          | nil => intro vs us h; exact h
          | cons p l ih =>
            intro vs us h
            obtain ⟨i, v⟩ := p
            simp only [Instr.fill] at h ⊢
            split at h
            · cases h
            · rename_i off size hp
              split at hp
              · rename_i off' ft hfi
                obtain ⟨fd, hfd, _, ho, hty⟩ := field_at hF hfi
                have hfd' : F.toList[i]? = some fd := by simpa using hfd
                split at hp
                · cases hp
                · rename_i hko
                  obtain ⟨j, _, hj, hjs, _⟩ := (hT ft).known hko
                  cases hp
                  have : (F.toList.map fun f => (f.offset, P.cellsOf f.type)).toArray[i]? = some (off, (T ft).size) := by
                    simp [hfd', ho, hty, Program.cellsOf, hj, hjs]
                  rw [this]
                  dsimp only
                  split at h
                  · cases h
                  · rename_i hcond
                    rw [if_neg hcond]
                    exact ih _ _ h
              · cases hp
        have hm : (F.mapM fun f => (do pure (f.offset, ← sizeOf f.type) : Sem (Nat × Nat))).run P w = .ok (F.toList.map fun f => (f.offset, P.cellsOf f.type)).toArray w := by
          rw [Array.mapM_eq_mapM_toList]
          have hmap : ∀ m : Sem (List (Nat × Nat)), (List.toArray <$> m).run P w = (m.run P w).andThen fun l w => .ok l.toArray w := fun m => Sem.run_bind' P m (fun l : List (Nat × Nat) => (pure l.toArray : Sem (Array (Nat × Nat)))) w
          rw [hmap, hpl]
          rfl
        have hfinal := hfill _ _ _ h1
        refine PR.sound_ok (u := .agg us) ?_ (.agg out us h2.1 h2.2 h3)
        have ep : (Array.map (fun (x : Nat × Operand) => (x.fst, a.eval x.snd)) parts).toList = parts.toList.map fun p => (p.1, a.eval p.2) := by simp
        simp only [Instr.build, Sem.run_bind, zeroValue, run_typeInfo _ hi, Result.andThen_ok, hz, Sem.run_pure, run_underlying hu, hm]
        rw [hzz]
        simp only [Value.cells]
        rw [ep, hfinal]
        rfl
      · trivial
    · trivial
  | makeFunc fn first captured =>
    simp only [stepPure, execOp, asNext_bind]
    have h1 := opds hs first.toList
    have h2 := opds hs captured.toList
    refine PR.sound_ok (u := .func fn (first.map a.eval) (captured.map a.eval)) rfl (.fn fn _ _ _ _ ?_ ?_ ?_ ?_)
    · simp
    · simp
    · exact fun i x v hx hv => h1.2 i x v hx (by simpa using hv)
    · exact fun i x v hx hv => h2.2 i x v hx (by simpa using hv)
  | slice t x lo hi mx =>
    cases mx with
    | some m => trivial
    | none =>
      simp only [stepPure, execOp, asNext_bind]
      have hx := C.opd hs x
      have hlo := opdo hs lo
      have hhi := opdo hs hi
      split
      · rename_i e hk
        obtain ⟨_, z, _, _, _, _, _, _, _, _, _, hK⟩ := (hT t).known (by rw [hk]; simp)
        rw [hk] at hK
        split
        · trivial
        · rename_i hke
          split
          · rename_i sz es tok hxe
            rw [hxe] at hx
            split
            · rename_i hsz
              have hsz := of_decide_eq_true hsz
              exact sliceAV_sound hK (fun w' => by rw [run_size (hT e) hke, hsz]) hx hlo hhi
            · trivial
          · trivial
      · rename_i hk
        obtain ⟨_, z, _, _, _, _, _, _, _, _, _, hK⟩ := (hT t).known (by rw [hk]; simp)
        rw [hk] at hK
        split
        · rename_i b hxe
          rw [hxe] at hx
          generalize a.eval x = vx at hx
          cases hx
          exact sliceStr_sound hK hlo hhi
        · trivial
      · trivial
  | convert t u x =>
    simp only [stepPure, execOp, asNext_bind]
    have hx := C.opd hs x
    split
    · rename_i k1 k k2 n hk1 hk2 hxe
      rw [hxe] at hx
      obtain ⟨_, z, _, _, _, _, _, _, _, _, _, hK⟩ := (hT t).known (by rw [hk1]; simp)
      rw [hk1] at hK
      obtain ⟨_, z, _, _, _, _, _, _, _, _, _, hK'⟩ := (hT u).known (by rw [hk2]; simp)
      rw [hk2] at hK'
      generalize a.eval x = vx at hx
      cases hx
      exact PR.sound_ok (by simp [convert, run_underlying hK, run_underlying hK', Conv.intToInt, asNext, Result.andThen]) (.raw _)
    · rename_i b hk1 hk2 hxe
      rw [hxe] at hx
      obtain ⟨_, z, _, _, _, _, _, _, _, _, _, hK⟩ := (hT t).known (by rw [hk1]; simp)
      rw [hk1] at hK
      obtain ⟨_, z, _, _, _, _, _, _, _, _, _, hK'⟩ := (hT u).known (by rw [hk2]; simp)
      rw [hk2] at hK'
      generalize a.eval x = vx at hx
      cases hx
      exact PR.sound_ok (by simp [convert, run_underlying hK, run_underlying hK', asNext, Result.andThen]) (.raw _)
    · trivial
  | nilCheck x =>
    simp only [stepPure, execOp]
    have hx := C.opd hs x
    generalize opd s x = q at hx
    generalize a.eval x = vx at hx
    cases hx with
    | ptr _ _ b hb => exact PR.sound_ok rfl (.ptr _ _ b hb)
    | eptr _ ad u h1 h2 h3 => exact PR.sound_ok rfl (.eptr _ ad u h1 h2 h3)
    | _ => trivial
  | call c =>
    obtain ⟨callee, args, argTypes⟩ := c
    cases callee with
    | value f => trivial
    | invoke r m => trivial
    | builtin b =>
      cases b <;> first | trivial | skip
      · simp only [stepPure]
        split
        · rename_i x t ha ht
          have hx := C.opd hs x
          have ea : args = #[x] := by rw [← Array.toList_inj]; exact ha
          have et : argTypes = #[t] := by rw [← Array.toList_inj]; exact ht
          subst ea; subst et
          have run : ∀ v : Value, ((Builtin.len_ #[t] ty #[a.eval x]).run P w = .ok v w) → (execOp a.eval ⟨dst, .call { callee := .builtin .len, args := #[x], argTypes := #[t] }, ty, pos, af, gd⟩).run P w = .ok (.value v) w := by
            intro v hv
            simp [execOp, resolve, invoke, builtin, hv]
          split
          · rename_i e sz es tok hk hxe
            obtain ⟨_, z, _, _, _, _, _, _, _, _, _, hK⟩ := (hT t).known (by rw [hk]; simp)
            rw [hk] at hK
            rw [hxe] at hx
            obtain ⟨ad, len, cap, hv, hlen, hcap, hmax, _⟩ := hx.slice_form
            rw [hv] at run
            exact ⟨by omega, _, run _ (by simp [Builtin.len_, run_underlying hK, goInt]; rfl), by rw [hlen]; exact .raw _⟩
          · rename_i e sz k off n hk hxe
            obtain ⟨_, z, _, _, _, _, _, _, _, _, _, hK⟩ := (hT t).known (by rw [hk]; simp)
            rw [hk] at hK
            rw [hxe] at hx
            generalize a.eval x = vx at hx run
            cases hx with
            | sl _ _ _ _ b cap hb hcap hmax => exact ⟨by omega, _, run _ (by simp [Builtin.len_, run_underlying hK, goInt]), .raw _⟩
          · rename_i e sz k n hk hxe
            obtain ⟨_, z, _, _, _, _, _, _, _, _, _, hK⟩ := (hT t).known (by rw [hk]; simp)
            rw [hk] at hK
            rw [hxe] at hx
            generalize a.eval x = vx at hx run
            cases hx with
            | own _ _ _ b cap hcap hmax ht => exact ⟨by omega, _, run _ (by simp [Builtin.len_, run_underlying hK, goInt]), .raw _⟩
          · rename_i e hk hxe
            obtain ⟨_, z, _, _, _, _, _, _, _, _, _, hK⟩ := (hT t).known (by rw [hk]; simp)
            rw [hk] at hK
            rw [hxe] at hx
            generalize a.eval x = vx at hx run
            cases hx
            exact ⟨_, run _ (by simp [Builtin.len_, run_underlying hK, goInt]), .raw _⟩
          · rename_i b hk hxe
            obtain ⟨_, z, _, _, _, _, _, _, _, _, _, hK⟩ := (hT t).known (by rw [hk]; simp)
            rw [hk] at hK
            rw [hxe] at hx
            generalize a.eval x = vx at hx run
            cases hx
            exact ⟨_, run _ (by simp [Builtin.len_, run_underlying hK, goInt]), .raw _⟩
          · trivial
        · trivial
      · simp only [stepPure]
        split
        · rename_i k p k' q hl
          match hargs : args.toList, hl with
          | [x, y], hl =>
            simp only [List.map_cons, List.map_nil, List.cons.injEq, and_true] at hl
            have hx := C.opd hs x
            have hy := C.opd hs y
            rw [hl.1] at hx; rw [hl.2] at hy
            have ea : args = #[x, y] := by rw [← Array.toList_inj]; exact hargs
            subst ea
            generalize hvx : a.eval x = vx at hx
            generalize hvy : a.eval y = vy at hy
            cases hx; cases hy
            refine PR.sound_ok ?_ (.raw _)
            simp [execOp, resolve, invoke, builtin, Builtin.max_, Builtin.max2, hvx, hvy]
          | [], hl => simp at hl
          | [x], hl => simp at hl
          | x :: y :: z :: r, hl => simp at hl
        · trivial
      · simp only [stepPure]
        split
        · rename_i k p k' q hl
          match hargs : args.toList, hl with
          | [x, y], hl =>
            simp only [List.map_cons, List.map_nil, List.cons.injEq, and_true] at hl
            have hx := C.opd hs x
            have hy := C.opd hs y
            rw [hl.1] at hx; rw [hl.2] at hy
            have ea : args = #[x, y] := by rw [← Array.toList_inj]; exact hargs
            subst ea
            generalize hvx : a.eval x = vx at hx
            generalize hvy : a.eval y = vy at hy
            cases hx; cases hy
            refine PR.sound_ok ?_ (.raw _)
            simp [execOp, resolve, invoke, builtin, Builtin.min_, Builtin.min2, hvx, hvy]
          | [], hl => simp at hl
          | [x], hl => simp at hl
          | x :: y :: z :: r, hl => simp at hl
        · trivial
  | _ => trivial
end
end Go.Abs
