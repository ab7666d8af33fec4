/-
  CkK, Ints, OrdKit, Reads, Reads2, Reads3, Cause1, AbsTB, Cause2, Cause3, Cause4, Cause5, CaK, Late, Late2, Start, StK, NmD, NmE, TyKP, TyKC, CkP, CkC, TyKX, TyKX2, CkX, CaP, CaX, StC, AbsK, DigD, NmF, NmI, NmC, NmW1, NmW1b, NmW2, NmW3, NmW4, NmW5, NmZ, NmW6, NmW7, NmW8, NmW9, NmDg, NmX0, NmX1: put together.
-/
import Derived.Test.YtpamokpmlplopaaGreatDoorBunA
import Derived.Test.YtpamokpmlplopaaGreatDoorBunB
import Derived.Test.YtpamokpmlplopaaGreatDoorBunC
import Derived.Test.YtpamokpmlplopaaGreatDoorBunD
import Derived.Below
import Derived.Lib.LaidTab
import Derived.Lib.ItoaLen
namespace Go.Proofs.YtpamokpmlplopaaGreatDoor
open Go.Abs
set_option maxRecDepth 20000
set_option linter.unusedSimpArgs false
set_option linter.unusedVariables false
set_option maxHeartbeats 1000000
attribute [local irreducible] vc vcOps vcStep vcGuard prK hrK gK gsK brK callK ElemK SeqK BlockK ScopeK OpsK CallK LoopK LoopGo finPost ACall PCall PCallE BCall vqOps vqStep vqGuard qrK heK pcK gqK gqsK QOpsK qcallK DrawK
def rowsOk (L: List DEnum) (n: DNode): Bool := (allV n).all fun d => (rowN L n d.Name).2
noncomputable def eqCk (L: List DEnum) (n: DNode) (q: DEq): Bool := q.Names.all (fun s => eqB (rowN L n s).1 (rowN L n (q.Names.headD ⟨#[]⟩)).1) && fitsF (rowN L n) L q.E (rowN L n (q.Names.headD ⟨#[]⟩)).1
noncomputable def nodeCk (p: DProg) (a: Nat) (n: DNode): DFault :=
 if rowsOk p.Enums n = true then firstE (a: Int) 8 (fun _ q => eqCk p.Enums n q) 0 n.Eqs else ⟨(a: Int),-1,8⟩
noncomputable def clockF (p: DProg): DFault := if (typesF p).Err = 0 then firstF (nodeCk p) 0 p.Nodes else typesF p
theorem nodeCk_zero {p: DProg} {a: Nat} {n: DNode} (h: (nodeCk p a n).Err = 0): nodeCk p a n = ⟨0,0,0⟩ ∧ rowsOk p.Enums n = true ∧ ∀ q ∈ n.Eqs,eqCk p.Enums n q = true := by
 unfold nodeCk at *
 split at h
 ·
  rename_i h0
  rw [if_pos h0]
  obtain ⟨h1,h2⟩ := firstE_zero (by decide) h
  refine ⟨h1,h0,fun q hq => ?_⟩
  obtain ⟨i,hi,rfl⟩ := List.getElem_of_mem hq
  exact h2 i _ (List.getElem?_eq_getElem hi)
 ·
  cases h
theorem clock_zero {p: DProg} (h: (clockF p).Err = 0): clockF p = ⟨0,0,0⟩ ∧ (typesF p).Err = 0 ∧ ∀ (k: Nat) n,p.Nodes[k]? = some n → (nodeCk p k n).Err = 0 := by
 unfold clockF at *
 split at h
 ·
  rename_i h0
  rw [if_pos h0]
  obtain ⟨h1,h2⟩ := firstF_zero h
  exact ⟨h1,h0,fun k n hk => by have := h2 k n hk; simpa using this⟩
 ·
  rename_i h0; exact absurd h h0
theorem names_is {n: DNode}: ∀ {l D: List ByteArray},namesErr n D l = 0 → ∀ s ∈ l,isF n s = true
 | [],_,_ => by simp
 | x :: r,D,h => by
  rw [namesErr] at h
  split at h
  ·
   omega
  ·
   rename_i h0
   split at h
   ·
    omega
   ·
    intro s hs
    rcases List.mem_cons.1 hs with rfl | hs
    ·
     simpa using h0
    ·
     exact names_is h s hs
theorem eqs_is {p: DProg} {a: Int} {n: DNode}: ∀ {l: List DEq} {i: Nat} {D: List ByteArray},(eqsErr p a n i D l).2 = 0 → ∀ q ∈ l,(∀ s ∈ q.Names,isF n s = true) ∧ (parts q.E).all (leadsF p a n) = true
 | [],_,_,_ => by simp
 | q :: r,i,D,h => by
  rw [eqsErr] at h
  split at h
  ·
   rename_i h0
   intro x hx
   rcases List.mem_cons.1 hx with rfl | hx
   ·
    unfold eqErr at h0
    split at h0
    ·
     rename_i h1
     refine ⟨names_is h1,?_⟩
     split at h0
     ·
      assumption
     ·
      omega
    ·
     rename_i h1; exact absurd h0 h1
   ·
    exact eqs_is h x hx
  ·
   rename_i h0; exact absurd h h0
theorem node_is {p: DProg} {a: Int} {n: DNode} (h: (nodeFault p a n).Err = 0): ∀ q ∈ n.Eqs,(∀ s ∈ q.Names,isF n s = true) ∧ (parts q.E).all (leadsF p a n) = true := by
 unfold nodeFault at h
 split at h
 ·
  split at h
  ·
   rename_i h2; exact eqs_is h2
  ·
   rename_i h2; exact absurd h h2
 ·
  cases h
theorem is_mem {n: DNode} {s: ByteArray} (h: isF n s = true): ∃ d ∈ allV n,d.Name = s := by
 unfold isF decl at h
 rw [declF_any,List.any_eq_true] at h
 obtain ⟨d,hd,he⟩ := h
 exact ⟨d,hd,of_decide_eq_true he⟩
theorem row_is {L: List DEnum} {n: DNode} (hr: rowsOk L n = true) {s: ByteArray} (h: isF n s = true): (rowN L n s).2 = true := by
 obtain ⟨d,hd,rfl⟩ := is_mem h
 exact List.all_eq_true.1 hr d hd
theorem mapN (l: List Nat): l.map AV.n = (l.map fun n: Nat => (n: Int)).map AV.i := by simp
theorem mem_eq {l: List ByteArray} {x s: ByteArray} {i: Nat} (h: l[i]? = some x) (e: x = s): s ∈ l := e ▸ List.mem_of_getElem? h
theorem contains106 {l: List ByteArray} {p: ByteArray → Bool} {g: Nat} {first capt: List AV} {h: List Blk} {K: AV → List Blk → Prop} (hp: ∀ x ∈ l,∀ K: AV → List Blk → Prop,K (.b (p x)) h → ACall Tryz.prog g (first ++ AV.s x :: capt) h K)
  (hK: K (.b (l.any p)) h): ACall Tryz.prog 113 [.lst 1 (l.map AV.s) none,.fn (.func g) first capt] h K := by
 refine acall_of_vc tabOK Tryz.func113 (by kernel_rfl) rfl (n := 9) rfl (rs := [.tmp 4]) rfl ?_
 simp only [go_sem]
 refine indexStr hp ?_
 simp only [go_sem]
 rw [idx_any]
 exact finH1 rfl (.raw _) hK
abbrev orderA (p: List Nat × Bool): AV := .tup [.lst 1 (p.1.map AV.n) none,.b p.2]
theorem pure_orderA (p: List Nat × Bool): Go.Abs.Pure (orderA p) := by
 refine .tup _ (pure_cons (.lst _ _ fun c hc => ?_) (pure_cons (.raw _) pure_nil))
 have: flat (p.1.map AV.n) = p.1.map AV.n := by
  generalize p.1 = l
  induction l with
  | nil => rfl
  | cons x l ih => simp only [List.map_cons]; rw [show flat (AV.n x :: l.map AV.n) = AV.n x :: flat (l.map AV.n) from rfl,ih]
 rw [this] at hc
 obtain ⟨n,_,rfl⟩ := List.mem_map.1 hc
 exact .raw _
theorem Weak.tups2 {cs ds: List AV} (h: WeakL cs ds): Weak (.tup cs) (.tup ds) := .tup cs ds h.at.1 h.at.2
theorem weak_order (out: List Nat) (b: Bool) (k: Option Nat): Weak (.tup [.lst 1 (out.map AV.n) k,.b b]) (orderA (out,b)) := Weak.tups2 ⟨by cases k <;> first | exact .refl _ | exact .tok _ _ _,.refl _,trivial⟩
theorem flat_le {α: Type} {c: Nat}: ∀ {N: List (List α)},(∀ l ∈ N,l.length ≤ c) → N.flatten.length ≤ N.length * c
 | [],_ => by simp
 | n :: N,h => by
  have h1 := flat_le (N := N) fun l hl => h l (List.mem_cons_of_mem _ hl)
  have h2 := h n List.mem_cons_self
  rw [List.flatten_cons,List.length_append,List.length_cons,Nat.succ_mul]
  omega
def mineK (k: Int) (m: ByteArray): List ByteArray := if k = 3 ∨ k = 11 ∨ k = 12 then [m] else []
def keepK (k: Int) (s: List Ex): List Ex := if k = 10 then [] else if k = 8 then s.take 1 else s
mutual
def readsF: Ex → List ByteArray
 | .mk k _ m _ _ s => mineK k m ++ (if k = 10 then [] else if k = 8 then readsH s else readsL s)
def readsH: List Ex → List ByteArray
 | [] => []
 | x :: _ => readsF x
def readsL: List Ex → List ByteArray
 | [] => []
 | x :: xs => readsF x ++ readsL xs
end
theorem readsF_eq (e: Ex): readsF e = mineK e.kind e.name ++ readsL (keepK e.kind e.subs) := by
 cases e with
 | mk k n m o a s =>
  simp only [readsF,Ex.kind,Ex.name,Ex.subs,keepK]
  by_cases h1: k = 10
  ·
   simp [h1,readsL]
  ·
   by_cases h2: k = 8
   ·
    cases s <;> simp [h2,readsH,readsL]
   ·
    simp [h1,h2]
theorem readsL_append (l m: List Ex): readsL (l ++ m) = readsL l ++ readsL m := by
 induction l with
 | nil => simp [readsL]
 | cons x l ih => simp [readsL,ih]
theorem readsL_take {l: List Ex} {k: Nat} (h: k < l.length): readsL (l.take (k + 1)) = readsL (l.take k) ++ readsF l[k] := by
 rw [List.take_succ_eq_append_getElem h,readsL_append]
 simp [readsL]
theorem readsL_le {l: List Ex} {k: Nat}: (readsL (l.take k)).length ≤ (readsL l).length := by
 have: readsL l = readsL (l.take k) ++ readsL (l.drop k) := by rw [← readsL_append,List.take_append_drop]
 rw [this]; simp
theorem reads_le {l: List Ex} {k: Nat} (h: k < l.length): (readsF l[k]).length ≤ (readsL l).length := by
 have h1 := readsL_take h
 have h2 := readsL_le (l := l) (k := k + 1)
 rw [h1] at h2
 simp at h2
 omega
theorem keep_le (k: Int) (s: List Ex): (keepK k s).length ≤ s.length := by
 unfold keepK
 split
 ·
  simp
 ·
  split
  ·
   simp; omega
  ·
   exact Nat.le_refl _
theorem keep_at {k: Int} {s: List Ex} {i: Nat} (h: i < (keepK k s).length): (keepK k s)[i] = s[i]'(Nat.lt_of_lt_of_le h (keep_le k s)) := by
 unfold keepK at h ⊢
 split
 ·
  simp [*] at h
 ·
  split
  ·
   simp
  ·
   rfl
theorem keep_end {k: Int} {s: List Ex} {i: Nat} (h: k = 10 ∨ (k = 8 ∧ (i: Int) > 0) ∨ ¬ (i: Int) < s.length): (keepK k s).length ≤ i := by
 unfold keepK
 split
 ·
  simp
 ·
  split
  ·
   simp; omega
  ·
   omega
theorem keep_go {k: Int} {s: List Ex} {i: Nat} (h1: ¬ k = 10) (h2: ¬ k = 8 ∨ ¬ (i: Int) > 0) (h3: (i: Int) < s.length): i < (keepK k s).length := by
 unfold keepK
 split
 ·
  contradiction
 ·
  split
  ·
   simp; omega
  ·
   omega
theorem reads43: ∀ (e: Ex),(readsF e).length ≤ 100000 → PCall Tryz.prog 193 [e.enc] (.lst 1 ((readsF e).map AV.s) none) := by
 intro e
 induction e using Ex.ind with
 | _ e ih =>
 intro hl
 refine pcall_of_vc tabOK Tryz.func193 (by kernel_rfl) rfl pureL pureI (n := 52) rfl (rs := [.tmp 2]) rfl ?_
 rw [readsF_eq] at hl ⊢
 repeat' first | simp only [go_sem] | refine ⟨by omega,?_⟩ | refine brK_dec (fun _ => ?_) (fun _ => ?_) | refine gqK_dec (fun _ => ?_) (fun _ => ?_) | refine gK_dec (fun _ => ?_) (fun _ => ?_)
 all_goals
  refine loop_fr [3,4,24,25,26,27,28,29,30,31,32,33,34,35,36,37,38,39,40,41,42,43,44,45,46,47,48,49,50] (fun m C h => ∃ (i: Nat) (r: List Blk),i ≤ e.subs.length ∧ m = e.subs.length - i ∧
   C = [(4,.raw (.int .i64 (i: Nat))),(3,.lst 1 ((mineK e.kind e.name ++ readsL ((keepK e.kind e.subs).take i)).map AV.s) (some 1))] ∧
   h = .cells 72 [.i e.kind,.i e.n,.s e.name,.i e.op,.lst 1 (e.arms.map AV.s) none,.lst 6 (e.subs.map Ex.enc) none] :: .tok 9 1 (mineK e.kind e.name ++ readsL ((keepK e.kind e.subs).take i)).length :: r)
   (e.subs.length) _ ⟨0,_,by omega,rfl,rfl,by simp [mineK,readsL,*]; rfl⟩ (.cons rfl (.cons (by simp [mineK,readsL,*]) .nil)) ?_
  rintro m C j h ⟨i,r,hi,rfl,rfl,rfl⟩
  simp only [go_sem]
  have hkl := keep_le e.kind e.subs
  repeat' first | simp only [go_sem] | (intro _) | refine ⟨by omega,?_⟩ | refine brK_dec (fun _ => ?_) (fun _ => ?_) | refine gqK_dec (fun _ => ?_) (fun _ => ?_) | refine gK_dec (fun _ => ?_) (fun _ => ?_)
  all_goals first
   | (rw [List.take_of_length_le (keep_end (by omega))]; exact ⟨_,rfl,false,.tok _ _ _⟩)
   | (have hend: (keepK e.kind e.subs).length ≤ i := keep_end (by omega)
     exact loopFr (e.subs.length - (i + 1)) (by omega) ⟨i + 1,r,by omega,rfl,rfl,by rw [List.take_of_length_le hend,List.take_of_length_le (by omega)]⟩ (.next rfl (by omega) (.cons (by rw [List.take_of_length_le hend,List.take_of_length_le (by omega)]; rfl) .nil)) rfl)
   | (have hlt: i < (keepK e.kind e.subs).length := keep_go (by assumption) (by first | exact Or.inl (by assumption) | exact Or.inr (by assumption)) (by assumption)
     have hlt': i < e.subs.length := by omega
     have h1 := reads_le hlt
     have h2 := readsL_le (l := keepK e.kind e.subs) (k := i + 1)
     have h3 := readsL_take hlt
     rw [keep_at hlt] at h1 h3
     have hl' := hl
     rw [h3] at h2
     simp only [List.length_append] at hl' h1 h2
     refine elemK (e.subs[i]).enc (by omega) (map_at _ (List.getElem?_eq_getElem hlt')) ?_
     simp only [go_sem]
     refine PCall.call (ih e.subs[i] (List.getElem_mem _) (by omega)) ?_
     simp only [go_sem]
     refine ⟨by omega,?_⟩
     refine loopFr (e.subs.length - (i + 1)) (by omega) ⟨i + 1,r,by omega,rfl,rfl,?_⟩ (.next rfl (by omega) (.cons ?_ .nil)) rfl
     ·
      rw [h3]; simp [slot]; try omega
     ·
      rw [h3]; simp [slot])
abbrev exB (e: Ex): Blk := .cells 72 [.i e.kind,.i e.n,.s e.name,.i e.op,.lst 1 (e.arms.map AV.s) none,.lst 6 (e.subs.map Ex.enc) none]
theorem reads42: ∀ (e: Ex),(readsF e).length ≤ 100000 → PCall Tryz.prog 203 [e.enc] (.lst 1 ((readsF e).map AV.s) none) := by
 intro e
 induction e using Ex.ind with
 | _ e ih =>
 intro hl
 refine pcall_of_vc tabOK Tryz.func203 (by kernel_rfl) rfl pureL pureI (n := 41) rfl (rs := [.tmp 2]) rfl ?_
 rw [readsF_eq] at hl ⊢
 repeat' first | simp only [go_sem] | (intro _) | refine ⟨by omega,?_⟩ | refine brK_dec (fun _ => ?_) (fun _ => ?_) | refine gqK_dec (fun _ => ?_) (fun _ => ?_) | refine gK_dec (fun _ => ?_) (fun _ => ?_)
 iterate 3
  ·
   have hk: keepK e.kind e.subs = e.subs := by simp [keepK,*]
   have hm: mineK e.kind e.name = [e.name] := by simp [mineK,*]
   rw [hk,hm] at hl ⊢
   refine loop_fr [3,6,31,32,33,34,35,36,37,38,39] (fun m C h => ∃ (i: Nat) (b: Blk) (r: List Blk),i ≤ e.subs.length ∧ m = e.subs.length - i ∧
    C = [(31,.raw (.int .i64 (i: Nat))),(3,.lst 1 (([e.name] ++ readsL (e.subs.take i)).map AV.s) (some 2))] ∧
    h = .cells 72 [.i e.kind,.i e.n,.s e.name,.i e.op,.lst 1 (e.arms.map AV.s) none,.lst 6 (e.subs.map Ex.enc) none] :: b :: .tok 9 1 ([e.name] ++ readsL (e.subs.take i)).length :: r)
    (e.subs.length) _ ⟨0,_,_,by omega,rfl,rfl,by simp [readsL]; exact ⟨rfl,rfl⟩⟩ (.cons rfl (.cons (by simp [readsL]) .nil)) ?_
   rintro m C j h ⟨i,b,r,hi,rfl,rfl,rfl⟩
   simp only [go_sem]
   refine brK_dec (fun hlt => ?_) (fun hge => ?_)
   ·
    have hlt': i < e.subs.length := by omega
    have h1 := reads_le hlt'
    have h2 := readsL_le (l := e.subs) (k := i + 1)
    have h3 := readsL_take hlt'
    have hl' := hl
    rw [h3] at h2
    simp only [List.length_append,List.length_cons,List.length_nil] at hl' h1 h2
    simp only [go_sem]
    refine elemK (e.subs[i]).enc (by omega) (map_at _ (List.getElem?_eq_getElem hlt')) ?_
    simp only [go_sem]
    refine PCall.call (ih e.subs[i] (List.getElem_mem _) (by omega)) ?_
    simp only [go_sem]
    refine ⟨by omega,?_⟩
    refine loopFr (e.subs.length - (i + 1)) (by omega) ⟨i + 1,b,r ++ [exB e.subs[i]],by omega,rfl,rfl,?_⟩ (.next rfl (by omega) (.cons ?_ .nil)) rfl
    ·
     rw [h3]; simp [slot]; try rfl
    ·
     rw [h3]; simp [slot]
   ·
    rw [List.take_of_length_le (by omega)]
    simp only [go_sem]
    exact ⟨_,rfl,false,.tok _ _ _⟩
 ·
  have hk: keepK e.kind e.subs = [] := by simp [keepK,*]
  have hm: mineK e.kind e.name = [] := by simp [mineK,*]
  rw [hk,hm,readsL]
  refine loop_frH [3,6,31,32,33,34,35,36,37,38,39] (fun m C => C = [(31,.raw (.int .i64 0)),(3,.raw (.slice none 0 0))]) 0 _ rfl (.cons rfl (.cons rfl .nil)) ?_
  rintro m C j rfl
  simp only [go_sem]
  exact ⟨_,rfl,false,.nil _⟩
 ·
  have hmem: ∀ x,x ∈ List.take (if (e.subs.length: Int) < 1 then (e.subs.length: Int) else 1).toNat e.subs → x ∈ e.subs := fun x hx => List.mem_of_mem_take hx
  have hk: keepK e.kind e.subs = List.take (if (e.subs.length: Int) < 1 then (e.subs.length: Int) else 1).toNat e.subs := by
   by_cases h: (e.subs.length: Int) < 1
   ·
    have: e.subs = [] := List.length_eq_zero_iff.1 (by omega)
    simp [keepK,*]
   ·
    simp [keepK,h,*]
  generalize List.take (if (e.subs.length: Int) < 1 then (e.subs.length: Int) else 1).toNat e.subs = S at *
  have hm: mineK e.kind e.name = [] := by simp [mineK,*]
  rw [hk,hm,List.nil_append] at hl ⊢
  refine loop_ghost (ghost_own 3 9 1 rfl) ?_
  simp only [go_sem]
  refine loop_fr [3,6,31,32,33,34,35,36,37,38,39] (fun m C h => ∃ (i: Nat) (r: List Blk),i ≤ S.length ∧ m = S.length - i ∧
   C = [(31,.raw (.int .i64 (i: Nat))),(3,.own 1 1 ((readsL (S.take i)).map AV.s).length)] ∧ h = exB e :: .own 9 1 ((readsL (S.take i)).map AV.s) :: r)
   S.length _ ⟨0,[],by omega,rfl,rfl,rfl⟩ (.cons rfl (.cons rfl .nil)) ?_
  rintro m C j h ⟨i,r,hi,rfl,rfl,rfl⟩
  simp only [go_sem]
  refine brK_dec (fun hlt => ?_) (fun hge => ?_)
  ·
   have hlt': i < S.length := by omega
   have h1 := reads_le hlt'
   have h2 := readsL_le (l := S) (k := i + 1)
   have h3 := readsL_take hlt'
   rw [h3] at h2
   simp only [List.length_append] at h1 h2
   simp only [go_sem]
   refine elemK (S[i]).enc (by omega) (map_at _ (List.getElem?_eq_getElem hlt')) ?_
   simp only [go_sem]
   refine PCall.call (ih S[i] (hmem _ (List.getElem_mem _)) (by omega)) ?_
   simp only [go_sem]
   refine ⟨by first | omega | (simp; omega),?_⟩
   refine loopFr (S.length - (i + 1)) (by omega) ⟨i + 1,r ++ [exB S[i]],by omega,rfl,rfl,?_⟩ (.next rfl (by omega) (.cons ?_ .nil)) rfl
   ·
    rw [h3]; simp; try rfl
   ·
    rw [h3]; simp [slot]; try omega
  ·
   rw [List.take_of_length_le (by omega)]
   simp only [go_sem]
   refine ⟨_,rfl,true,?_⟩
   have hz: ∀ R: List Blk,frz (exB e :: .own 9 1 ((readsL S).map AV.s) :: R) (.own 1 1 (readsL S).length) = .lst 1 ((readsL S).map AV.s) none := by
    intro R
    simp [frz]
   show Weak (frz (exB e :: .own 9 1 ((readsL S).map AV.s) :: r) (.own 1 1 (readsL S).length)) _
   rw [hz]
   exact .refl _
 ·
  have hmem: ∀ x,x ∈ e.subs → x ∈ e.subs := fun x hx => hx
  have hk: keepK e.kind e.subs = e.subs := by simp [keepK,*]
  have hm: mineK e.kind e.name = [] := by simp [mineK,*]
  rw [hk,hm,List.nil_append] at hl ⊢
  refine loop_ghost (ghost_own 3 9 1 rfl) ?_
  simp only [go_sem]
  refine loop_fr [3,6,31,32,33,34,35,36,37,38,39] (fun m C h => ∃ (i: Nat) (r: List Blk),i ≤ e.subs.length ∧ m = e.subs.length - i ∧
   C = [(31,.raw (.int .i64 (i: Nat))),(3,.own 1 1 ((readsL (e.subs.take i)).map AV.s).length)] ∧ h = exB e :: .own 9 1 ((readsL (e.subs.take i)).map AV.s) :: r)
   e.subs.length _ ⟨0,[],by omega,rfl,rfl,rfl⟩ (.cons rfl (.cons rfl .nil)) ?_
  rintro m C j h ⟨i,r,hi,rfl,rfl,rfl⟩
  simp only [go_sem]
  refine brK_dec (fun hlt => ?_) (fun hge => ?_)
  ·
   have hlt': i < e.subs.length := by omega
   have h1 := reads_le hlt'
   have h2 := readsL_le (l := e.subs) (k := i + 1)
   have h3 := readsL_take hlt'
   rw [h3] at h2
   simp only [List.length_append] at h1 h2
   simp only [go_sem]
   refine elemK (e.subs[i]).enc (by omega) (map_at _ (List.getElem?_eq_getElem hlt')) ?_
   simp only [go_sem]
   refine PCall.call (ih e.subs[i] (hmem _ (List.getElem_mem _)) (by omega)) ?_
   simp only [go_sem]
   refine ⟨by first | omega | (simp; omega),?_⟩
   refine loopFr (e.subs.length - (i + 1)) (by omega) ⟨i + 1,r ++ [exB e.subs[i]],by omega,rfl,rfl,?_⟩ (.next rfl (by omega) (.cons ?_ .nil)) rfl
   ·
    rw [h3]; simp; try rfl
   ·
    rw [h3]; simp [slot]; try omega
  ·
   rw [List.take_of_length_le (by omega)]
   simp only [go_sem]
   refine ⟨_,rfl,true,?_⟩
   have hz: ∀ R: List Blk,frz (exB e :: .own 9 1 ((readsL e.subs).map AV.s) :: R) (.own 1 1 (readsL e.subs).length) = .lst 1 ((readsL e.subs).map AV.s) none := by
    intro R
    simp [frz]
   show Weak (frz (exB e :: .own 9 1 ((readsL e.subs).map AV.s) :: r) (.own 1 1 (readsL e.subs).length)) _
   rw [hz]
   exact .refl _
theorem pure_flat_strs (l: List ByteArray): ∀ c ∈ flat (l.map AV.s),Go.Abs.Pure c := by
 have := pure_strs l
 cases this with
 | lst _ _ h => exact h
theorem reads43T (e: Ex) (hl: (readsF e).length ≤ 100000) {h: List Blk} {K: AV → List Blk → Prop} (hK: K (.lst 1 ((readsF e).map AV.s) (some h.length)) (h ++ [.tok 9 1 (readsF e).length])): ACall Tryz.prog 193 [e.enc] h K := by
 refine tcall (e := 9) (sz := 1) (l := (readsF e).map AV.s) (fun KK hk0 => acallT_of_vc tabOK Tryz.func193 (by kernel_rfl) rfl (n := 52) rfl (rs := [.tmp 2]) rfl (e := 9) (sz := 1) (l := (readsF e).map AV.s) ?_) (pure_cons (pure_enc e) pure_nil) (pure_flat_strs _) (by simpa using hK)
 have hpl := pure_flat_strs (readsF e)
 clear hK
 rw [readsF_eq] at hl hpl hk0 ⊢
 repeat' first | simp only [go_sem] | refine ⟨by omega,?_⟩ | refine brK_dec (fun _ => ?_) (fun _ => ?_) | refine gqK_dec (fun _ => ?_) (fun _ => ?_) | refine gK_dec (fun _ => ?_) (fun _ => ?_)
 all_goals
  refine loop_fr [3,4,24,25,26,27,28,29,30,31,32,33,34,35,36,37,38,39,40,41,42,43,44,45,46,47,48,49,50] (fun m C h => ∃ (i: Nat) (r: List Blk),i ≤ e.subs.length ∧ m = e.subs.length - i ∧
   C = [(4,.raw (.int .i64 (i: Nat))),(3,.lst 1 ((mineK e.kind e.name ++ readsL ((keepK e.kind e.subs).take i)).map AV.s) (some 1))] ∧
   h = .cells 72 [.i e.kind,.i e.n,.s e.name,.i e.op,.lst 1 (e.arms.map AV.s) none,.lst 6 (e.subs.map Ex.enc) none] :: .tok 9 1 (mineK e.kind e.name ++ readsL ((keepK e.kind e.subs).take i)).length :: r)
   (e.subs.length) _ ⟨0,_,by omega,rfl,rfl,by simp [mineK,readsL,*]; rfl⟩ (.cons rfl (.cons (by simp [mineK,readsL,*]) .nil)) ?_
  rintro m C j h ⟨i,r,hi,rfl,rfl,rfl⟩
  simp only [go_sem]
  have hkl := keep_le e.kind e.subs
  repeat' first | simp only [go_sem] | (intro _) | refine ⟨by omega,?_⟩ | refine brK_dec (fun _ => ?_) (fun _ => ?_) | refine gqK_dec (fun _ => ?_) (fun _ => ?_) | refine gK_dec (fun _ => ?_) (fun _ => ?_)
  all_goals first
   | (rw [List.take_of_length_le (keep_end (by omega))]; exact finTk (k := 1) hk0 rfl rfl rfl (by simp) hpl)
   | (have hend: (keepK e.kind e.subs).length ≤ i := keep_end (by omega)
     exact loopFr (e.subs.length - (i + 1)) (by omega) ⟨i + 1,r,by omega,rfl,rfl,by rw [List.take_of_length_le hend,List.take_of_length_le (by omega)]⟩ (.next rfl (by omega) (.cons (by rw [List.take_of_length_le hend,List.take_of_length_le (by omega)]; rfl) .nil)) rfl)
   | (have hlt: i < (keepK e.kind e.subs).length := keep_go (by assumption) (by first | exact Or.inl (by assumption) | exact Or.inr (by assumption)) (by assumption)
     have hlt': i < e.subs.length := by omega
     have h1 := reads_le hlt
     have h2 := readsL_le (l := keepK e.kind e.subs) (k := i + 1)
     have h3 := readsL_take hlt
     rw [keep_at hlt] at h1 h3
     have hl' := hl
     rw [h3] at h2
     simp only [List.length_append] at hl' h1 h2
     refine elemK (e.subs[i]).enc (by omega) (map_at _ (List.getElem?_eq_getElem hlt')) ?_
     simp only [go_sem]
     refine PCall.call (reads43 e.subs[i] (by omega)) ?_
     simp only [go_sem]
     refine ⟨by omega,?_⟩
     refine loopFr (e.subs.length - (i + 1)) (by omega) ⟨i + 1,r,by omega,rfl,rfl,?_⟩ (.next rfl (by omega) (.cons ?_ .nil)) rfl
     ·
      rw [h3]; simp [slot]; try omega
     ·
      rw [h3]; simp [slot])
theorem reads42T (e: Ex) (hl: (readsF e).length ≤ 100000) {h: List Blk} {K: AV → List Blk → Prop} (hK: K (.lst 1 ((readsF e).map AV.s) (some h.length)) (h ++ [.tok 9 1 (readsF e).length])): ACall Tryz.prog 203 [e.enc] h K := by
 refine tcall (e := 9) (sz := 1) (l := (readsF e).map AV.s) (fun KK hk0 => acallT_of_vc tabOK Tryz.func203 (by kernel_rfl) rfl (n := 41) rfl (rs := [.tmp 2]) rfl (e := 9) (sz := 1) (l := (readsF e).map AV.s) ?_) (pure_cons (pure_enc e) pure_nil) (pure_flat_strs _) (by simpa using hK)
 have hpl := pure_flat_strs (readsF e)
 clear hK
 rw [readsF_eq] at hl hpl hk0 ⊢
 repeat' first | simp only [go_sem] | (intro _) | refine ⟨by omega,?_⟩ | refine brK_dec (fun _ => ?_) (fun _ => ?_) | refine gqK_dec (fun _ => ?_) (fun _ => ?_) | refine gK_dec (fun _ => ?_) (fun _ => ?_)
 iterate 3
  ·
   have hk: keepK e.kind e.subs = e.subs := by simp [keepK,*]
   have hm: mineK e.kind e.name = [e.name] := by simp [mineK,*]
   rw [hk,hm] at hl hpl hk0 ⊢
   refine loop_fr [3,6,31,32,33,34,35,36,37,38,39] (fun m C h => ∃ (i: Nat) (b: Blk) (r: List Blk),i ≤ e.subs.length ∧ m = e.subs.length - i ∧
    C = [(31,.raw (.int .i64 (i: Nat))),(3,.lst 1 (([e.name] ++ readsL (e.subs.take i)).map AV.s) (some 2))] ∧
    h = exB e :: b :: .tok 9 1 ([e.name] ++ readsL (e.subs.take i)).length :: r)
    (e.subs.length) _ ⟨0,_,_,by omega,rfl,rfl,by simp [readsL]; exact ⟨rfl,rfl⟩⟩ (.cons rfl (.cons (by simp [readsL]) .nil)) ?_
   rintro m C j h ⟨i,b,r,hi,rfl,rfl,rfl⟩
   simp only [go_sem]
   refine brK_dec (fun hlt => ?_) (fun hge => ?_)
   ·
    have hlt': i < e.subs.length := by omega
    have h1 := reads_le hlt'
    have h2 := readsL_le (l := e.subs) (k := i + 1)
    have h3 := readsL_take hlt'
    have hl' := hl
    rw [h3] at h2
    simp only [List.length_append,List.length_cons,List.length_nil] at hl' h1 h2
    simp only [go_sem]
    refine elemK (e.subs[i]).enc (by omega) (map_at _ (List.getElem?_eq_getElem hlt')) ?_
    simp only [go_sem]
    refine PCall.call (reads42 e.subs[i] (by omega)) ?_
    simp only [go_sem]
    refine ⟨by omega,?_⟩
    refine loopFr (e.subs.length - (i + 1)) (by omega) ⟨i + 1,b,r ++ [exB e.subs[i]],by omega,rfl,rfl,?_⟩ (.next rfl (by omega) (.cons ?_ .nil)) rfl
    ·
     rw [h3]; simp [slot]; try rfl
    ·
     rw [h3]; simp [slot]
   ·
    rw [List.take_of_length_le (by omega)]
    simp only [go_sem]
    exact finTk (k := 2) hk0 rfl rfl rfl (by simp) hpl
 ·
  have hk: keepK e.kind e.subs = [] := by simp [keepK,*]
  have hm: mineK e.kind e.name = [] := by simp [mineK,*]
  rw [hk,hm,readsL] at hl hpl hk0 ⊢
  refine loop_ghost (ghost_tok 3 9 1 rfl) ?_
  simp only [go_sem]
  refine loop_frH [3,6,31,32,33,34,35,36,37,38,39] (fun m C => C = [(31,.raw (.int .i64 0)),(3,.lst 1 [] (some 1))]) 0 _ rfl (.cons rfl (.cons rfl .nil)) ?_
  rintro m C j rfl
  simp only [go_sem]
  exact finTk (k := 1) hk0 rfl rfl rfl (by simp) hpl
 ·
  have hk: keepK e.kind e.subs = List.take (if (e.subs.length: Int) < 1 then (e.subs.length: Int) else 1).toNat e.subs := by
   by_cases h: (e.subs.length: Int) < 1
   ·
    have: e.subs = [] := List.length_eq_zero_iff.1 (by omega)
    simp [keepK,*]
   ·
    simp [keepK,h,*]
  generalize List.take (if (e.subs.length: Int) < 1 then (e.subs.length: Int) else 1).toNat e.subs = S at *
  have hm: mineK e.kind e.name = [] := by simp [mineK,*]
  rw [hk,hm,List.nil_append] at hl hpl hk0 ⊢
  refine loop_ghost (ghost_tok 3 9 1 rfl) ?_
  simp only [go_sem]
  refine loop_fr [3,6,31,32,33,34,35,36,37,38,39] (fun m C h => ∃ (i: Nat) (r: List Blk),i ≤ S.length ∧ m = S.length - i ∧
   C = [(31,.raw (.int .i64 (i: Nat))),(3,.lst 1 ((readsL (S.take i)).map AV.s) (some 1))] ∧ h = exB e :: .tok 9 1 (readsL (S.take i)).length :: r)
   S.length _ ⟨0,[],by omega,rfl,rfl,rfl⟩ (.cons rfl (.cons rfl .nil)) ?_
  rintro m C j h ⟨i,r,hi,rfl,rfl,rfl⟩
  simp only [go_sem]
  refine brK_dec (fun hlt => ?_) (fun hge => ?_)
  ·
   have hlt': i < S.length := by omega
   have h1 := reads_le hlt'
   have h2 := readsL_le (l := S) (k := i + 1)
   have h3 := readsL_take hlt'
   rw [h3] at h2
   simp only [List.length_append] at h1 h2
   simp only [go_sem]
   refine elemK (S[i]).enc (by omega) (map_at _ (List.getElem?_eq_getElem hlt')) ?_
   simp only [go_sem]
   refine PCall.call (reads42 S[i] (by omega)) ?_
   simp only [go_sem]
   refine ⟨by first | omega | (simp; omega),?_⟩
   refine loopFr (S.length - (i + 1)) (by omega) ⟨i + 1,r ++ [exB S[i]],by omega,rfl,rfl,?_⟩ (.next rfl (by omega) (.cons ?_ .nil)) rfl
   ·
    rw [h3]; simp; try rfl
   ·
    rw [h3]; simp [slot]; try omega
  ·
   rw [List.take_of_length_le (by omega)]
   simp only [go_sem]
   exact finTk (k := 1) hk0 rfl rfl rfl (by simp) hpl
 ·
  have hk: keepK e.kind e.subs = e.subs := by simp [keepK,*]
  have hm: mineK e.kind e.name = [] := by simp [mineK,*]
  rw [hk,hm,List.nil_append] at hl hpl hk0 ⊢
  refine loop_ghost (ghost_tok 3 9 1 rfl) ?_
  simp only [go_sem]
  refine loop_fr [3,6,31,32,33,34,35,36,37,38,39] (fun m C h => ∃ (i: Nat) (r: List Blk),i ≤ e.subs.length ∧ m = e.subs.length - i ∧
   C = [(31,.raw (.int .i64 (i: Nat))),(3,.lst 1 ((readsL (e.subs.take i)).map AV.s) (some 1))] ∧ h = exB e :: .tok 9 1 (readsL (e.subs.take i)).length :: r)
   e.subs.length _ ⟨0,[],by omega,rfl,rfl,rfl⟩ (.cons rfl (.cons rfl .nil)) ?_
  rintro m C j h ⟨i,r,hi,rfl,rfl,rfl⟩
  simp only [go_sem]
  refine brK_dec (fun hlt => ?_) (fun hge => ?_)
  ·
   have hlt': i < e.subs.length := by omega
   have h1 := reads_le hlt'
   have h2 := readsL_le (l := e.subs) (k := i + 1)
   have h3 := readsL_take hlt'
   rw [h3] at h2
   simp only [List.length_append] at h1 h2
   simp only [go_sem]
   refine elemK (e.subs[i]).enc (by omega) (map_at _ (List.getElem?_eq_getElem hlt')) ?_
   simp only [go_sem]
   refine PCall.call (reads42 e.subs[i] (by omega)) ?_
   simp only [go_sem]
   refine ⟨by first | omega | (simp; omega),?_⟩
   refine loopFr (e.subs.length - (i + 1)) (by omega) ⟨i + 1,r ++ [exB e.subs[i]],by omega,rfl,rfl,?_⟩ (.next rfl (by omega) (.cons ?_ .nil)) rfl
   ·
    rw [h3]; simp; try rfl
   ·
    rw [h3]; simp [slot]; try omega
  ·
   rw [List.take_of_length_le (by omega)]
   simp only [go_sem]
   exact finTk (k := 1) hk0 rfl rfl rfl (by simp) hpl
end Go.Proofs.YtpamokpmlplopaaGreatDoor
namespace Go.Proofs.YtpamokpmlplopaaGreatDoor
open Go.Abs
set_option maxRecDepth 20000
set_option linter.unusedSimpArgs false
set_option linter.unusedVariables false
set_option maxHeartbeats 1000000
attribute [local irreducible] vc vcOps vcStep vcGuard prK hrK gK gsK brK callK ElemK SeqK BlockK ScopeK OpsK CallK LoopK LoopGo finPost ACall PCall PCallE BCall vqOps vqStep vqGuard qrK heK pcK gqK gqsK QOpsK qcallK DrawK
def hangsF (n: DNode) (q: DEq): List ByteArray := readsF q.E ++ (match q.Names with | [] => [] | s :: _ => (clock n s).1.map DDecl.On)
def okH (n: DNode) (q: DEq): Prop := (readsF q.E).length ≤ 100000 ∧ (allV n).length ≤ 4294967296
theorem on_take {l: List DDecl} {A acc: List ByteArray} {i: Nat} {x: DDecl} (h: acc = A ++ (l.take i).map DDecl.On ∧ acc.length ≤ A.length + i) (hx: l[((i: Nat): Int).toNat]? = some x): acc ++ [x.On] = A ++ (l.take (i + 1)).map DDecl.On ∧ (acc ++ [x.On]).length ≤ A.length + (i + 1) := by
 refine ⟨?_,by have := h.2; simp; omega⟩
 rw [take_mapS hx,← List.append_assoc,← h.1]
theorem on_done {l: List DDecl} {A acc: List ByteArray} {i: Nat} (h: acc = A ++ (l.take i).map DDecl.On ∧ acc.length ≤ A.length + i) (hi: ¬ (i: Int) < l.length): A ++ l.map DDecl.On = acc := by
 rw [h.1,List.take_of_length_le (by omega)]
theorem hangs123 (n: DNode) (q: DEq) (hl: okH n q): PCall Tryz.prog 159 [n.enc,q.enc] (.lst 1 ((hangsF n q).map AV.s) none) := by
 refine pcall_of_vc tabOK Tryz.func159 (by kernel_rfl) rfl pureL pureI (n := 40) rfl (rs := [.tmp 4]) rfl ?_
 obtain ⟨Ns,E⟩ := q
 obtain ⟨hl,hn⟩ := hl
 rcases Ns with _ | ⟨s,ss⟩
 ·
  repeat' first
  | exact finB rfl
  | exact finI rfl
  | exact finP rfl
  | exact absurd rfl (by assumption)
  | simp only [go_sem]
  | (intro _)
  | refine brK_dec (fun _ => ?_) (fun _ => ?_)
  | refine brK_any ?_ ?_
  | refine gK_dec (fun _ => ?_) (fun _ => ?_)
  | refine gK_any ?_ ?_
  | refine gqK_dec (fun _ => ?_) (fun _ => ?_)
  | refine ⟨by omega,?_⟩
  | refine elemHave (by omega) (by assumption) ?_
  | refine elemMap (by omega) (by omega) (fun x hx => ?_)
  | refine drawK mo (by kernel_rfl) ?_
  | (refine reads42T E hl ?_)
  | (simp only [hangsF,List.append_nil]; exact ⟨_,rfl,false,.tok _ _ _⟩)
  | (exact absurd rfl (by assumption))
 ·
  have hcl := clock_len n s
  have h21 := clock21 n s hn
  unfold hangsF
  dsimp only
  generalize clock n s = c at hcl h21 ⊢
  obtain ⟨l,ok⟩ := c
  dsimp only at hcl hl ⊢
  repeat' first
  | exact finB rfl
  | exact finI rfl
  | exact finP rfl
  | exact absurd rfl (by assumption)
  | simp only [go_sem]
  | (intro _)
  | refine brK_dec (fun _ => ?_) (fun _ => ?_)
  | refine brK_any ?_ ?_
  | refine gK_dec (fun _ => ?_) (fun _ => ?_)
  | refine gK_any ?_ ?_
  | refine gqK_dec (fun _ => ?_) (fun _ => ?_)
  | refine ⟨by omega,?_⟩
  | refine elemHave (by omega) (by assumption) ?_
  | refine elemMap (by omega) (by omega) (fun x hx => ?_)
  | refine drawK mo (by kernel_rfl) ?_
  | (refine reads42T E hl ?_)
  | (exfalso; omega)
  | (refine elemK (AV.s s) (by omega) rfl ?_)
  | (refine pcK_of h21 ?_)
  | (simp only [map_snoc])
  | (refine ⟨by have := hpi.2; simp; omega,?_⟩)
  | (rw [on_done hpi (by assumption)]; exact ⟨_,rfl,false,.tok _ _ _⟩)
  | exact loopFr _ (by omega) ⟨i + 1,acc ++ [x.On],b0,b1,_,by omega,rfl,on_take hpi (by assumption),rfl,(by first | rfl | (simp; done) | (simp; rfl))⟩ (.next rfl (by omega) (.cons (by first | rfl | (simp; done) | (simp; rfl)) .nil)) rfl
  | (refine loop_fr [5,9,29,30,31,32,33,34,35,36,37,38] (fun mm_ CC_ hh_ => ∃ (i: Nat) (acc: List ByteArray) (b0: Blk) (b1: Blk) (r_: List Blk),i ≤ l.length ∧ mm_ = l.length - i ∧ ((acc = readsF E ++ (l.take i).map DDecl.On ∧ acc.length ≤ (readsF E).length + i)) ∧ CC_ = [(29,.raw (.int .i64 ((i: Nat): Int))),(5,.lst 1 (acc.map AV.s) (some 2))] ∧ hh_ = b0 :: b1 :: .tok 9 1 acc.length :: r_) (l.length) _ ⟨0,readsF E,_,_,_,by omega,by omega,⟨by simp,by simp⟩,rfl,(by first | rfl | (simp; done) | (simp; rfl))⟩ (.cons (by first | rfl | (simp; done) | (simp; rfl)) (.cons (by first | rfl | (simp; done) | (simp; rfl)) .nil)) ?_; rintro mm_ CC_ ji hh_ ⟨i,acc,b0,b1,ri,hi,rfl,hpi,rfl,rfl⟩)
theorem hangs125 (n: DNode) (i: Nat) (q: DEq) (hq: n.Eqs[((i: Nat): Int).toNat]? = some q) (hl: okH n q): PCall Tryz.prog 153 [n.enc,.i (i: Int)] (.lst 1 ((hangsF n q).map AV.s) none) := by
 obtain ⟨Ns,E⟩ := q
 obtain ⟨hl,hn⟩ := hl
 have hil: (i: Int) < n.Eqs.length := by
  obtain ⟨a,_⟩ := List.getElem?_eq_some_iff.1 hq
  rw [Int.toNat_natCast] at a; omega
 refine pcall_of_vc tabOK Tryz.func153 (by kernel_rfl) rfl pureL pureI (n := 47) rfl (rs := [.tmp 4]) rfl ?_
 rcases Ns with _ | ⟨s,ss⟩
 ·
  repeat' first
  | exact finB rfl
  | exact finI rfl
  | exact finP rfl
  | exact absurd rfl (by assumption)
  | simp only [go_sem]
  | (intro _)
  | refine brK_dec (fun _ => ?_) (fun _ => ?_)
  | refine brK_any ?_ ?_
  | refine gK_dec (fun _ => ?_) (fun _ => ?_)
  | refine gK_any ?_ ?_
  | refine gqK_dec (fun _ => ?_) (fun _ => ?_)
  | refine ⟨by omega,?_⟩
  | refine elemHave (by omega) (by assumption) ?_
  | refine elemMap (by omega) (by omega) (fun x hx => ?_)
  | refine drawK mo (by kernel_rfl) ?_
  | (refine reads43T E hl ?_)
  | (simp only [hangsF,List.append_nil]; exact ⟨_,rfl,false,.tok _ _ _⟩)
  | (exact absurd rfl (by assumption))
 ·
  have hcl := clock_len n s
  have h22 := clock22 n s hn
  unfold hangsF
  dsimp only
  generalize clock n s = c at hcl h22 ⊢
  obtain ⟨l,ok⟩ := c
  dsimp only at hcl hl ⊢
  repeat' first
  | exact finB rfl
  | exact finI rfl
  | exact finP rfl
  | exact absurd rfl (by assumption)
  | simp only [go_sem]
  | (intro _)
  | refine brK_dec (fun _ => ?_) (fun _ => ?_)
  | refine brK_any ?_ ?_
  | refine gK_dec (fun _ => ?_) (fun _ => ?_)
  | refine gK_any ?_ ?_
  | refine gqK_dec (fun _ => ?_) (fun _ => ?_)
  | refine ⟨by omega,?_⟩
  | refine elemHave (by omega) (by assumption) ?_
  | refine elemMap (by omega) (by omega) (fun x hx => ?_)
  | refine drawK mo (by kernel_rfl) ?_
  | (refine reads43T E hl ?_)
  | (exfalso; omega)
  | (refine elemK (AV.s s) (by omega) rfl ?_)
  | (refine pcK_of h22 ?_)
  | (simp only [map_snoc])
  | (refine ⟨by have := hpj.2; simp; omega,?_⟩)
  | (rw [on_done hpj (by assumption)]; exact ⟨_,rfl,false,.tok _ _ _⟩)
  | exact loopFr _ (by omega) ⟨j + 1,acc ++ [x.On],b0,b1,_,by omega,rfl,on_take hpj (by assumption),rfl,(by first | rfl | (simp; done) | (simp; rfl))⟩ (.next rfl (by omega) (.cons (by first | rfl | (simp; done) | (simp; rfl)) .nil)) rfl
  | (refine loop_fr [6,9,32,33,34,35,36,37,38,39,40,41,42,43,44,45] (fun mm_ CC_ hh_ => ∃ (j: Nat) (acc: List ByteArray) (b0: Blk) (b1: Blk) (r_: List Blk),j ≤ l.length ∧ mm_ = l.length - j ∧ ((acc = readsF E ++ (l.take j).map DDecl.On ∧ acc.length ≤ (readsF E).length + j)) ∧ CC_ = [(9,.raw (.int .i64 ((j: Nat): Int))),(6,.lst 1 (acc.map AV.s) (some 2))] ∧ hh_ = b0 :: b1 :: .tok 9 1 acc.length :: r_) (l.length) _ ⟨0,readsF E,_,_,_,by omega,by omega,⟨by simp,by simp⟩,rfl,(by first | rfl | (simp; done) | (simp; rfl))⟩ (.cons (by first | rfl | (simp; done) | (simp; rfl)) (.cons (by first | rfl | (simp; done) | (simp; rfl)) .nil)) ?_; rintro mm_ CC_ jj hh_ ⟨j,acc,b0,b1,rj,hj,rfl,hpj,rfl,rfl⟩)
end Go.Proofs.YtpamokpmlplopaaGreatDoor
namespace Go.Abs
open Go
def okDn (N H: List (List ByteArray)) (pl: List Bool) (a b: Int): Prop :=
 (b = -1 ∧ ∀ j: Nat,a < j → j < N.length → readyF N H pl j = false) ∨ ∃ k: Nat,k < N.length ∧ a < k ∧ b = k ∧ readyF N H pl k = true ∧ ∀ j: Nat,a < j → j < k → readyF N H pl j = false
section
variable {N H: List (List ByteArray)} {pl: List Bool} {a b: Int}
theorem okDn.zero: okDn N H pl ((N.length: Int) - 1) (-1) := .inl ⟨rfl,fun j h1 h2 => by omega⟩
theorem okDn.hit (h: okDn N H pl a b) {i: Nat} (ha: a = i) (hi: i < N.length) (hr: readyF N H pl i = true): okDn N H pl (a - 1) i :=
 .inr ⟨i,hi,by omega,rfl,hr,fun j h1 h2 => by omega⟩
theorem okDn.miss (h: okDn N H pl a b) {i: Nat} (ha: a = i) (hr: readyF N H pl i = false): okDn N H pl (a - 1) b := by
 rcases h with ⟨h0,h⟩ | ⟨k,h1,h2,h3,h4,h5⟩
 ·
  refine .inl ⟨h0,fun j hj hl => ?_⟩
  by_cases e: j = i
  ·
   subst e; exact hr
  ·
   exact h j (by omega) hl
 ·
  refine .inr ⟨k,h1,by omega,h3,h4,fun j hj hl => ?_⟩
  by_cases e: j = i
  ·
   subst e; exact hr
  ·
   exact h5 j (by omega) hl
theorem okDn.none_ (h: okDn N H pl a b) (ha: ¬ a ≥ 0) (hb: b < 0): pickF N H pl 0 N.length = none := by
 rcases h with ⟨_,h⟩ | ⟨k,_,_,h,_⟩
 ·
  exact pick_none fun j _ hj => h j (by omega) (by omega)
 ·
  omega
theorem okDn.got (h: okDn N H pl a b) (ha: ¬ a ≥ 0) (hb: ¬ b < 0): ∃ k: Nat,b = k ∧ k < N.length ∧ pickF N H pl 0 N.length = some k ∧ pl[k]? = some false := by
 rcases h with ⟨h,_⟩ | ⟨k,h1,h2,h3,h4,h5⟩
 ·
  omega
 ·
  exact ⟨k,h3,h1,pick_some (by omega) (by omega) (fun j _ hj => h5 j (by omega) hj) h4,ready_pl h4⟩
end
def EqM (f: Value → Option AV) (H: List (List ByteArray)) (pl: List Bool): Prop := ∀ i: Nat,f (.int .i64 (i: Int)) = (match pl[i]?,H[i]? with | some false,some hs => some (.lst 1 (hs.map AV.s) none) | _,_ => none)
theorem keyEq_int (a b: Int): keyEq (.int .i64 a) (.int .i64 b) = decide (a = b) := by
 by_cases h: a = b
 ·
  subst h; simp [keyEq]
 ·
  simp [keyEq,h]
theorem EqM.nil {H: List (List ByteArray)}: EqM (fun _ => none) H [] := fun i => by simp
theorem EqM.put {f: Value → Option AV} {H: List (List ByteArray)} {i: Nat} {hs: List ByteArray} (h: EqM f H (List.replicate i false)) (hh: H[i]? = some hs): EqM (mput f (.int .i64 (i: Int)) (.lst 1 (hs.map AV.s) none)) H (List.replicate (i + 1) false) := by
 intro j
 unfold mput
 rw [keyEq_int]
 by_cases e: j = i
 ·
  subst e
  have: (List.replicate (j + 1) false)[j]? = some false := by rw [List.getElem?_replicate,if_pos (by omega)]
  rw [this,hh]
  simp
 ·
  have e1: decide ((j: Int) = (i: Int)) = false := by rw [decide_eq_false_iff_not]; omega
  rw [e1]
  have e2: (List.replicate (i + 1) false)[j]? = (List.replicate i false)[j]? := by
   rw [List.getElem?_replicate,List.getElem?_replicate]
   by_cases q: j < i
   ·
    rw [if_pos q,if_pos (by omega)]
   ·
    rw [if_neg q,if_neg (by omega)]
  rw [e2]
  exact h j
theorem EqM.more {f: Value → Option AV} {H: List (List ByteArray)} {i: Nat} (h: EqM f H (List.replicate i false)) (n: Nat): more (f (.int .i64 (i: Int))) n = n + 1 := by
 have := h i
 rw [show (List.replicate i false)[i]? = none by rw [List.getElem?_replicate,if_neg (by omega)]] at this
 rw [this]
 rfl
theorem EqM.cut {f: Value → Option AV} {H: List (List ByteArray)} {pl: List Bool} {i: Nat} (h: EqM f H pl): EqM (mcut f (.int .i64 (i: Int))) H (pl.set i true) := by
 intro j
 unfold mcut
 rw [keyEq_int]
 by_cases e: j = i
 ·
  subst e
  have e2: (pl.set j true)[j]? = some true ∨ (pl.set j true)[j]? = none := by
   rw [List.getElem?_set]
   simp only [if_true]
   by_cases q: j < pl.length
   ·
    left; rw [if_pos q]
   ·
    right; rw [if_neg q]
  rcases e2 with e2 | e2 <;> rw [e2] <;> simp
 ·
  have e1: decide ((j: Int) = (i: Int)) = false := by rw [decide_eq_false_iff_not]; omega
  rw [e1,List.getElem?_set,if_neg (fun q => e q.symm)]
  exact h j
theorem EqM.at {f: Value → Option AV} {H: List (List ByteArray)} {pl: List Bool} {i: Nat} {hs: List ByteArray} (h: EqM f H pl) (hp: pl[i]? = some false) (hh: H[i]? = some hs): f (.int .i64 (i: Int)) = some (.lst 1 (hs.map AV.s) none) := by
 rw [h i,hp,hh]
theorem EqM.no {f: Value → Option AV} {H: List (List ByteArray)} {pl: List Bool} {i: Nat} (h: EqM f H pl) (hp: pl[i]? = some true): f (.int .i64 (i: Int)) = none := by
 rw [h i,hp]
theorem EqM.less {f: Value → Option AV} {H: List (List ByteArray)} {pl: List Bool} {i: Nat} {hs: List ByteArray} (h: EqM f H pl) (hp: pl[i]? = some false) (hh: H[i]? = some hs) (n: Nat): less (f (.int .i64 (i: Int))) n = n - 1 := by
 rw [h.at hp hh]; rfl
end Go.Abs
namespace Go.Proofs.YtpamokpmlplopaaGreatDoor
open Go.Abs
set_option maxRecDepth 20000
set_option linter.unusedSimpArgs false
set_option linter.unusedVariables false
set_option maxHeartbeats 1000000
attribute [local irreducible] vc vcOps vcStep vcGuard prK hrK gK gsK brK callK ElemK SeqK BlockK ScopeK OpsK CallK LoopK LoopGo finPost ACall PCall PCallE BCall vqOps vqStep vqGuard qrK heK pcK gqK gqsK QOpsK qcallK DrawK
abbrev namesC (f: DNode): List (List ByteArray) := f.Eqs.map DEq.Names
abbrev hangsC (f: DNode): List (List ByteArray) := f.Eqs.map (hangsF f)
theorem len_namesC (f: DNode): (namesC f).length = f.Eqs.length := List.length_map ..
def okC (f: DNode): Prop := f.Eqs.length ≤ 60 ∧ ∀ q ∈ f.Eqs,q.Names.length ≤ 20 ∧ okH f q
theorem okC.hang {f: DNode} {q: DEq} {i: Nat} (h: okC f) (hq: f.Eqs[i]? = some q): okH f q := (h.2 q (List.mem_of_getElem? hq)).2
theorem okC.names {f: DNode} (h: okC f): (namesC f).flatten.length ≤ 1200 := by
 have h1 := flat_le (N := namesC f) (c := 20) fun l hl => by
  obtain ⟨q,hq,rfl⟩ := List.mem_map.1 hl
  exact (h.2 q hq).1
 have := h.1
 rw [len_namesC] at h1
 omega
theorem waits126 (f: DNode) (pl: List Bool) (s: ByteArray) (hl: pl.length = f.Eqs.length) {h: List Blk} {k: Nat} {K: AV → List Blk → Prop} (hb: blkCells h k = some (pl.map AV.b)) (hK: K (.b (waitsF (namesC f) pl s)) h) :
  ACall Tryz.prog 154 [f.enc,.sl 1 k 0 pl.length,.s s] h K := by
 obtain ⟨t,hb⟩ := blk_at hb
 refine acall_of_vc tabOK Tryz.func154 (by kernel_rfl) rfl (n := 45) rfl (rs := [.tmp 6]) rfl ?_
 repeat' first
  | exact finB rfl
  | exact finI rfl
  | exact finP rfl
  | exact absurd rfl (by assumption)
  | simp only [go_sem]
  | (intro _)
  | refine brK_dec (fun _ => ?_) (fun _ => ?_)
  | refine brK_any ?_ ?_
  | refine gK_dec (fun _ => ?_) (fun _ => ?_)
  | refine gK_any ?_ ?_
  | refine gqK_dec (fun _ => ?_) (fun _ => ?_)
  | refine ⟨by omega,?_⟩
  | refine elemHave (by omega) (by assumption) ?_
  | refine elemMap (by omega) (by omega) (fun x hx => ?_)
  | refine drawK mo (by kernel_rfl) ?_
  | (simp only [go_sem,at_app0])
  | (rw [NoW.done hpi (by rw [List.length_map]; omega)] at hK; exact finH0 _ rfl (.raw _) hK)
  | (rw [waits_yes (map_some hq) hpx (mem_eq hx (by assumption))] at hK; exact finH0 _ rfl (.raw _) hK)
  | ((fail_if_success (clear hq)); obtain ⟨q,hq⟩: ∃ q,f.Eqs[((i: Nat): Int).toNat]? = some q := ⟨_,List.getElem?_eq_getElem (by rw [Int.toNat_natCast]; omega)⟩; have hpx: pl[i]? = some pl[i] := List.getElem?_eq_getElem (by omega); generalize pl[i] = b at hpx; cases b)
  | (simp only [go_sem,at_old hb,Nat.zero_add,Nat.mul_one,Int.toNat_natCast,dropB hpx])
  | exact loopFrH _ (by omega) ⟨i + 1,by omega,rfl,NoW.step hpi (map_some hq) (not_take hpj (by omega)),rfl⟩ (.next rfl (by omega) .nil) rfl
  | (refine loop_frH [6,7,8,9,10,11,12,13,14,15,16,17,18,19,20,21,22,23,24,25,26,27,28,29,30,31,32,33,34,35,36,37,38,39,40,41,42,43,44] (fun mm_ CC_ => ∃ (i: Nat),i ≤ f.Eqs.length ∧ mm_ = f.Eqs.length - i ∧ (NoW (namesC f) pl s i) ∧ CC_ = [(7,.raw (.int .i64 ((i: Nat): Int)))]) (f.Eqs.length) _ ⟨0,by omega,by omega,NoW.zero,rfl⟩ (.cons rfl .nil) ?_; rintro mm_ CC_ ji ⟨i,hi,rfl,hpi,rfl⟩)
  | exact loopFrH _ (by omega) ⟨j + 1,by omega,rfl,(by first | exact not_step hpj (by assumption) (fun _ => by assumption) | exact fun h => absurd (hpx.symm.trans h) (by simp)),rfl⟩ (.next rfl (by omega) .nil) rfl
  | (refine loop_frH [6,8,16,17,18,19,20,21,22,23,24,25,26,27,28,29,30,31,32,33,34,35,36,37,38,39,40,41,42,43,44] (fun mm_ CC_ => ∃ (j: Nat),j ≤ q.Names.length ∧ mm_ = q.Names.length - j ∧ (pl[i]? = some false → s ∉ q.Names.take j) ∧ CC_ = [(8,.raw (.int .i64 ((j: Nat): Int)))]) (q.Names.length) _ ⟨0,by omega,by omega,by simp,rfl⟩ (.cons rfl .nil) ?_; rintro mm_ CC_ jj ⟨j,hj,rfl,hpj,rfl⟩)
theorem ready88 (f: DNode) (hf: okC f) (pl: List Bool) (i: Nat) (hl: pl.length = f.Eqs.length) (hi: i < f.Eqs.length) {h: List Blk} {k: Nat} {K: AV → List Blk → Prop} (hb: blkCells h k = some (pl.map AV.b)) (hK: K (.b (readyF (namesC f) (hangsC f) pl i)) h) :
  ACall Tryz.prog 119 [f.enc,.sl 1 k 0 pl.length,.i (i: Int)] h K := by
 obtain ⟨t,hb'⟩ := blk_at hb
 obtain ⟨q,hq⟩: ∃ q,f.Eqs[((i: Nat): Int).toNat]? = some q := ⟨_,List.getElem?_eq_getElem (by rw [Int.toNat_natCast]; omega)⟩
 have hpx: pl[i]? = some pl[i] := List.getElem?_eq_getElem (by omega)
 generalize pl[i] = b at hpx
 have hh: (hangsC f)[i]? = some (hangsF f q) := map_some hq
 refine acall_of_vc tabOK Tryz.func119 (by kernel_rfl) rfl (n := 30) rfl (rs := [.tmp 6]) rfl ?_
 simp only [go_sem]
 repeat' first
  | exact finB rfl
  | exact finI rfl
  | exact finP rfl
  | exact absurd rfl (by assumption)
  | simp only [go_sem]
  | (intro _)
  | refine brK_dec (fun _ => ?_) (fun _ => ?_)
  | refine brK_any ?_ ?_
  | refine gK_dec (fun _ => ?_) (fun _ => ?_)
  | refine gK_any ?_ ?_
  | refine gqK_dec (fun _ => ?_) (fun _ => ?_)
  | refine ⟨by omega,?_⟩
  | refine elemHave (by omega) (by assumption) ?_
  | refine elemMap (by omega) (by omega) (fun x hx => ?_)
  | refine drawK mo (by kernel_rfl) ?_
  | (simp only [go_sem,at_app0])
  | (refine PCall.call (hangs125 f i q hq (hf.hang hq)) ?_)
  | (refine pcK_ofR (v := .b (waitsF (namesC f) pl x)) (fun h9 K9 hm9 hk9 => waits126 f pl x hl (hm9.cells (blk_app hb)) hk9) ?_; generalize hw: waitsF (namesC f) pl x = w; cases w)
  | (rw [ready_wait hh (List.mem_of_getElem? hx) hw] at hK; exact finH0 _ rfl (.raw _) hK)
  | (simp only [go_sem,at_old hb',Nat.zero_add,Nat.mul_one,Int.toNat_natCast,dropB hpx])
  | (rw [ready_not hpx] at hK; exact finH0 _ rfl (.raw _) hK)
  | (rw [ready_yes hpx hh (take_full hpj (by omega))] at hK; exact finH0 _ rfl (.raw _) hK)
  | exact loopFrH _ (by omega) ⟨j + 1,by omega,rfl,take_all hpj (by simpa using hx) hw,rfl⟩ (.next rfl (by omega) .nil) rfl
  | (refine loop_frH [6,8,12,13,14,15,16,17,18,19,20,21,22,23,24] (fun mm_ CC_ => ∃ (j: Nat),j ≤ (hangsF f q).length ∧ mm_ = (hangsF f q).length - j ∧ (∀ s ∈ (hangsF f q).take j,waitsF (namesC f) pl s = false) ∧ CC_ = [(8,.raw (.int .i64 ((j: Nat): Int)))]) ((hangsF f q).length) _ ⟨0,by omega,by omega,by simp,rfl⟩ (.cons rfl .nil) ?_; rintro mm_ CC_ jj ⟨j,hj,rfl,hpj,rfl⟩)
  | (cases b)
theorem ready88' (f: DNode) (hf: okC f) (pl: List Bool) (i: Nat) (n: Nat) (hn: n = pl.length) (hl: pl.length = f.Eqs.length) (hi: i < f.Eqs.length) {h: List Blk} {k: Nat} {K: AV → List Blk → Prop} (hb: blkCells h k = some (pl.map AV.b)) (hK: K (.b (readyF (namesC f) (hangsC f) pl i)) h) :
  ACall Tryz.prog 119 [f.enc,.sl 1 k 0 n,.i (i: Int)] h K := by subst hn; exact ready88 f hf pl i hl hi hb hK
theorem toNatE {a: Int} (_: -1 ≤ a) (h': a ≥ 0): ∃ i: Nat,a = i := ⟨a.toNat,by omega⟩
abbrev nodeB2 (f: DNode): Blk := .cells 68 [.s f.Name,.lst 6 (f.Ins.map DDecl.enc) none,.lst 6 (f.Outs.map DDecl.enc) none,.lst 6 (f.Vars.map DDecl.enc) none,.lst 7 (f.Eqs.map DEq.enc) none]
theorem order40 (f: DNode) (hf: okC f): PCall Tryz.prog 81 [f.enc] (orderA (orderF (namesC f) (hangsC f))) := by
 have hn := hf.1
 have hN := len_namesC f
 generalize hR: orderF (namesC f) (hangsC f) = R
 refine pcall_of_vc tabOK Tryz.func81 (by kernel_rfl) rfl (by first | exact pureL | exact pureI) (pure_orderA _) (n := 43) rfl (rs := [.tmp 2,.tmp 3]) rfl ?_
 simp only [go_sem]
 intro _
 refine ⟨by omega,?_⟩
 simp only [Int.toNat_natCast]
 refine loop_fr [2,3,5,6,7,13,14,15,16,17,18,19,20,21,22,23,24,25,26,27,28,29,30,31,32,33,34,35,36,37,38,39,40,41] (fun m C hh => ∃ (pl: List Bool) (out: List Nat) (r: List Blk),pl.length = f.Eqs.length ∧ out.length ≤ f.Eqs.length ∧ m = f.Eqs.length - out.length ∧ orderG (namesC f) (hangsC f) (f.Eqs.length - out.length) pl out = R ∧
  C = [(5,.lst 1 (out.map AV.n) (some 2))] ∧ hh = nodeB2 f :: .cells 4 (pl.map AV.b) :: .tok 3 1 out.length :: r) (f.Eqs.length) _
  ⟨List.replicate f.Eqs.length false,[],[],by simp,by simp,by simp,by rw [← hR,orderF,hN]; rfl,rfl,by simp⟩ (.cons rfl .nil) ?_
 rintro m C jo hh ⟨pl,out,r,hl,hol,rfl,hG,rfl,rfl⟩
 repeat' first
  | exact finB rfl
  | exact finI rfl
  | exact finP rfl
  | exact absurd rfl (by assumption)
  | simp only [go_sem]
  | (intro _)
  | refine brK_dec (fun _ => ?_) (fun _ => ?_)
  | refine brK_any ?_ ?_
  | refine gK_dec (fun _ => ?_) (fun _ => ?_)
  | refine gK_any ?_ ?_
  | refine gqK_dec (fun _ => ?_) (fun _ => ?_)
  | refine ⟨by omega,?_⟩
  | refine elemHave (by omega) (by assumption) ?_
  | refine elemMap (by omega) (by omega) (fun x hx => ?_)
  | refine drawK mo (by kernel_rfl) ?_
  | (rw [wrap_in _ (by omega) (by omega)])
  | (refine loop_frH [6,7,23,24,25,26,27,28,29,30,31] (fun m C => ∃ a b: Int,a < f.Eqs.length ∧ -1 ≤ a ∧ m = (a + 1).toNat ∧ okDn (namesC f) (hangsC f) pl a b ∧ C = [(7,.i a),(6,.i b)]) f.Eqs.length _ ⟨(f.Eqs.length: Int) - 1,-1,by omega,by omega,by omega,by rw [← hN]; exact okDn.zero,rfl⟩ (.cons rfl (.cons rfl .nil)) ?_; rintro m C ji ⟨a,b,ha1,ha2,rfl,hab,rfl⟩)
  | ((fail_if_success (clear hai)); have hgo := toNatE ha2 (by assumption); obtain ⟨i,rfl⟩ := hgo; have hai: True := trivial)
  | (refine ready88' f hf pl i _ hl.symm hl (by omega) (k := 1) rfl ?_; generalize hw: readyF (namesC f) (hangsC f) pl i = w; cases w)
  | (exact loopFrH _ (by omega) ⟨(i: Int) - 1,i,by omega,by omega,rfl,hab.hit rfl (by omega) hw,rfl⟩ (.cons (by first | rfl | rw [wrap_in _ (by omega) (by omega)]) (.cons rfl .nil)) rfl)
  | (exact loopFrH _ (by omega) ⟨(i: Int) - 1,b,by omega,by omega,rfl,hab.miss rfl hw,rfl⟩ (.cons (by first | rfl | rw [wrap_in _ (by omega) (by omega)]) (.cons rfl .nil)) rfl)
  | (rw [order_none (hab.none_ (by assumption) (by assumption)) (by omega)] at hG; rw [← hG]; exact ⟨_,rfl,false,weak_order _ _ _⟩)
  | ((fail_if_success (clear hpk)); have hgot := hab.got (by assumption) (by assumption); obtain ⟨k,rfl,hk,hp,hpk⟩ := hgot; rw [hN] at hk; have hkl: (k + 1 ≤ pl.length) = True := eq_true (by omega))
  | (simp only [go_sem,Nat.zero_add,Nat.mul_one,Int.toNat_natCast,List.length_map,hkl,set_b'])
  | (refine ⟨by simp; omega,?_⟩)
  | (rw [order_some hp (by omega)] at hG; refine loopFr (f.Eqs.length - (out.length + 1)) (by omega) ⟨pl.set k true,out ++ [k],r ++ [.tok 3 1 1],by simpa using hl,by simp; omega,by simp,by rw [← hG,Nat.sub_sub]; simp,rfl,?_⟩ (.cons ?_ .nil) rfl <;> (simp; done))
  | (rw [show f.Eqs.length - out.length = 0 by omega] at hG; rw [← hG]; exact ⟨_,rfl,false,weak_order _ _ _⟩)
  | (exfalso; omega)
abbrev leftB: Blk := .cells 173 [.map 3,.map 4]
abbrev zeroL: Blk := .cells 173 [.raw (.map none),.raw (.map none)]
theorem mono_maps {b0 b1 b2: Blk} {kk kk': KK} {n n': Nat} {m m': Value → Option AV} {l: List Blk}: MonoH (b0 :: b1 :: b2 :: .mp kk n m :: l) (b0 :: b1 :: b2 :: .mp kk' n' m' :: l) := ⟨by cases b0 <;> trivial,by cases b1 <;> trivial,by cases b2 <;> trivial,trivial,MonoH.refl l⟩
theorem all85 (f: DNode) (hf: okC f) (b0: Blk) {K: AV → List Blk → Prop} (hK: ∀ n m1 m2 b2 r,EqM m1 (hangsC f) (List.replicate f.Eqs.length false) → MapN m2 (fun s => opn s (namesC f) (List.replicate f.Eqs.length false)) → K (.agg [.map 3,.map 4]) (b0 :: nodeB2 f :: b2 :: .mp .int f.Eqs.length m1 :: .mp .str n m2 :: r)) :
  ACall Tryz.prog 122 [f.enc] [b0] K := by
 have hn := hf.1
 have hN := len_namesC f
 have hfl := hf.names
 refine acallK_of_vc tabOK Tryz.func122 (by kernel_rfl) rfl (n := 40) rfl (rs := [.cell 2 173]) rfl ?_
 repeat' first
  | exact finB rfl
  | exact finI rfl
  | exact finP rfl
  | exact absurd rfl (by assumption)
  | simp only [go_sem]
  | (intro _)
  | refine brK_dec (fun _ => ?_) (fun _ => ?_)
  | refine brK_any ?_ ?_
  | refine gK_dec (fun _ => ?_) (fun _ => ?_)
  | refine gK_any ?_ ?_
  | refine gqK_dec (fun _ => ?_) (fun _ => ?_)
  | refine ⟨by omega,?_⟩
  | refine elemHave (by omega) (by assumption) ?_
  | ((fail_if_success (clear hq)); refine elemMap (by omega) (by omega) (fun q hq => ?_))
  | refine elemMap (by omega) (by omega) (fun x hx => ?_)
  | refine drawK mo (by kernel_rfl) ?_
  | (simp only [go_sem,hpj.at _])
  | ((fail_if_success (clear hh)); have hh: (hangsC f)[i]? = some (hangsF f q) := map_some (by simpa using hq))
  | (refine pcK_of (hangs123 f q (hf.hang (by simpa using hq))) ?_)
  | (refine ⟨mono_maps,?_⟩)
  | (simp only [hpi.1.more])
  | (have e9: i = f.Eqs.length := (by omega); subst e9; exact ⟨_,rfl,_,.refl _,hK _ _ _ _ _ hpi.1 (hpi.2.cast fun s => by rw [cnt_all (by rw [hN]; exact Nat.le_refl _),hN])⟩)
  | exact loopFr _ (by omega) ⟨i + 1,_,_,_,(),_,by omega,rfl,⟨hpi.1.put hh,hpj.cast fun s => cnt_step (map_some hq) (by omega) s⟩,rfl,(by first | rfl | (simp; done) | (simp; rfl))⟩ (.next rfl (by omega) .nil) rfl
  | (refine loop_fr [4,5,7,14,15,16,17,18,19,20,21,22,23,24,25,26,27,28,29,30,31,32,33,34,35,36,37,38] (fun mm_ CC_ hh_ => ∃ (i: Nat) (n: Nat) (m1: Value → Option AV) (m2: Value → Option AV) (u9: Unit) (r_: List Blk),i ≤ f.Eqs.length ∧ mm_ = f.Eqs.length - i ∧ ((EqM m1 (hangsC f) (List.replicate i false) ∧ MapN m2 (fun s => cntL s ((namesC f).take i).flatten))) ∧ CC_ = [(14,.raw (.int .i64 ((i: Nat): Int)))] ∧ hh_ = b0 :: nodeB2 f :: zeroL :: .mp .int i m1 :: .mp .str n m2 :: leftB :: r_) (f.Eqs.length) _ ⟨0,_,_,_,(),_,by omega,by omega,⟨EqM.nil,MapN.nil⟩,rfl,(by first | rfl | (simp; done) | (simp; rfl))⟩ (.cons (by first | rfl | (simp; done) | (simp; rfl)) .nil) ?_; rintro mm_ CC_ ji hh_ ⟨i,n,m1,m2,u9,ri,hi,rfl,hpi,rfl,rfl⟩)
  | exact loopFr _ (by omega) ⟨j + 1,_,_,_,by omega,rfl,hpj.upW (by assumption) (Nat.le_trans (cnt_bnd (map_some hq) _ _) (Nat.le_trans hfl (by omega))),rfl,(by first | rfl | (simp; done) | (simp; rfl))⟩ (.next rfl (by omega) .nil) rfl
  | (refine loop_fr [7,28,29,30,31,32,33,34,35,36,37] (fun mm_ CC_ hh_ => ∃ (j: Nat) (n: Nat) (m: Value → Option AV) (r_: List Blk),j ≤ q.Names.length ∧ mm_ = q.Names.length - j ∧ (MapN m (fun s => cntL s ((namesC f).take i).flatten + cntL s (q.Names.take j))) ∧ CC_ = [(28,.raw (.int .i64 ((j: Nat): Int)))] ∧ hh_ = b0 :: nodeB2 f :: zeroL :: .mp .int (i + 1) (mput m1 (.int .i64 (i: Int)) (.lst 1 ((hangsF f q).map AV.s) none)) :: .mp .str n m :: leftB :: r_) (q.Names.length) _ ⟨0,_,_,_,by omega,by omega,hpi.2.cast fun s => by simp [cntL],rfl,(by first | rfl | (simp; done) | (simp; rfl))⟩ (.cons (by first | rfl | (simp; done) | (simp; rfl)) .nil) ?_; rintro mm_ CC_ jj hh_ ⟨j,n,m,rj,hj,rfl,hpj,rfl,rfl⟩)
theorem ready86 (f: DNode) (pl: List Bool) (i: Nat) (q: DEq) (hq: f.Eqs[i]? = some q) (hl: i < pl.length) (b0 b1 b2: Blk) (n1 n2: Nat) (m1 m2: Value → Option AV) (h1: EqM m1 (hangsC f) pl) (h2: MapN m2 (fun s => opn s (namesC f) pl)) (r: List Blk) {K: AV → List Blk → Prop}
  (hK: K (.b (readyF (namesC f) (hangsC f) pl i)) (b0 :: b1 :: b2 :: .mp .int n1 m1 :: .mp .str n2 m2 :: r)): ACall Tryz.prog 123 [.agg [.map 3,.map 4],.i (i: Int)] (b0 :: b1 :: b2 :: .mp .int n1 m1 :: .mp .str n2 m2 :: r) K := by
 have hpx: pl[i]? = some pl[i] := List.getElem?_eq_getElem hl
 have hh: (hangsC f)[i]? = some (hangsF f q) := map_some hq
 generalize pl[i] = b at hpx
 refine acall_of_vc tabOK Tryz.func123 (by kernel_rfl) rfl (n := 21) rfl (rs := [.tmp 4]) rfl ?_
 simp only [go_sem,at_app0]
 cases b
 ·
  simp only [go_sem,h1.at hpx hh,orZ,Option.isSome_some]
  refine contains106 (p := fun s => decide (((opn s (namesC f) pl: Nat): Int) > 0)) (fun x hx K hK => ?_) ?_
  ·
   refine acall_of_vc tabOK Tryz.func160 (by kernel_rfl) rfl (n := 9) rfl (rs := [.tmp 3]) rfl ?_
   simp only [go_sem,at_app0,at_app,h2.at _]
   exact finH1 rfl (.raw _) hK
  ·
   simp only [any_waits]
   generalize hw: ((hangsF f q).any fun s => waitsF (namesC f) pl s) = w
   rw [ready_any hpx hh hw] at hK
   cases w
   ·
    simp only [go_sem,at_app0,at_app]
    exact finH0 (h := b0 :: b1 :: b2 :: .mp .int n1 m1 :: .mp .str n2 m2 :: r) _ rfl (.raw _) hK
   ·
    simp only [go_sem,at_app0,at_app]
    exact finH0 (h := b0 :: b1 :: b2 :: .mp .int n1 m1 :: .mp .str n2 m2 :: r) _ rfl (.raw _) hK
 ·
  rw [ready_not hpx] at hK
  simp only [go_sem,h1.no hpx,orZ,Option.isSome_none]
  exact finH0 (h := b0 :: b1 :: b2 :: .mp .int n1 m1 :: .mp .str n2 m2 :: r) _ rfl (.raw _) hK
theorem take_endC {g b: ByteArray → Nat} {l: List ByteArray} {i: Nat} (h: ∀ s,g s + cntL s (l.take i) = b s) (hi: ¬ (i: Int) < l.length): ∀ s,g s + cntL s l = b s := by
 intro s
 have := h s
 rw [List.take_of_length_le (by omega)] at this
 exact this
theorem place87 (q: DEq) (k: Nat) (b0 b1 b2: Blk) (n1 n2: Nat) (m1 m2: Value → Option AV) (g: ByteArray → Nat) (hm: MapN m2 g) (hg: ∀ s,cntL s q.Names ≤ g s) (hn: ∀ s,g s ≤ 1000000) (r: List Blk) {K: AV → List Blk → Prop}
  (hK: ∀ n' m' g' r',MapN m' g' → (∀ s,g' s + cntL s q.Names = g s) → K (.tup []) (b0 :: b1 :: b2 :: .mp .int (less (m1 (.int .i64 (k: Int))) n1) (mcut m1 (.int .i64 (k: Int))) :: .mp .str n' m' :: (r ++ r'))) :
  ACall Tryz.prog 124 [.agg [.map 3,.map 4],.i (k: Int),q.enc] (b0 :: b1 :: b2 :: .mp .int n1 m1 :: .mp .str n2 m2 :: r) K := by
 refine acallK_of_vc tabOK Tryz.func124 (by kernel_rfl) rfl (n := 24) rfl (rs := []) rfl ?_
 repeat' first
  | exact finB rfl
  | exact finI rfl
  | exact finP rfl
  | exact absurd rfl (by assumption)
  | simp only [go_sem]
  | (intro _)
  | refine brK_dec (fun _ => ?_) (fun _ => ?_)
  | refine brK_any ?_ ?_
  | refine gK_dec (fun _ => ?_) (fun _ => ?_)
  | refine gK_any ?_ ?_
  | refine gqK_dec (fun _ => ?_) (fun _ => ?_)
  | refine ⟨by omega,?_⟩
  | refine elemHave (by omega) (by assumption) ?_
  | refine elemMap (by omega) (by omega) (fun x hx => ?_)
  | refine drawK mo (by kernel_rfl) ?_
  | (simp only [go_sem,at_app0,at_app])
  | ((fail_if_success (clear h9)); obtain ⟨g9,h9,hs9⟩ := hpi)
  | (simp only [go_sem,at_app0,at_app,h9.at _])
  | (exact ⟨[],rfl,.tup [],.refl _,hK _ _ g9 _ h9 (take_endC hs9 (by assumption))⟩)
  | exact loopFr _ (by omega) ⟨i + 1,_,_,_,by omega,rfl,h9.downW hs9 hg (by assumption) (hn _),rfl,(by first | rfl | (simp; done) | (simp; rfl))⟩ (.next rfl (by omega) .nil) rfl
  | (refine loop_fr [7,14,15,16,17,18,19,20,21,22,23] (fun mm_ CC_ hh_ => ∃ (i: Nat) (n9: Nat) (m9: Value → Option AV) (r_: List Blk),i ≤ q.Names.length ∧ mm_ = q.Names.length - i ∧ ((∃ g9,MapN m9 g9 ∧ ∀ s,g9 s + cntL s (q.Names.take i) = g s)) ∧ CC_ = [(14,.raw (.int .i64 ((i: Nat): Int)))] ∧ hh_ = b0 :: b1 :: b2 :: .mp .int (less (m1 (.int .i64 (k: Int))) n1) (mcut m1 (.int .i64 (k: Int))) :: .mp .str n9 m9 :: (r ++ leftB :: r_)) (q.Names.length) _ ⟨0,_,_,_,by omega,by omega,⟨g,hm,fun s => by simp [cntL]⟩,rfl,(by first | rfl | (simp; done) | (simp; rfl))⟩ (.cons (by first | rfl | (simp; done) | (simp; rfl)) .nil) ?_; rintro mm_ CC_ ji hh_ ⟨i,n9,m9,ri,hi,rfl,hpi,rfl,rfl⟩)
theorem eq_at {α: Type} {l: List α} {i: Nat} (h: i < l.length): ∃ q,l[i]? = some q := ⟨_,List.getElem?_eq_getElem h⟩
theorem order39 (f: DNode) (hf: okC f): PCall Tryz.prog 85 [f.enc] (orderA (orderF (namesC f) (hangsC f))) := by
 have hn := hf.1
 have hN := len_namesC f
 have hfl := hf.names
 generalize hR: orderF (namesC f) (hangsC f) = R
 refine pcall_of_vc tabOK Tryz.func85 (by kernel_rfl) rfl (by first | exact pureL | exact pureI) (pure_orderA _) (n := 41) rfl (rs := [.tmp 2,.tmp 3]) rfl ?_
 simp only [go_sem]
 refine all85 f hf _ (fun n0 m10 m20 b2 r h10 h20 => ?_)
 simp only [go_sem]
 refine loop_ghost (ghost_tok 4 3 1 rfl) ?_
 simp only [go_sem]
 refine loop_fr [2,3,4,6,7,10,11,12,13,14,15,16,17,18,19,20,21,22,23,24,25,26,27,28,29,30,31,32,33,34,35,36,37,38,39] (fun mz C hh => ∃ (pl: List Bool) (out: List Nat) (n: Nat) (m1 m2: Value → Option AV) (r2: List Blk),pl.length = f.Eqs.length ∧ out.length ≤ f.Eqs.length ∧ mz = f.Eqs.length - out.length ∧ orderG (namesC f) (hangsC f) (f.Eqs.length - out.length) pl out = R ∧
  EqM m1 (hangsC f) pl ∧ MapN m2 (fun s => opn s (namesC f) pl) ∧
  C = [(4,.lst 1 (out.map AV.n) (some (r.length + 1 + 1 + 1 + 1 + 1 + 1)))] ∧ hh = nodeB2 f :: nodeB2 f :: b2 :: .mp .int (f.Eqs.length - out.length) m1 :: .mp .str n m2 :: (r ++ leftB :: .tok 3 1 out.length :: r2)) (f.Eqs.length) _
  ⟨List.replicate f.Eqs.length false,[],n0,m10,m20,[],by simp,by simp,by simp,by rw [← hR,orderF,hN]; rfl,h10,h20,rfl,by simp⟩ (.cons (by simp) .nil) ?_
 rintro mz C jo hh ⟨pl,out,n,m1,m2,r2,hl,hol,rfl,hG,h1,h2,rfl,rfl⟩
 repeat' first
  | exact finB rfl
  | exact finI rfl
  | exact finP rfl
  | exact absurd rfl (by assumption)
  | simp only [go_sem]
  | (intro _)
  | refine brK_dec (fun _ => ?_) (fun _ => ?_)
  | refine brK_any ?_ ?_
  | refine gK_dec (fun _ => ?_) (fun _ => ?_)
  | refine gK_any ?_ ?_
  | refine gqK_dec (fun _ => ?_) (fun _ => ?_)
  | refine ⟨by omega,?_⟩
  | refine elemHave (by omega) (by assumption) ?_
  | refine elemMap (by omega) (by omega) (fun x hx => ?_)
  | (refine drawZ mo (by kernel_rfl) rfl ?_; simp only [List.dropLast_cons_cons,List.dropLast_singleton,List.getLast_cons_cons,List.getLast_singleton])
  | (simp only [go_sem,at_app0,at_app,set_app0])
  | ((fail_if_success (clear hq)); have hgo := eq_at (l := f.Eqs) (i := i) (by omega); obtain ⟨q,hq⟩ := hgo; have hq2: f.Eqs[((i: Nat): Int).toNat]? = some q := hq; have hh: (hangsC f)[i]? = some (hangsF f q) := map_some hq; have hnn: (namesC f)[i]? = some q.Names := map_some hq)
  | (refine ready86 f pl i q hq (by omega) _ _ _ _ _ _ _ h1 h2 _ ?_; generalize hw: readyF (namesC f) (hangsC f) pl i = w; cases w)
  | exact loopFrH _ (by omega) ⟨i + 1,by omega,rfl,not_next hpi hw,rfl⟩ (.next rfl (by omega) (.cons rfl .nil)) rfl
  | (refine loop_frH [6,7,17,18,19,20,21,22,23,24] (fun mm_ CC_ => ∃ (i: Nat),i ≤ f.Eqs.length ∧ mm_ = f.Eqs.length - i ∧ ((∀ j,j < i → readyF (namesC f) (hangsC f) pl j = false)) ∧ CC_ = [(17,.raw (.int .i64 ((i: Nat): Int))),(6,.i (-1))]) (f.Eqs.length) _ ⟨0,by omega,by omega,fun j hj => absurd hj (by omega),rfl⟩ (.cons rfl (.cons rfl .nil)) ?_; rintro mm_ CC_ ji ⟨i,hi,rfl,hpi,rfl⟩)
  | (have hpx := ready_pl hw; refine place87 q i _ _ _ _ _ _ _ _ h2 (fun s => by have := opn_set (s := s) hnn hpx; omega) (fun s => Nat.le_trans opn_le (by omega)) _ (fun n9 m9 g9 r9 h9 h9s => ?_); simp only [List.append_assoc,List.cons_append,h1.less hpx hh]; have hpk := pick_some (N := namesC f) (H := hangsC f) (pl := pl) (n := (namesC f).length) (i := 0) (k := i) (Nat.zero_le _) (by omega) (fun j _ hj => hpi j hj) hw; have h8: MapN m9 (fun s => opn s (namesC f) (pl.set i true)) := h9.cast (fun s => by have h7 := opn_set (s := s) hnn hpx; have := h9s s; omega))
  | (refine ⟨by simp; omega,?_⟩)
  | (rw [order_some hpk (by omega)] at hG; refine loopFr (f.Eqs.length - (out.length + 1)) (by omega) ⟨pl.set i true,out ++ [i],n9,_,m9,_,by simpa using hl,by simp; omega,by simp,by rw [← hG,Nat.sub_sub]; simp,h1.cut,h8,rfl,by simp [Nat.sub_sub]; rfl⟩ (.cons (by simp; done) .nil) rfl)
  | (rw [order_none (pick_none (fun j _ hj => hpi j (by omega))) (by omega)] at hG; rw [← hG]; exact ⟨_,rfl,false,weak_order _ _ _⟩)
  | (rw [show f.Eqs.length - out.length = 0 by omega] at hG; rw [← hG]; exact ⟨_,rfl,false,weak_order _ _ _⟩)
  | (exfalso; omega)
theorem readsL_parts: ∀ l: List Ex,(∀ x ∈ l,(readsF x).length ≤ (parts x).length) → (readsL l).length ≤ (partsL l).length
 | [],_ => by simp [readsL]
 | x :: xs,h => by
  have h1 := h x List.mem_cons_self
  have h2 := readsL_parts xs fun y hy => h y (List.mem_cons_of_mem _ hy)
  simp only [readsL,partsL,List.length_append]
  omega
theorem partsL_keep (k: Int) (s: List Ex): (partsL (keepK k s)).length ≤ (partsL s).length := by
 unfold keepK
 split
 ·
  simp [partsL]
 ·
  split
  ·
   cases s with
   | nil => simp
   | cons x l => simp [partsL]
  ·
   exact Nat.le_refl _
theorem keep_mem {k: Int} {s: List Ex} {x: Ex} (h: x ∈ keepK k s): x ∈ s := by
 unfold keepK at h
 split at h
 ·
  simp at h
 ·
  split at h
  ·
   exact List.mem_of_mem_take h
  ·
   exact h
theorem parts_lenC (e: Ex): (parts e).length = (partsL e.subs).length + 1 := by
 cases e
 simp [parts,Ex.subs]
theorem reads_parts (e: Ex): (readsF e).length ≤ (parts e).length := by
 induction e using Ex.ind with
 | _ e ih =>
 rw [readsF_eq,List.length_append,parts_lenC]
 have h1 := readsL_parts (keepK e.kind e.subs) fun x hx => ih x (keep_mem hx)
 have h2 := partsL_keep e.kind e.subs
 have h3: (mineK e.kind e.name).length ≤ 1 := by unfold mineK; split <;> simp
 omega
theorem okE_reads {e: Ex} (h: okE e): (readsF e).length ≤ 100000 := by
 have := reads_parts e
 have := h.1
 omega
theorem okNode_C {n: DNode} (h: okNode n): okC n := by
 refine ⟨by have := h.2.2.2.1; omega,fun q hq => ?_⟩
 have hx := h.2.2.2.2.2 q hq
 refine ⟨hx.1,okE_reads hx.2.1,?_⟩
 have h1 := h.1.1
 have h2 := h.2.1.1
 have h3 := h.2.2.1.1
 simp [allV]
 omega
def nodeCa (a: Nat) (n: DNode): DFault :=
 if (orderF (namesC n) (hangsC n)).2 = true then ⟨0,0,0⟩ else firstE (a: Int) 9 (fun k _ => decide (k ∈ (orderF (namesC n) (hangsC n)).1)) 0 n.Eqs
noncomputable def causeF (p: DProg): DFault := if (clockF p).Err = 0 then firstF nodeCa 0 p.Nodes else clockF p
theorem cause_zero {p: DProg} (h: (causeF p).Err = 0): causeF p = ⟨0,0,0⟩ ∧ (clockF p).Err = 0 ∧ ∀ (k: Nat) n,p.Nodes[k]? = some n → (nodeCa k n).Err = 0 := by
 unfold causeF at *
 split at h
 ·
  rename_i h0
  rw [if_pos h0]
  obtain ⟨h1,h2⟩ := firstF_zero h
  exact ⟨h1,h0,fun k n hk => by have := h2 k n hk; simpa using this⟩
 ·
  rename_i h0; exact absurd h h0
def ltK (k: Int) (l s f: Bool): Bool × Bool :=
 if k = 8 ∨ k = 13 then (false,s && !l) else if k = 10 then (s && !l,s && !l) else if k = 9 then (false,s && !f) else (s && l,s)
mutual
def lt: Ex → Bool × Bool
 | .mk k _ _ _ _ s => ltK k (ltL s).1 (ltL s).2 (ltH s)
def ltL: List Ex → Bool × Bool
 | [] => (false,true)
 | x :: xs => ((lt x).1 || (ltL xs).1,(lt x).2 && (ltL xs).2)
def ltH: List Ex → Bool
 | [] => false
 | x :: _ => (lt x).1
end
theorem lt_eq (e: Ex): lt e = ltK e.kind (ltL e.subs).1 (ltL e.subs).2 (ltH e.subs) := by cases e; simp [lt,Ex.kind,Ex.subs]
theorem ltL_append (l m: List Ex): ltL (l ++ m) = ((ltL l).1 || (ltL m).1,(ltL l).2 && (ltL m).2) := by
 induction l with
 | nil => simp [ltL]
 | cons x l ih => simp [ltL,ih,Bool.or_assoc,Bool.and_assoc]
theorem ltL_take {l: List Ex} {k: Nat} {x: Ex} (h: l[k]? = some x): ltL (l.take (k + 1)) = ((ltL (l.take k)).1 || (lt x).1,(ltL (l.take k)).2 && (lt x).2) := by
 rw [List.take_add_one,h,ltL_append]
 simp [ltL]
theorem pure_bb (a b: Bool): Go.Abs.Pure (.tup [.b a,.b b]) := .tup _ (pure_cons (.raw _) (pure_cons (.raw _) pure_nil))
theorem pure_gb (a b: Bool): Go.Abs.Pure (.agg [.b a,.b b]) := .agg _ (pure_cons (.raw _) (pure_cons (.raw _) pure_nil))
theorem late57 (l: List Ex) (ih: ∀ x ∈ l,PCall Tryz.prog 52 [x.enc] (bbA (lt x))): PCall Tryz.prog 82 [.lst 6 (l.map Ex.enc) none] (bbA (ltL l)) := by
 refine pcall_of_vc tabOK Tryz.func82 (by kernel_rfl) rfl (pure_cons (pure_lst l) pure_nil) (pure_bb _ _) (n := 33) rfl (rs := [.tmp 2,.tmp 3]) rfl ?_
 simp only [go_sem]
 refine loop_rule (fun n s h => ∃ (i: Nat) (a b: Bool),i ≤ l.length ∧ n = l.length - i ∧ ltL (l.take i) = (a,b) ∧ Vis 33 [(6,.i i),(0,.lst 6 (l.map Ex.enc) none),(4,.b a),(5,.b b)] s ∧ h = []) l.length
  ⟨0,_,_,by omega,by omega,rfl,.cons rfl (.cons rfl (.cons rfl (.cons rfl (.nil rfl)))),rfl⟩ ?_
 rintro n s h ⟨i,a,b,hi,rfl,hp,hv,rfl⟩
 obtain ⟨j,rfl⟩ := hv.out
 simp only [go_sem]
 intro hm
 refine brK_dec (fun hlt => ?_) (fun hge => ?_)
 ·
  simp only [go_sem]
  refine elemMap (by omega) (by omega) (fun x hx => ?_)
  simp only [go_sem]
  refine PCall.call (ih x (List.mem_of_getElem? hx)) ?_
  have ht := ltL_take hx
  rw [Int.toNat_natCast,hp] at ht
  generalize lt x = p at ht ⊢
  obtain ⟨c,d⟩ := p
  cases a <;> cases b <;> cases c <;> cases d <;> simp only [go_sem] <;> exact loopGo _ (by omega) ⟨i + 1,_,_,by omega,rfl,ht,.next rfl (by omega) (.cons rfl (.cons rfl (.cons rfl (.nil rfl)))),rfl⟩
 ·
  rw [List.take_of_length_le (by omega)] at hp
  rw [hp]
  simp only [go_sem]
  exact finT rfl
theorem late17 (e: Ex): PCall Tryz.prog 52 [e.enc] (bbA (lt e)) := by
 induction e using Ex.ind with
 | _ e ih =>
 refine pcall_of_vc tabOK Tryz.func52 (by kernel_rfl) rfl (pure_cons (pure_enc e) pure_nil) (pure_bb _ _) (n := 58) rfl (rs := [.tmp 2,.tmp 3]) rfl ?_
 have h57 := late57 e.subs ih
 rw [lt_eq]
 simp only [go_sem]
 refine PCall.call h57 ?_
 have hH: ∀ x,e.subs[0]? = some x → ltH e.subs = (lt x).1 := by
  intro x hx
  cases hs: e.subs with
  | nil => rw [hs] at hx; simp at hx
  | cons y l => rw [hs] at hx; simp at hx; subst hx; simp [ltH]
 have hE: ¬ ((e.subs.length: Int) > 0) → ltH e.subs = (ltL e.subs).1 := by
  intro hx
  cases hs: e.subs with
  | nil => simp [ltH,ltL]
  | cons y l => rw [hs] at hx; simp at hx
 generalize ltL e.subs = p at *
 generalize ltH e.subs = f at *
 obtain ⟨a,b⟩ := p
 cases a <;> cases b
 all_goals repeat' first
  | exact finB rfl
  | exact finI rfl
  | exact finP rfl
  | exact absurd rfl (by assumption)
  | simp only [go_sem]
  | (intro _)
  | refine brK_dec (fun _ => ?_) (fun _ => ?_)
  | refine brK_any ?_ ?_
  | refine gK_dec (fun _ => ?_) (fun _ => ?_)
  | refine gK_any ?_ ?_
  | refine gqK_dec (fun _ => ?_) (fun _ => ?_)
  | refine ⟨by omega,?_⟩
  | refine elemHave (by omega) (by assumption) ?_
  | refine elemMap (by omega) (by omega) (fun x hx => ?_)
  | refine drawK mo (by kernel_rfl) ?_
  | (refine finBBk rfl rfl ?_; first | (simp [ltK,*]; done) | (rw [hE (by assumption)]; simp [ltK,*]; done))
  | (refine PCall.call (ih _ (List.mem_of_getElem? hx)) ?_; rw [hH x hx]; generalize lt x = q; obtain ⟨c,d⟩ := q; cases c)
abbrev keptF (l s w: Bool): Bool × Bool := if !s || l then (false,false) else (w,true)
theorem kept103 (l s w: Bool): PCall Tryz.prog 128 [.agg [.b l,.b s],.b w] (gbA (keptF l s w)) := by
 refine pcall_of_vc tabOK Tryz.func128 (by kernel_rfl) rfl (pure_cons (pure_gb _ _) (pure_cons (.raw _) pure_nil)) (pure_gb _ _) (n := 15) rfl (rs := [.cell 4 144]) rfl ?_
 cases l <;> cases s
 all_goals repeat' first
  | exact finB rfl
  | exact finI rfl
  | exact finP rfl
  | exact absurd rfl (by assumption)
  | simp only [go_sem]
  | (intro _)
  | refine brK_dec (fun _ => ?_) (fun _ => ?_)
  | refine brK_any ?_ ?_
  | refine gK_dec (fun _ => ?_) (fun _ => ?_)
  | refine gK_any ?_ ?_
  | refine gqK_dec (fun _ => ?_) (fun _ => ?_)
  | refine ⟨by omega,?_⟩
  | refine elemHave (by omega) (by assumption) ?_
  | refine elemMap (by omega) (by omega) (fun x hx => ?_)
  | refine drawK mo (by kernel_rfl) ?_
theorem both102 (a b: Bool) (x: Ex) (h: PCall Tryz.prog 87 [x.enc] (gbA (lt x))): PCall Tryz.prog 127 [.agg [.b a,.b b],x.enc] (gbA (a || (lt x).1,b && (lt x).2)) := by
 refine pcall_of_vc tabOK Tryz.func127 (by kernel_rfl) rfl (pure_cons (pure_gb _ _) (pure_cons (pure_enc x) pure_nil)) (pure_gb _ _) (n := 21) rfl (rs := [.cell 4 144]) rfl ?_
 generalize lt x = p at *
 obtain ⟨c,d⟩ := p
 cases a <;> cases b
 all_goals repeat' first
  | exact finB rfl
  | exact finI rfl
  | exact finP rfl
  | exact absurd rfl (by assumption)
  | simp only [go_sem]
  | (intro _)
  | refine brK_dec (fun _ => ?_) (fun _ => ?_)
  | refine brK_any ?_ ?_
  | refine gK_dec (fun _ => ?_) (fun _ => ?_)
  | refine gK_any ?_ ?_
  | refine gqK_dec (fun _ => ?_) (fun _ => ?_)
  | refine ⟨by omega,?_⟩
  | refine elemHave (by omega) (by assumption) ?_
  | refine elemMap (by omega) (by omega) (fun x hx => ?_)
  | refine drawK mo (by kernel_rfl) ?_
  | (refine PCall.call h ?_; cases c <;> cases d)
theorem fold101 (l: List Ex) (a b: Bool) (ih: ∀ x ∈ l,PCall Tryz.prog 87 [x.enc] (gbA (lt x))): PCall Tryz.prog 126 [.lst 6 (l.map Ex.enc) none,.agg [.b a,.b b],.fn (.func 127) [] []] (gbA (a || (ltL l).1,b && (ltL l).2)) := by
 refine pcall_of_vc tabOK Tryz.func126 (by kernel_rfl) rfl (pure_cons (pure_lst l) (pure_cons (pure_gb _ _) (pure_cons (.fn _ _ _ pure_nil pure_nil) pure_nil))) (pure_gb _ _) (n := 21) rfl (rs := [.cell 6 144]) rfl ?_
 simp only [go_sem]
 intro hm
 refine loop_rule (fun n s h => ∃ (i: Nat) (c d: Bool) (rest: List Blk),i ≤ l.length ∧ n = l.length - i ∧ (c = (a || (ltL (l.take i)).1) ∧ d = (b && (ltL (l.take i)).2)) ∧
  Vis 21 [(11,.i i),(4,.ptr 0 0),(6,.ptr 1 0),(2,.fn (.func 127) [] []),(9,.lst 6 (l.map Ex.enc) none),(10,.i l.length)] s ∧ h = .cells 144 [.b c,.b d] :: .cells 144 [.b false,.b false] :: rest) l.length
  ⟨0,a,b,[],by omega,by omega,by simp [ltL],.cons rfl (.cons rfl (.cons rfl (.cons rfl (.cons rfl (.cons rfl (.nil rfl)))))),rfl⟩ ?_
 rintro n s h ⟨i,c,d,rest,hi,rfl,hp,hv,rfl⟩
 obtain ⟨j,rfl⟩ := hv.out
 simp only [go_sem]
 refine brK_dec (fun hlt => ?_) (fun hge => ?_)
 ·
  simp only [go_sem]
  refine elemMap (by omega) (by omega) (fun x hx => ?_)
  simp only [go_sem]
  refine PCall.call (both102 c d x (ih x (List.mem_of_getElem? hx))) ?_
  simp only [go_sem]
  have ht := ltL_take hx
  rw [Int.toNat_natCast] at ht
  refine loopGo _ (by omega) ⟨i + 1,_,_,_,by omega,rfl,?_,.next rfl (by omega) (.cons rfl (.cons rfl (.cons rfl (.cons rfl (.cons rfl (.nil rfl)))))),rfl⟩
  rw [ht,hp.1,hp.2]
  simp [Bool.or_assoc,Bool.and_assoc]
 ·
  simp only [go_sem]
  rw [List.take_of_length_le (by omega)] at hp
  rw [← hp.1,← hp.2]
  exact finP rfl
set_option maxHeartbeats 4000000
theorem of56 (e: Ex): PCall Tryz.prog 87 [e.enc] (gbA (lt e)) := by
 induction e using Ex.ind with
 | _ e ih =>
 refine pcall_of_vc tabOK Tryz.func87 (by kernel_rfl) rfl (pure_cons (pure_enc e) pure_nil) (pure_gb _ _) (n := 42) rfl (rs := [.cell 2 144]) rfl ?_
 rw [lt_eq]
 simp only [go_sem]
 refine PCall.call (fold101 e.subs false true ih) ?_
 have hf: ∀ n: Nat,n = min 1 e.subs.length → (ltL (e.subs.take n)).1 = ltH e.subs := by
  intro n hn
  cases hs: e.subs with
  | nil => simp [ltH,ltL]
  | cons y l => rw [hs] at hn; simp at hn; subst hn; simp [ltH,ltL]
 generalize ltL e.subs = p at *
 obtain ⟨a,b⟩ := p
 simp only [Bool.false_or,Bool.true_and]
 cases a <;> cases b
 all_goals repeat' first
  | exact finB rfl
  | exact finI rfl
  | exact finP rfl
  | exact absurd rfl (by assumption)
  | simp only [go_sem]
  | (intro _)
  | refine brK_dec (fun _ => ?_) (fun _ => ?_)
  | refine brK_any ?_ ?_
  | refine gK_dec (fun _ => ?_) (fun _ => ?_)
  | refine gK_any ?_ ?_
  | refine gqK_dec (fun _ => ?_) (fun _ => ?_)
  | refine ⟨by omega,?_⟩
  | refine elemHave (by omega) (by assumption) ?_
  | refine elemMap (by omega) (by omega) (fun x hx => ?_)
  | refine drawK mo (by kernel_rfl) ?_
  | (refine finGk rfl ?_; simp [ltK,keptF,*]; done)
  | (refine PCall.call (kept103 _ _ _) ?_)
  | (refine PCall.call (fold101 (e.subs.take _) false true (fun x hx => ih x (List.mem_of_mem_take hx))) ?_; rw [hf]; cases ltH e.subs)
  | (omega)
  | (split <;> omega)
theorem late16 (e: Ex): PCall Tryz.prog 57 [e.enc] (bbA (lt e)) := by
 refine pcall_of_vc tabOK Tryz.func57 (by kernel_rfl) rfl (pure_cons (pure_enc e) pure_nil) (pure_bb _ _) (n := 11) rfl (rs := [.tmp 2,.tmp 3]) rfl ?_
 repeat' first
  | exact finB rfl
  | exact finI rfl
  | exact finP rfl
  | exact absurd rfl (by assumption)
  | simp only [go_sem]
  | (intro _)
  | refine brK_dec (fun _ => ?_) (fun _ => ?_)
  | refine brK_any ?_ ?_
  | refine gK_dec (fun _ => ?_) (fun _ => ?_)
  | refine gK_any ?_ ?_
  | refine gqK_dec (fun _ => ?_) (fun _ => ?_)
  | refine ⟨by omega,?_⟩
  | refine elemHave (by omega) (by assumption) ?_
  | refine elemMap (by omega) (by omega) (fun x hx => ?_)
  | refine drawK mo (by kernel_rfl) ?_
  | (refine PCall.call (of56 e) ?_)
  | (exact finBBk rfl rfl rfl)
def eqSt (q: DEq): Bool := !(lt q.E).1 && (lt q.E).2
def nodeSt (a: Nat) (n: DNode): DFault := firstE (a: Int) 10 (fun _ q => eqSt q) 0 n.Eqs
noncomputable def startF (p: DProg): DFault := if (causeF p).Err = 0 then firstF nodeSt 0 p.Nodes else causeF p
theorem start_zero {p: DProg} (h: (startF p).Err = 0): startF p = ⟨0,0,0⟩ ∧ (causeF p).Err = 0 ∧ ∀ (k: Nat) n,p.Nodes[k]? = some n → (nodeSt k n).Err = 0 := by
 unfold startF at *
 split at h
 ·
  rename_i h0
  rw [if_pos h0]
  obtain ⟨h1,h2⟩ := firstF_zero h
  exact ⟨h1,h0,fun k n hk => by have := h2 k n hk; simpa using this⟩
 ·
  rename_i h0; exact absurd h h0
end Go.Proofs.YtpamokpmlplopaaGreatDoor
namespace Go.Proofs.YtpamokpmlplopaaGreatDoor
open Go.Abs
set_option maxRecDepth 20000
set_option linter.unusedSimpArgs false
set_option linter.unusedVariables false
set_option maxHeartbeats 1000000
attribute [local irreducible] vc vcOps vcStep vcGuard prK hrK gK gsK brK callK ElemK SeqK BlockK ScopeK OpsK CallK LoopK LoopGo finPost ACall PCall PCallE BCall vqOps vqStep vqGuard qrK heK pcK gqK gqsK QOpsK qcallK DrawK
structure NmSt where
 vars: List DVar
 eqs: List DPlain
 k: Nat
abbrev noAtom: DAtom := ⟨⟨#[]⟩,0⟩
def plain0 (kind op: Int) (args: List DAtom): DPlain := ⟨kind,[],op,args,[],0,false,noAtom,[]⟩
def cellsZ (t: DTy): Nat := if t.Len < 1 then 1 else if t.Len > 8 then 8 else t.Len.toNat
section
variable (nm: Nat → ByteArray) (ty: Ex → DTy) (cn: Ex → List Int) (va: ByteArray → Int) (fi: ByteArray → Int)
def freshN (q: DPlain) (t: DTy) (on: List DCond) (st: NmSt): DAtom × NmSt :=
 (⟨nm (st.k + 1),0⟩,⟨st.vars ++ [⟨nm (st.k + 1),t,on⟩],st.eqs ++ [{ q with Names := [nm (st.k + 1)],On := on }],st.k + 1⟩)
def leafK (k: Int): Bool := decide (k = 1 ∨ k = 2 ∨ k = 3 ∨ k = 4)
def leafA (e: Ex): DAtom := if e.kind = 3 then ⟨e.name,0⟩ else if e.kind = 4 then ⟨⟨#[]⟩,va e.name⟩ else ⟨⟨#[]⟩,e.n⟩
def headN (e: Ex) (ats: List DAtom) (frst: DAtom): DPlain :=
 if e.kind = 5 then plain0 2 e.op ats else if e.kind = 6 then plain0 3 e.op ats else if e.kind = 7 then plain0 4 e.op ats
 else if e.kind = 14 then plain0 8 e.op ats else if e.kind = 15 then plain0 9 e.op ats else if e.kind = 16 then plain0 10 e.op ats
 else if e.kind = 8 then { plain0 5 0 ats with Init := cn (e.subs.headD e) }
 else if e.kind = 10 then { plain0 5 0 ats with Init := List.replicate (cellsZ (ty e)) 0 }
 else if e.kind = 9 then plain0 4 0 (frst :: ats)
 else if e.kind = 11 then plain0 1 0 ats
 else if e.kind = 12 then plain0 6 0 (⟨e.name,0⟩ :: ats)
 else if e.kind = 13 then (if e.n = 1 then { plain0 7 0 (ats.take (ats.length - 1)) with Node := fi e.name,Reset := true,Every := ats.getLastD noAtom } else { plain0 7 0 ats with Node := fi e.name })
 else plain0 1 0 [leafA va e]
def frstN (e: Ex) (on: List DCond) (st: NmSt): DAtom × NmSt :=
 if e.kind = 9 then freshN nm { plain0 5 0 [noAtom] with Init := [1] } tyB on st else (noAtom,st)
def onN (e: Ex) (on: List DCond): List DCond := if e.kind = 11 then on.dropLast else on
mutual
def plainN: Ex → List DCond → NmSt → DPlain × NmSt
 | .mk k n m op arms subs,on,st =>
  let f := frstN nm (.mk k n m op arms subs) on st
  let r := if k = 12 then mergeN m arms subs on f.2 else if k = 8 then tailN subs on f.2 else eachN subs (onN (.mk k n m op arms subs) on) f.2
  (headN ty cn va fi (.mk k n m op arms subs) r.1 f.1,r.2)
def eachN: List Ex → List DCond → NmSt → List DAtom × NmSt
 | [],_,st => ([],st)
 | x :: l,on,st =>
  let a := if leafK x.kind = true then (leafA va x,st) else freshN nm (plainN x on st).1 (ty x) on (plainN x on st).2
  ((a.1 :: (eachN l on a.2).1),(eachN l on a.2).2)
def tailN: List Ex → List DCond → NmSt → List DAtom × NmSt
 | [],_,st => ([],st)
 | _ :: l,on,st => eachN l on st
def mergeN (m: ByteArray): List ByteArray → List Ex → List DCond → NmSt → List DAtom × NmSt
 | _,[],_,st => ([],st)
 | [],_ :: _,_,st => ([],st)
 | c :: cs,x :: l,on,st =>
  let a := if leafK x.kind = true then (leafA va x,st) else freshN nm (plainN x (on ++ [⟨m,va c⟩]) st).1 (ty x) (on ++ [⟨m,va c⟩]) (plainN x (on ++ [⟨m,va c⟩]) st).2
  ((a.1 :: (mergeN m cs l on a.2).1),(mergeN m cs l on a.2).2)
end
def atomN (x: Ex) (on: List DCond) (st: NmSt): DAtom × NmSt := if leafK x.kind = true then (leafA va x,st) else freshN nm (plainN nm ty cn va fi x on st).1 (ty x) on (plainN nm ty cn va fi x on st).2
def argsN (e: Ex) (on: List DCond) (st: NmSt): List DAtom × NmSt :=
 if e.kind = 12 then mergeN nm ty cn va fi e.name e.arms e.subs on st else if e.kind = 8 then eachN nm ty cn va fi (e.subs.drop 1) on st else eachN nm ty cn va fi e.subs (onN e on) st
theorem plainN_eq (e: Ex) (on: List DCond) (st: NmSt): plainN nm ty cn va fi e on st = (headN ty cn va fi e (argsN nm ty cn va fi e on (frstN nm e on st).2).1 (frstN nm e on st).1,(argsN nm ty cn va fi e on (frstN nm e on st).2).2) := by
 cases e with
 | mk k n m op arms subs =>
  have ht: ∀ st,tailN nm ty cn va fi subs on st = eachN nm ty cn va fi (subs.drop 1) on st := fun st => by cases subs <;> simp [tailN,eachN]
  rw [plainN]
  unfold argsN
  simp only [Ex.kind,Ex.name,Ex.arms,Ex.subs]
  rw [ht]
  rfl
theorem eachN_nil (on: List DCond) (st: NmSt): eachN nm ty cn va fi [] on st = ([],st) := by rw [eachN]
theorem eachN_cons (x: Ex) (l: List Ex) (on: List DCond) (st: NmSt): eachN nm ty cn va fi (x :: l) on st = ((atomN nm ty cn va fi x on st).1 :: (eachN nm ty cn va fi l on (atomN nm ty cn va fi x on st).2).1,(eachN nm ty cn va fi l on (atomN nm ty cn va fi x on st).2).2) := by
 rw [eachN]
 rfl
theorem mergeN_cons (m c: ByteArray) (cs: List ByteArray) (x: Ex) (l: List Ex) (on: List DCond) (st: NmSt): mergeN nm ty cn va fi m (c :: cs) (x :: l) on st = ((atomN nm ty cn va fi x (on ++ [⟨m,va c⟩]) st).1 :: (mergeN nm ty cn va fi m cs l on (atomN nm ty cn va fi x (on ++ [⟨m,va c⟩]) st).2).1,(mergeN nm ty cn va fi m cs l on (atomN nm ty cn va fi x (on ++ [⟨m,va c⟩]) st).2).2) := by
 rw [mergeN]
 rfl
theorem eachN_append: ∀ (l m: List Ex) (on: List DCond) (st: NmSt),eachN nm ty cn va fi (l ++ m) on st = ((eachN nm ty cn va fi l on st).1 ++ (eachN nm ty cn va fi m on (eachN nm ty cn va fi l on st).2).1,(eachN nm ty cn va fi m on (eachN nm ty cn va fi l on st).2).2)
 | [],m,on,st => by rw [eachN_nil]; simp
 | x :: l,m,on,st => by
  rw [List.cons_append,eachN_cons,eachN_cons,eachN_append l m]
  rfl
theorem eachN_len: ∀ (l: List Ex) (on: List DCond) (st: NmSt),(eachN nm ty cn va fi l on st).1.length = l.length
 | [],on,st => by rw [eachN_nil]; rfl
 | x :: l,on,st => by rw [eachN_cons]; simp [eachN_len l]
end
mutual
def frN: Ex → Nat
 | .mk k _ _ _ _ subs => (if k = 9 then 1 else 0) + (if k = 8 then frT subs else frL subs)
def frL: List Ex → Nat
 | [] => 0
 | x :: l => (if leafK x.kind = true then 0 else frN x + 1) + frL l
def frT: List Ex → Nat
 | [] => 0
 | _ :: l => frL l
end
end Go.Proofs.YtpamokpmlplopaaGreatDoor
namespace Go.Proofs.YtpamokpmlplopaaGreatDoor
open Go.Abs
set_option maxRecDepth 20000
set_option linter.unusedSimpArgs false
set_option linter.unusedVariables false
set_option maxHeartbeats 1000000
attribute [local irreducible] vc vcOps vcStep vcGuard prK hrK gK gsK brK callK ElemK SeqK BlockK ScopeK OpsK CallK LoopK LoopGo finPost ACall PCall PCallE BCall vqOps vqStep vqGuard qrK heK pcK gqK gqsK QOpsK qcallK DrawK
section
variable (nm: Nat → ByteArray) (ty: Ex → DTy) (cn: Ex → List Int) (va: ByteArray → Int) (fi: ByteArray → Int)
def grewN (st st': NmSt) (n: Nat): Prop := st'.k = st.k + n ∧ st'.vars.length = st.vars.length + n ∧ st'.eqs.length = st.eqs.length + n
theorem grewN.refl (st: NmSt): grewN st st 0 := ⟨rfl,rfl,rfl⟩
theorem grewN.trans {a b c: NmSt} {n m: Nat} (h: grewN a b n) (h2: grewN b c m): grewN a c (n + m) := ⟨by rw [h2.1,h.1]; omega,by rw [h2.2.1,h.2.1]; omega,by rw [h2.2.2,h.2.2]; omega⟩
theorem grewN.fresh (q: DPlain) (t: DTy) (on: List DCond) (st: NmSt): grewN st (freshN nm q t on st).2 1 := ⟨rfl,by simp [freshN],by simp [freshN]⟩
def gN (x: Ex): Nat := if leafK x.kind = true then 0 else frN x + 1
theorem frL_cons (x: Ex) (l: List Ex): frL (x :: l) = gN x + frL l := by rw [frL]; rfl
theorem frL_append (l m: List Ex): frL (l ++ m) = frL l + frL m := by
 induction l with
 | nil => simp [frL]
 | cons x l ih => rw [List.cons_append,frL_cons,frL_cons,ih]; omega
theorem frN_eq (e: Ex): frN e = (if e.kind = 9 then 1 else 0) + (if e.kind = 8 then frL (e.subs.drop 1) else frL e.subs) := by
 cases e with
 | mk k n m op arms subs =>
  have ht: frT subs = frL (subs.drop 1) := by cases subs <;> simp [frT,frL]
  rw [frN,ht]
  rfl
theorem each_grew_of {l: List Ex} (h: ∀ x ∈ l,∀ on st,grewN st (plainN nm ty cn va fi x on st).2 (frN x)): ∀ on st,grewN st (eachN nm ty cn va fi l on st).2 (frL l) := by
 induction l with
 | nil => intro on st; rw [eachN_nil]; exact grewN.refl st
 | cons x l ih =>
  intro on st
  rw [eachN_cons,frL_cons]
  refine grewN.trans ?_ (ih (fun y hy => h y (List.mem_cons_of_mem _ hy)) on _)
  unfold atomN gN
  split
  ·
   exact grewN.refl st
  ·
   exact (h x List.mem_cons_self on st).trans (grewN.fresh nm _ _ _ _)
theorem merge_grew_of {l: List Ex} (h: ∀ x ∈ l,∀ on st,grewN st (plainN nm ty cn va fi x on st).2 (frN x)) (m: ByteArray): ∀ (arms: List ByteArray),arms.length = l.length → ∀ on st,grewN st (mergeN nm ty cn va fi m arms l on st).2 (frL l) := by
 induction l with
 | nil => intro arms _ on st; rw [mergeN]; exact grewN.refl st
 | cons x l ih =>
  intro arms ha on st
  match arms,ha with
  | c :: cs,ha =>
   rw [mergeN_cons,frL_cons]
   refine grewN.trans ?_ (ih (fun y hy => h y (List.mem_cons_of_mem _ hy)) cs (by simpa using ha) on _)
   unfold atomN gN
   split
   ·
    exact grewN.refl st
   ·
    exact (h x List.mem_cons_self _ st).trans (grewN.fresh nm _ _ _ _)
theorem plain_grew (e: Ex): (∀ y ∈ parts e,partE y = true) → ∀ on st,grewN st (plainN nm ty cn va fi e on st).2 (frN e) := by
 induction e using Ex.ind with
 | _ e ih =>
 intro hp on st
 have ih': ∀ x ∈ e.subs,∀ on st,grewN st (plainN nm ty cn va fi x on st).2 (frN x) := fun x hx => ih x hx (sub_ok hp hx)
 have hf: grewN st (frstN nm e on st).2 (if e.kind = 9 then 1 else 0) := by
  unfold frstN
  split
  ·
   exact grewN.fresh nm _ _ _ _
  ·
   exact grewN.refl st
 rw [plainN_eq,frN_eq]
 refine hf.trans ?_
 unfold argsN
 generalize (frstN nm e on st).2 = st1
 by_cases h12: e.kind = 12
 ·
  rw [if_pos h12,if_neg (by omega)]
  have h1: e.arms.length = e.subs.length := by
   obtain ⟨_,hlo,hhi,_⟩ := part_facts (hp e (self_parts e))
   have: (subsE e).1 = e.arms.length ∧ (subsE e).2 = e.arms.length := by simp [subsE,h12]
   omega
  exact merge_grew_of nm ty cn va fi ih' e.name e.arms h1 on st1
 ·
  rw [if_neg h12]
  by_cases h8: e.kind = 8
  ·
   rw [if_pos h8,if_pos h8]
   exact each_grew_of nm ty cn va fi (fun x hx => ih' x (List.mem_of_mem_drop hx)) on st1
  ·
   rw [if_neg h8,if_neg h8]
   exact each_grew_of nm ty cn va fi ih' _ st1
theorem each_grew {l: List Ex} (hp: ∀ x ∈ l,∀ y ∈ parts x,partE y = true) (on: List DCond) (st: NmSt): grewN st (eachN nm ty cn va fi l on st).2 (frL l) := each_grew_of nm ty cn va fi (fun x hx => plain_grew nm ty cn va fi x (hp x hx)) on st
end
theorem frL_le {l: List Ex} (h: ∀ x ∈ l,2 * gN x + 1 ≤ 3 * (parts x).length): 2 * frL l + l.length ≤ 3 * (partsL l).length := by
 induction l with
 | nil => simp [frL,partsL]
 | cons x l ih =>
  have h1 := h x List.mem_cons_self
  have h2 := ih fun y hy => h y (List.mem_cons_of_mem _ hy)
  rw [frL_cons,partsL,List.length_append,List.length_cons]
  omega
theorem frL_drop (l: List Ex): frL (l.drop 1) ≤ frL l := by
 cases l with
 | nil => simp
 | cons x l => rw [frL_cons]; simp
theorem gN_le (e: Ex): (∀ y ∈ parts e,partE y = true) → 2 * gN e + 1 ≤ 3 * (parts e).length ∧ (leafK e.kind = false → 2 * frN e + 3 ≤ 3 * (parts e).length) := by
 induction e using Ex.ind with
 | _ e ih =>
 intro hp
 have hL := frL_le (l := e.subs) fun x hx => (ih x hx (sub_ok hp hx)).1
 have hpl: (parts e).length = (partsL e.subs).length + 1 := parts_lenC e
 have hd := frL_drop e.subs
 have h9: e.kind = 9 → e.subs.length = 2 := fun h => by
  obtain ⟨_,hlo,hhi,_⟩ := part_facts (hp e (self_parts e))
  have: (subsE e).1 = 2 ∧ (subsE e).2 = 2 := by simp [subsE,h]
  omega
 have hfr: 2 * frN e + 3 ≤ 3 * (parts e).length := by
  rw [frN_eq]
  by_cases h: e.kind = 9
  ·
   have := h9 h
   rw [if_pos h,if_neg (by omega)]
   omega
  ·
   rw [if_neg h]
   split <;> omega
 refine ⟨?_,fun _ => hfr⟩
 unfold gN
 split <;> omega
end Go.Proofs.YtpamokpmlplopaaGreatDoor
namespace Go.Proofs.YtpamokpmlplopaaGreatDoor
open Go.Abs
set_option maxRecDepth 20000
set_option linter.unusedSimpArgs false
set_option linter.unusedVariables false
set_option maxHeartbeats 1000000
attribute [local irreducible] vc vcOps vcStep vcGuard prK hrK gK gsK brK callK ElemK SeqK BlockK ScopeK OpsK CallK LoopK LoopGo finPost ACall PCall PCallE BCall vqOps vqStep vqGuard qrK heK pcK gqK gqsK QOpsK qcallK DrawK
section
variable {α β: Type} {f: α → β} {l: List α} {m: List β} {i: Nat} {x: α} {y: β}
theorem mt_step (h: (l.take i).map f = m.take i) (hx: l[i]? = some x) (hy: m[i]? = some y) (e: f x = y): (l.take (i + 1)).map f = m.take (i + 1) := by
 obtain ⟨hi,rfl⟩ := List.getElem?_eq_some_iff.1 hx
 obtain ⟨hj,rfl⟩ := List.getElem?_eq_some_iff.1 hy
 rw [List.take_succ_eq_append_getElem hi,List.take_succ_eq_append_getElem hj,List.map_append,h,← e]
 rfl
theorem mt_no (hx: l[i]? = some x) (hy: m[i]? = some y) (e: ¬ f x = y): eqB (l.map f) m = false := by
 refine eqB_ne fun h => e ?_
 rw [← h,List.getElem?_map,hx] at hy
 exact Option.some.inj hy
theorem mt_len (h: ¬ (l.length: Int) = (m.length: Int)): eqB (l.map f) m = false := eqB_ne fun e => h (by rw [← e,List.length_map])
theorem mt_yes (h: (l.take i).map f = m.take i) (hl: (l.length: Int) = (m.length: Int)) (hi: l.length ≤ i): eqB (l.map f) m = true := by
 rw [List.take_of_length_le hi,List.take_of_length_le (by omega)] at h
 exact eqB_eq h
end
theorem eqST {l: List ByteArray} {m: List DTy} {f: ByteArray → DTy} {g: Nat} {first capt: List AV} {h: List Blk} {K: AV → List Blk → Prop}
  (hp: ∀ x ∈ l,∀ y ∈ m,∀ (r: List Blk) (K: AV → List Blk → Prop),K (.b (decide (f x = y))) (h ++ r) → ACall Tryz.prog g (first ++ AV.s x :: DTy.enc y :: capt) (h ++ r) K)
  (hK: K (.b (eqB (l.map f) m)) h): ACall Tryz.prog 249 [.lst 1 (l.map AV.s) none,.lst 3 (m.map DTy.enc) none,.fn (.func g) first capt] h K := by
 refine acall_of_vc tabOK Tryz.func249 (by kernel_rfl) rfl (n := 32) rfl (rs := [.tmp 6]) rfl ?_
 simp only [go_sem]
 intro _ _
 refine brK_dec (fun hne => ?_) (fun heq => ?_)
 ·
  rw [mt_len (f := f) (l := l) (m := m) (by omega)] at hK
  simp only [go_sem]
  exact finH1 rfl (.raw _) hK
 have hlm: (l.length: Int) = m.length := by omega
 simp only [go_sem]
 intro _
 refine loop_frX [6,7,8,9,17,18,19,20,21,22,23,24,25,26,27,28,29,30,31] (fun n C => ∃ i: Nat,i ≤ l.length ∧ n = l.length - i ∧ (l.take i).map f = m.take i ∧ C = [(17,.raw (.int .i64 (i: Nat)))]) l.length _ ⟨0,by omega,by omega,rfl,rfl⟩ (.cons rfl .nil) ?_
 rintro n C ja r ⟨i,hi,rfl,hp0,rfl⟩
 simp only [go_sem]
 refine brK_dec (fun hlt => ?_) (fun hge => ?_)
 ·
  obtain ⟨x,hx⟩: ∃ x,l[i]? = some x := ⟨_,List.getElem?_eq_getElem (by omega)⟩
  obtain ⟨y,hy⟩: ∃ y,m[i]? = some y := ⟨_,List.getElem?_eq_getElem (by omega)⟩
  simp only [go_sem]
  refine elemHave (x := x) (by omega) (by simpa using hx) ?_
  simp only [go_sem]
  refine elemHave (x := y) (by omega) (by simpa using hy) ?_
  simp only [go_sem]
  refine hp x (List.mem_of_getElem? hx) y (List.mem_of_getElem? hy) _ _ ?_
  simp only [go_sem]
  refine brK_dec (fun he => ?_) (fun he => ?_)
  ·
   rw [mt_no hx hy he] at hK
   simp only [go_sem]
   exact finH0 _ rfl (.raw _) hK
  ·
   simp only [go_sem]
   exact loopFrX _ (by omega) _ ⟨i + 1,by omega,rfl,mt_step hp0 hx hy (Classical.not_not.1 he),rfl⟩ (.next rfl (by omega) .nil) rfl (by first | rfl | (simp only [List.append_assoc,List.cons_append,List.nil_append]; rfl))
 ·
  rw [mt_yes hp0 hlm (by omega)] at hK
  simp only [go_sem]
  exact finH0 _ rfl (.raw _) hK
abbrev plB (p: DProg) (n: DNode): Blk := .cells 204 [.lst 2 (p.Enums.map DEnum.enc) none,.lst 5 (p.Nodes.map DNode.enc) none,.s n.Name,.lst 6 (n.Ins.map DDecl.enc) none,.lst 6 (n.Outs.map DDecl.enc) none,.lst 6 (n.Vars.map DDecl.enc) none,.lst 7 (n.Eqs.map DEq.enc) none]
theorem eqC (p: DProg) (n: DNode) (hl: (allV n).length ≤ 60) (x: ByteArray) (y: DTy) (r: List Blk) {K: AV → List Blk → Prop} (hK: K (.b (decide ((decl n x).1.Ty = y))) (plB p n :: r)): ACall Tryz.prog 248 [.s x,y.enc,.ptr 0 0] (plB p n :: r) K := by
 refine acall_of_vc tabOK Tryz.func248 (by kernel_rfl) rfl (n := 19) rfl (rs := [.tmp 5]) rfl ?_
 simp only [go_sem]
 refine PCall.call (decl25 n x (by omega)) ?_
 generalize decl n x = q at hK
 obtain ⟨d,ok⟩ := q
 simp only [go_sem]
 exact finH0 (h := plB p n :: r) _ rfl (.raw _) hK
abbrev toldA (q: List DTy × Bool): AV := .tup [.lst 3 (q.1.map DTy.enc) none,.b q.2]
theorem pure_toldA (q: List DTy × Bool): Go.Abs.Pure (toldA q) := .tup _ (pure_cons (DTy.pures _) (pure_cons (.raw _) pure_nil))
theorem finTk2 {T: TypeId → TI} {rs: List ResultVar} {s: List AV} {h: List Blk} {q: List DTy × Bool} {ts: List AV} {k: Option Nat} {ok: Bool} (hr: resAV T s h rs = some [.lst 3 ts k,.b ok]) (h1: ts = q.1.map DTy.enc) (h2: ok = q.2): Go.Abs.Fin T rs (toldA q) s h := by
 subst h1 h2
 refine ⟨_,hr,false,Weak.tups ⟨?_,.refl _,trivial⟩⟩
 cases k
 ·
  exact .refl _
 ·
  exact .tok _ _ _
theorem finT0 {T: TypeId → TI} {rs: List ResultVar} {s: List AV} {h: List Blk} {q: List DTy × Bool} {ok: Bool} (hr: resAV T s h rs = some [.raw (.slice none 0 0),.b ok]) (hq: q = ([],ok)): Go.Abs.Fin T rs (toldA q) s h := by
 subst hq
 exact ⟨_,hr,false,Weak.tups ⟨.nil _,.refl _,trivial⟩⟩
theorem callT_mem (p: DProg) (e: Ex) (ts: List DTy): (callT p e ts).1 ∈ p.Nodes ∨ (callT p e ts).1 = nodeD := by
 unfold callT
 split
 ·
  exact .inr rfl
 ·
  rename_i h
  split
  ·
   exact .inr rfl
  ·
   obtain ⟨m,hm⟩ := find_at h
   rw [hm]
   exact .inl (List.mem_of_getElem? hm)
theorem toldC (p: DProg) (hN: ∀ m ∈ p.Nodes,m.Outs.length ≤ 1000) (n: DNode) (ho: tyOK p n) (e: Ex) (hp: ∀ y ∈ parts e,partE y = true) (hok: okE e): PCall Tryz.prog 247 [plE p n,e.enc] (toldA (toldP p n e)) := by
 have hsl := subs_le hok
 obtain ⟨hk,hlo,hhi,ha11,ha12,hn13⟩ := part_facts (hp e (self_parts e))
 refine pcall_of_vc tabOK Tryz.func247 (by kernel_rfl) rfl (pure_cons (pure_plE p n) (pure_cons (pure_enc e) pure_nil)) (pure_toldA _) (n := 56) rfl (rs := [.tmp 4,.tmp 5]) rfl ?_
 unfold toldP
 by_cases h13: e.kind = 13
 ·
  rw [if_pos h13]
  have hsub := subsP p n e hsl (fun x hx => ofP p n ho x (sub_ok hp hx) (sub_okE hok hx))
  have hlen: ∀ ts,allS (ofL p n e.subs) = some ts → ts.length = e.subs.length := fun ts h => by rw [allS_len h,ofL_map,List.length_map]
  generalize allS (ofL p n e.subs) = S at hsub hlen
  cases S with
  | none =>
   have hsub: PCall Tryz.prog 221 [plE p n,e.enc] (.tup [.lst 3 [] none,.b false]) := hsub
   simp only [go_sem]
   refine brK_dec (fun hz => absurd h13 hz) (fun _ => ?_)
   simp only [go_sem]
   refine PCall.call hsub ?_
   simp only [go_sem]
   exact finT0 rfl rfl
  | some ts =>
   have hl := hlen ts rfl
   have hsub: PCall Tryz.prog 221 [plE p n,e.enc] (.tup [.lst 3 (ts.map DTy.enc) none,.b true]) := hsub
   have h1: (subsE e).1 = e.n := by simp [subsE,h13]
   have hc := callP p n e ts (hn13 h13) (by omega)
   have hmo: (callT p e ts).1.Outs.length ≤ 1000 := by
    rcases callT_mem p e ts with h | h
    ·
     exact hN _ h
    ·
     rw [h]; simp [nodeD]
   generalize hc': callT p e ts = q at hc hmo
   obtain ⟨m,ok⟩ := q
   dsimp only at hmo
   simp only [go_sem]
   refine brK_dec (fun hz => absurd h13 hz) (fun _ => ?_)
   simp only [go_sem]
   refine PCall.call hsub ?_
   simp only [go_sem]
   refine PCall.call hc ?_
   simp only [go_sem]
   intro _
   refine loop_ghost (ghost_tok 11 42 3 rfl) ?_
   refine loop_fr [11,13,44,45,46,47,48,49,50,51,52,53] (fun n_ C hh => ∃ (i: Nat) (r: List Blk),i ≤ m.Outs.length ∧ n_ = m.Outs.length - i ∧ C = [(44,.raw (.int .i64 (i: Nat))),(11,.lst 3 (((m.Outs.take i).map DDecl.Ty).map DTy.enc) (some 3))] ∧
    hh = plB p n :: .cells 72 [.i e.kind,.i e.n,.s e.name,.i e.op,.lst 1 (e.arms.map AV.s) none,.lst 6 (e.subs.map Ex.enc) none] :: nodeB m :: .tok 42 3 i :: r) m.Outs.length _ ⟨0,[],by omega,by omega,rfl,rfl⟩ (.cons rfl (.cons rfl .nil)) ?_
   rintro n_ C ja hh ⟨i,r,hi,rfl,rfl,rfl⟩
   simp only [go_sem]
   refine brK_dec (fun hlt => ?_) (fun hge => ?_)
   ·
    obtain ⟨d,hd⟩: ∃ d,m.Outs[i]? = some d := ⟨_,List.getElem?_eq_getElem (by omega)⟩
    simp only [go_sem]
    refine elemHave (x := d) (by omega) (by simpa using hd) ?_
    simp only [go_sem]
    have hti: (m.Outs.take i).length = i := by rw [List.length_take]; omega
    refine ⟨by omega,?_⟩
    exact loopFr _ (by omega) ⟨i + 1,_,by omega,rfl,rfl,by rw [hti]⟩ (.next rfl (by omega) (.cons (by rw [take_mapS (f := DDecl.Ty) (by simpa using hd)]; simp [DTy.enc_eq]) .nil)) rfl
   ·
    simp only [go_sem]
    rw [List.take_of_length_le (by omega)]
    exact finTk2 rfl (by rw [hc']) (by rw [hc'])
 ·
  rw [if_neg h13]
  have hc := ofP p n ho e hp hok
  unfold OfC at hc
  generalize headP p n e (ofL p n e.subs) = q at hc
  obtain ⟨t,ok⟩ := q
  simp only [go_sem]
  refine brK_dec (fun _ => ?_) (fun hz => absurd h13 (by omega))
  simp only [go_sem]
  refine PCall.call hc ?_
  simp only [go_sem]
  exact finTk2 rfl (by simp [DTy.enc_eq]) rfl
theorem eqP (p: DProg) (hN: ∀ m ∈ p.Nodes,m.Outs.length ≤ 1000) (n: DNode) (ho: tyOK p n) (q: DEq) (hp: ∀ y ∈ parts q.E,partE y = true) (hok: okE q.E): PCall Tryz.prog 198 [plE p n,q.enc] (.b (eqTy p n q)) := by
 refine pcall_of_vc tabOK Tryz.func198 (by kernel_rfl) rfl (pure_cons (pure_plE p n) (pure_cons (DEq.pure _) pure_nil)) (.raw _) (n := 24) rfl (rs := [.tmp 4]) rfl ?_
 have ht := toldC p hN n ho q.E hp hok
 unfold eqTy
 generalize toldP p n q.E = t at ht
 obtain ⟨ts,ok⟩ := t
 simp only [go_sem]
 refine PCall.call ht ?_
 simp only [go_sem]
 cases ok
 ·
  simp only [go_sem]
  exact finBq rfl rfl
 ·
  simp only [go_sem]
  refine eqST (f := fun s => (decl n s).1.Ty) (fun x hx y hy r K hK => ?_) ?_
  ·
   exact eqC p n ho.1 x y _ hK
  ·
   simp only [go_sem]
   exact finBq rfl rfl
end Go.Proofs.YtpamokpmlplopaaGreatDoor
namespace Go.Proofs.YtpamokpmlplopaaGreatDoor
open Go.Abs
set_option maxRecDepth 20000
set_option linter.unusedSimpArgs false
set_option linter.unusedVariables false
set_option maxHeartbeats 1000000
attribute [local irreducible] vc vcOps vcStep vcGuard prK hrK gK gsK brK callK ElemK SeqK BlockK ScopeK OpsK CallK LoopK LoopGo finPost ACall PCall PCallE BCall vqOps vqStep vqGuard qrK heK pcK gqK gqsK QOpsK qcallK DrawK
theorem nodeTy_clk {p: DProg} {a: Nat} {n: DNode} {d: DDecl} (h: d ∈ allV n) (hc: clkTy p n d = false): nodeTy p a n = ⟨(a: Int),-1,7⟩ := by
 unfold nodeTy
 rw [List.all_eq_false.2 ⟨d,h,by rw [hc]; simp⟩,if_neg (by simp)]
theorem nodeTy_eqs {p: DProg} {a: Nat} {n: DNode} (h: ∀ d ∈ allV n,clkTy p n d = true): nodeTy p a n = firstE (a: Int) 7 (fun _ q => eqTy p n q) 0 n.Eqs := by
 unfold nodeTy
 rw [if_pos (List.all_eq_true.2 h)]
theorem clkTy_no {p: DProg} {n: DNode} {d: DDecl} (h: d.On = ⟨#[]⟩): clkTy p n d = true := by unfold clkTy; rw [decide_eq_true h]; rfl
theorem clkTy_w {p: DProg} {n: DNode} {d: DDecl} {b: Bool} (h: ¬ d.On = ⟨#[]⟩) (hw: whenT p n d.On d.Ctor = b): clkTy p n d = b := by unfold clkTy; rw [decide_eq_false h,hw]; rfl
theorem checkTy (p: DProg) (hN: ∀ m ∈ p.Nodes,m.Outs.length ≤ 1000) (j: Nat) (n: DNode) (hn: okNode n) (ho: tyOK p n) (hr: ∀ q ∈ n.Eqs,rightE q.E = true): PCall Tryz.prog 156 [plE p n,.i (j: Int)] (nodeTy p j n).enc := by
 refine pcall_of_vc tabOK Tryz.func156 (by kernel_rfl) rfl (pure_cons (pure_plE p n) (pure_cons (.raw _) pure_nil)) (DFault.pure _) (n := 58) rfl (rs := [.cell 4 61]) rfl ?_
 have hl := ho.1
 have hA: [n.Ins,n.Outs,n.Vars].flatten = allV n := by simp [allV]
 have he4 := hn.2.2.2.1
 simp only [go_sem]
 refine PCall.callW (concatD [n.Ins,n.Outs,n.Vars] (by show ([n.Ins,n.Outs,n.Vars].flatten).length ≤ _; rw [hA]; omega)) ⟨.tok _ _ _,trivial⟩ ?_
 rw [hA]
 simp only [go_sem]
 intro _
 refine loop_frX [6,21,22,23,24,25,26,27,28,29,30,31,32,33,34,35,36,37,38,39] (fun m C => ∃ i: Nat,i ≤ (allV n).length ∧ m = (allV n).length - i ∧ (∀ d ∈ (allV n).take i,clkTy p n d = true) ∧ C = [(21,.raw (.int .i64 (i: Nat)))]) (allV n).length _ ⟨0,by omega,by omega,by simp,rfl⟩ (.cons rfl .nil) ?_
 rintro m C ja r ⟨i,hi,rfl,hp0,rfl⟩
 simp only [go_sem]
 refine brK_dec (fun hlt => ?_) (fun hge => ?_)
 ·
  obtain ⟨d,hd⟩: ∃ d,(allV n)[i]? = some d := ⟨_,List.getElem?_eq_getElem (by omega)⟩
  simp only [go_sem]
  refine elemHave (x := d) (by omega) (by simpa using hd) ?_
  simp only [go_sem]
  by_cases hO: d.On = ⟨#[]⟩
  ·
   rw [hO]
   repeat' first
    | simp only [go_sem]
    | refine gqK_dec (fun h => absurd rfl h) (fun _ => ?_)
    | refine gK_dec (fun h => absurd rfl h) (fun _ => ?_)
    | refine brK_dec (fun h => absurd rfl h) (fun _ => ?_)
    | exact loopFrX _ (by omega) _ ⟨i + 1,by omega,rfl,take_all hp0 hd (clkTy_no hO),rfl⟩ (.next rfl (by omega) .nil) rfl (by first | rfl | (simp only [List.append_assoc,List.cons_append,List.nil_append]; rfl))
  ·
   have hw := whenP p n hl d.On d.Ctor
   generalize hwb: whenT p n d.On d.Ctor = b at hw
   have hck := clkTy_w hO hwb
   cases b
   all_goals
    repeat' first
     | simp only [go_sem]
     | refine gqK_dec (fun _ => ?_) (fun h => absurd hO h)
     | refine gK_dec (fun _ => ?_) (fun h => absurd hO h)
     | refine gK_dec (fun _ => ?_) (fun h => absurd (Classical.not_not.1 h) hO)
     | (refine PCall.call hw ?_)
     | (rw [nodeTy_clk (List.mem_of_getElem? hd) hck]; exact ⟨_,rfl,false,by rw [DFault.enc_eq]; exact .refl _⟩)
     | exact loopFrX _ (by omega) _ ⟨i + 1,by omega,rfl,take_all hp0 hd hck,rfl⟩ (.next rfl (by omega) .nil) rfl (by first | rfl | (simp only [List.append_assoc,List.cons_append,List.nil_append]; rfl))
 ·
  rw [nodeTy_eqs (take_full hp0 (by omega))]
  generalize hE: firstE (j: Int) 7 (fun _ q => eqTy p n q) 0 n.Eqs = E
  simp only [go_sem]
  intro _
  refine loop_frX [7,8,44,45,46,47,48,49,50,51,52,53,54,55,56] (fun m C => ∃ i: Nat,i ≤ n.Eqs.length ∧ m = n.Eqs.length - i ∧ firstE (j: Int) 7 (fun _ q => eqTy p n q) i (n.Eqs.drop i) = E ∧ C = [(44,.raw (.int .i64 (i: Nat)))]) n.Eqs.length _ ⟨0,by omega,by omega,hE,rfl⟩ (.cons rfl .nil) ?_
  rintro m C jb r2 ⟨i2,hi2,rfl,hE',rfl⟩
  simp only [go_sem]
  refine brK_dec (fun hlt => ?_) (fun hge2 => ?_)
  ·
   obtain ⟨q,hq⟩: ∃ q,n.Eqs[i2]? = some q := ⟨_,List.getElem?_eq_getElem (by omega)⟩
   have hqm := List.mem_of_getElem? hq
   simp only [go_sem]
   refine elemHave (x := q) (by omega) (by simpa using hq) ?_
   simp only [go_sem]
   refine PCall.call (eqP p hN n ho q (right_parts (hr q hqm)) (hn.2.2.2.2.2 q hqm).2.1) ?_
   generalize hb: eqTy p n q = b
   cases b
   ·
    have hE1 := firstE_at hE' hq hb
    rw [hE1]
    simp only [go_sem]
    exact ⟨_,rfl,false,by rw [DFault.enc_eq]; exact .refl _⟩
   ·
    have hE1 := firstE_next hE' hq hb
    simp only [go_sem]
    exact loopFrX _ (by omega) _ ⟨i2 + 1,by omega,rfl,hE1,rfl⟩ (.next rfl (by omega) .nil) rfl (by first | rfl | (simp only [List.append_assoc,List.cons_append,List.nil_append]; rfl))
  ·
   have h0 := firstE_0 hE' (by omega)
   subst h0
   simp only [go_sem]
   exact ⟨_,rfl,false,by rw [DFault.enc_eq]; exact .refl _⟩
theorem outs_le {p: DProg} (hp: okProg p): ∀ m ∈ p.Nodes,m.Outs.length ≤ 1000 := fun m hm => by
 have := (hp.2.2 m hm).2.1.1
 omega
theorem typesCheck (p: DProg) (hp: okProg p): PCall Tryz.prog 120 [p.enc] (typesF p).enc := by
 refine pcall_of_vc tabOK Tryz.func120 (by kernel_rfl) rfl (by first | exact pureL | exact pureI) (by first | exact pureL | exact pureI) (n := 32) rfl (rs := [.cell 2 61]) rfl ?_
 have hp6 := hp.2.1
 unfold typesF
 simp only [go_sem]
 refine PCall.call (scopeCheck p hp) ?_
 have hz := scope_zero (p := p)
 generalize scopeF p = F at hz
 rw [show F.enc = .agg [.i F.Node,.i F.Eq,.i F.Err] from DFault.enc_eq _]
 simp only [go_sem]
 refine brK_dec (fun h0 => ?_) (fun h0 => ?_)
 ·
  rw [if_neg h0]
  simp only [go_sem]
  exact ⟨_,rfl,false,by rw [DFault.enc_eq]; exact .refl _⟩
 have h0: F.Err = 0 := Classical.not_not.1 h0
 rw [if_pos h0]
 obtain ⟨_,hc0,_⟩ := hz h0
 generalize hE: firstF (nodeTy p) 0 p.Nodes = E
 simp only [go_sem]
 intro _
 refine loop_frX [4,5,6,16,17,18,19,20,21,22,23,24,25,26,27,28,29,30] (fun m C => ∃ i: Nat,i ≤ p.Nodes.length ∧ m = p.Nodes.length - i ∧ firstF (nodeTy p) i (p.Nodes.drop i) = E ∧ C = [(16,.raw (.int .i64 (i: Nat)))]) p.Nodes.length _ ⟨0,by omega,by omega,hE,rfl⟩ (.cons rfl .nil) ?_
 rintro m C ja r ⟨i,hi,rfl,hE',rfl⟩
 simp only [go_sem]
 refine brK_dec (fun hlt => ?_) (fun hge => ?_)
 ·
  obtain ⟨n,hj⟩: ∃ n,p.Nodes[i]? = some n := ⟨_,List.getElem?_eq_getElem (by omega)⟩
  have hnm := List.mem_of_getElem? hj
  simp only [go_sem]
  refine elemHave (x := n) (by omega) (by simpa using hj) ?_
  simp only [go_sem]
  refine PCall.call (checkTy p (outs_le hp) i n (hp.2.2 n hnm) (tyOK_of hp hc0 n hnm) (fun q hq => (eqs_right hc0 hnm hq).2)) ?_
  by_cases hF: (nodeTy p i n).Err = 0
  ·
   have hE1 := first_next hE' hj hF
   rw [(nodeTy_zero hF).1,DFault.enc_eq]
   simp only [go_sem]
   exact loopFrX _ (by omega) _ ⟨i + 1,by omega,rfl,hE1,rfl⟩ (.next rfl (by omega) .nil) rfl (by first | rfl | (simp only [List.append_assoc,List.cons_append,List.nil_append]; rfl))
  ·
   have hE1 := first_at hE' hj hF
   rw [hE1]
   generalize nodeTy p i n = G at hF
   rw [DFault.enc_eq]
   simp only [go_sem]
   refine brK_dec (fun _ => ?_) (fun hq => absurd hF hq)
   simp only [go_sem]
   exact ⟨_,rfl,false,by rw [DFault.enc_eq]; exact .refl _⟩
 ·
  have h1 := first_0 hE' (by omega)
  subst h1
  simp only [go_sem]
  exact ⟨_,rfl,false,by rw [DFault.enc_eq]; exact .refl _⟩
theorem names_any {L: List DEnum} {n: DNode} {l: List ByteArray} {row: List DCond} (hr: ∀ s ∈ l,(rowN L n s).2 = true): (l.any fun x => !((rowN L n x).2 && eqB (rowN L n x).1 row)) = !(l.all fun s => eqB (rowN L n s).1 row) := by
 induction l with
 | nil => rfl
 | cons x l ih =>
  rw [List.any_cons,List.all_cons,ih (fun s hs => hr s (List.mem_cons_of_mem _ hs)),hr x List.mem_cons_self,Bool.true_and,Bool.not_and]
theorem headD_at0 {l: List ByteArray} {s: ByteArray} (h: l[0]? = some s): l.headD ⟨#[]⟩ = s := by
 match l with
 | y :: l => simp at h; rw [h]; rfl
abbrev placeBk (p: DProg) (k: Nat): Blk := .cells 169 [.lst 2 (p.Enums.map DEnum.enc) none,.lst 5 (p.Nodes.map DNode.enc) none,.i k]
theorem eqCk1 (p: DProg) (k: Nat) (n: DNode) (hn: p.Nodes[k]? = some n) (hl: (allV n).length ≤ 4294967296) (x: ByteArray) (row: List DCond) (b1: Blk) (r: List Blk) {K: AV → List Blk → Prop} (hK: K (.b (!((rowN p.Enums n x).2 && eqB (rowN p.Enums n x).1 row))) (placeBk p k :: b1 :: .cells 43 [.lst 2 (row.map DCond.enc) none] :: r)) :
  ACall Tryz.prog 200 [.s x,.ptr 0 0,.ptr 2 0] (placeBk p k :: b1 :: .cells 43 [.lst 2 (row.map DCond.enc) none] :: r) K := by
 refine acall_of_vc tabOK Tryz.func200 (by kernel_rfl) rfl (n := 10) rfl (rs := [.tmp 4]) rfl ?_
 simp only [go_sem]
 refine PCall.call (on129 p k n hn hl x row) ?_
 simp only [go_sem]
 exact finH1 rfl (.raw _) hK
theorem eqCkP (p: DProg) (k: Nat) (n: DNode) (hn: p.Nodes[k]? = some n) (hl: (allV n).length ≤ 4294967296) (q: DEq) (h0: 0 < q.Names.length) (hr: ∀ s ∈ q.Names,(rowN p.Enums n s).2 = true) (hb: (parts q.E).length ≤ 200): PCall Tryz.prog 158 [placeE p k,q.enc] (.b (eqCk p.Enums n q)) := by
 refine pcall_of_vc tabOK Tryz.func158 (by kernel_rfl) rfl (pure_cons (pure_place p k) (pure_cons (DEq.pure _) pure_nil)) (.raw _) (n := 28) rfl (rs := [.tmp 4]) rfl ?_
 obtain ⟨s0,hs0⟩: ∃ s,q.Names[0]? = some s := ⟨_,List.getElem?_eq_getElem (by omega)⟩
 unfold eqCk
 rw [headD_at0 hs0]
 have hR := row90 p k n hn s0 hl
 have hr0 := hr s0 (List.mem_of_getElem? hs0)
 have hlen := rowN_len p.Enums n s0
 generalize rowN p.Enums n s0 = R at hR hr0 hlen
 obtain ⟨row,ok⟩ := R
 dsimp only at hr0 hlen
 subst hr0
 dsimp only
 have hany := names_any (row := row) hr
 simp only [go_sem]
 refine drawK mo (by kernel_rfl) ?_
 simp only [go_sem]
 refine elemHave (x := s0) (by omega) (by simpa using hs0) ?_
 simp only [go_sem]
 refine pcK_of hR ?_
 simp only [go_sem]
 refine contains106 (p := fun x => !((rowN p.Enums n x).2 && eqB (rowN p.Enums n x).1 row)) (fun x hx K hK => eqCk1 p k n hn hl x row _ _ hK) ?_
 rw [hany]
 generalize (q.Names.all fun s => eqB (rowN p.Enums n s).1 row) = b
 cases b
 ·
  simp only [go_sem]
  exact finBq rfl rfl
 ·
  simp only [go_sem]
  refine PCall.call (fits92 p k n hn hl q.E row (by omega)) ?_
  simp only [go_sem]
  exact finBq rfl (by simp)
theorem nodeCk_row {p: DProg} {a: Nat} {n: DNode} {d: DDecl} (h: d ∈ allV n) (hc: (rowN p.Enums n d.Name).2 = false): nodeCk p a n = ⟨(a: Int),-1,8⟩ := by
 unfold nodeCk rowsOk
 rw [List.all_eq_false.2 ⟨d,h,by rw [hc]; simp⟩,if_neg (by simp)]
theorem rowsOk_of {L: List DEnum} {n: DNode} (h: ∀ d ∈ allV n,(rowN L n d.Name).2 = true): rowsOk L n = true := List.all_eq_true.2 h
theorem nodeCk_eqs {p: DProg} {a: Nat} {n: DNode} (h: rowsOk p.Enums n = true): nodeCk p a n = firstE (a: Int) 8 (fun _ q => eqCk p.Enums n q) 0 n.Eqs := by
 unfold nodeCk
 rw [if_pos h]
theorem checkCk (p: DProg) (k: Nat) (n: DNode) (hk: p.Nodes[k]? = some n) (hn: okNode n) (hl: (allV n).length ≤ 60) (hq1: ∀ q ∈ n.Eqs,0 < q.Names.length ∧ ∀ s ∈ q.Names,isF n s = true): PCall Tryz.prog 121 [placeE p k] (nodeCk p k n).enc := by
 refine pcall_of_vc tabOK Tryz.func121 (by kernel_rfl) rfl (pure_cons (pure_place p k) pure_nil) (DFault.pure _) (n := 62) rfl (rs := [.cell 2 61]) rfl ?_
 have hA: [n.Ins,n.Outs,n.Vars].flatten = allV n := by simp [allV]
 have he4 := hn.2.2.2.1
 simp only [go_sem]
 refine elemHave (x := n) (by omega) (by simpa using hk) ?_
 simp only [go_sem]
 refine PCall.callW (concatD [n.Ins,n.Outs,n.Vars] (by show ([n.Ins,n.Outs,n.Vars].flatten).length ≤ _; rw [hA]; omega)) ⟨.tok _ _ _,trivial⟩ ?_
 rw [hA]
 simp only [go_sem]
 intro _
 refine loop_frX [6,7,8,30,31,32,33,34,35,36,37,38,39,40,41,42,43,44] (fun m C => ∃ i: Nat,i ≤ (allV n).length ∧ m = (allV n).length - i ∧ (∀ d ∈ (allV n).take i,(rowN p.Enums n d.Name).2 = true) ∧ C = [(30,.raw (.int .i64 (i: Nat)))]) (allV n).length _ ⟨0,by omega,by omega,by simp,rfl⟩ (.cons rfl .nil) ?_
 rintro m C ja r ⟨i,hi,rfl,hp0,rfl⟩
 simp only [go_sem]
 refine brK_dec (fun hlt => ?_) (fun hge => ?_)
 ·
  obtain ⟨d,hd⟩: ∃ d,(allV n)[i]? = some d := ⟨_,List.getElem?_eq_getElem (by omega)⟩
  have hR := row90 p k n hk d.Name (by omega)
  have hst := take_all hp0 hd
  have hno := nodeCk_row (p := p) (a := k) (n := n) (List.mem_of_getElem? hd)
  generalize hq: rowN p.Enums n d.Name = R at hR hst hno
  obtain ⟨row,ok⟩ := R
  simp only [go_sem]
  refine elemHave (x := d) (by omega) (by simpa using hd) ?_
  simp only [go_sem]
  refine PCall.call hR ?_
  cases ok
  ·
   rw [hno rfl]
   simp only [go_sem]
   exact ⟨_,rfl,false,by rw [DFault.enc_eq]; exact .refl _⟩
  ·
   simp only [go_sem]
   exact loopFrX _ (by omega) _ ⟨i + 1,by omega,rfl,hst rfl,rfl⟩ (.next rfl (by omega) .nil) rfl (by first | rfl | (simp only [List.append_assoc,List.cons_append,List.nil_append]; rfl))
 ·
  have hrk := rowsOk_of (take_full hp0 (by omega))
  rw [nodeCk_eqs hrk]
  generalize hE: firstE (k: Int) 8 (fun _ q => eqCk p.Enums n q) 0 n.Eqs = E
  simp only [go_sem]
  intro _
  refine loop_frX [9,10,48,49,50,51,52,53,54,55,56,57,58,59,60] (fun m C => ∃ i: Nat,i ≤ n.Eqs.length ∧ m = n.Eqs.length - i ∧ firstE (k: Int) 8 (fun _ q => eqCk p.Enums n q) i (n.Eqs.drop i) = E ∧ C = [(48,.raw (.int .i64 (i: Nat)))]) n.Eqs.length _ ⟨0,by omega,by omega,hE,rfl⟩ (.cons rfl .nil) ?_
  rintro m C jb r2 ⟨i2,hi2,rfl,hE',rfl⟩
  simp only [go_sem]
  refine brK_dec (fun hlt => ?_) (fun hge2 => ?_)
  ·
   obtain ⟨q,hq⟩: ∃ q,n.Eqs[i2]? = some q := ⟨_,List.getElem?_eq_getElem (by omega)⟩
   have hqm := List.mem_of_getElem? hq
   have hqo := hn.2.2.2.2.2 q hqm
   have hx := eqCkP p k n hk (by omega) q (hq1 q hqm).1 (fun s hs => row_is hrk ((hq1 q hqm).2 s hs)) hqo.2.1.1
   generalize hb: eqCk p.Enums n q = b at hx
   simp only [go_sem]
   refine elemHave (x := q) (by omega) (by simpa using hq) ?_
   simp only [go_sem]
   refine PCall.call hx ?_
   cases b
   ·
    have hE1 := firstE_at hE' hq hb
    rw [hE1]
    simp only [go_sem]
    exact ⟨_,rfl,false,by rw [DFault.enc_eq]; exact .refl _⟩
   ·
    have hE1 := firstE_next hE' hq hb
    simp only [go_sem]
    exact loopFrX _ (by omega) _ ⟨i2 + 1,by omega,rfl,hE1,rfl⟩ (.next rfl (by omega) .nil) rfl (by first | rfl | (simp only [List.append_assoc,List.cons_append,List.nil_append]; rfl))
  ·
   have h0 := firstE_0 hE' (by omega)
   subst h0
   simp only [go_sem]
   exact ⟨_,rfl,false,by rw [DFault.enc_eq]; exact .refl _⟩
theorem names_good {p: DProg} (hF: (typesF p).Err = 0) {k: Nat} {n: DNode} (hk: p.Nodes[k]? = some n): ∀ q ∈ n.Eqs,0 < q.Names.length ∧ ∀ s ∈ q.Names,isF n s = true := by
 obtain ⟨_,hs,hc,_⟩ := types_zero hF
 have h0 := (scope_zero (p := p) (by rw [hs])).2.2 k n hk
 exact fun q hq => ⟨(eqs_right hc (List.mem_of_getElem? hk) hq).1,(node_is h0 q hq).1⟩
theorem clockCheck (p: DProg) (hp: okProg p): PCall Tryz.prog 84 [p.enc] (clockF p).enc := by
 refine pcall_of_vc tabOK Tryz.func84 (by kernel_rfl) rfl (by first | exact pureL | exact pureI) (by first | exact pureL | exact pureI) (n := 28) rfl (rs := [.cell 2 61]) rfl ?_
 have hp6 := hp.2.1
 unfold clockF
 simp only [go_sem]
 refine PCall.call (typesCheck p hp) ?_
 have hz := types_zero (p := p)
 have hg := fun h => @names_good p h
 generalize typesF p = F at hz hg
 rw [show F.enc = .agg [.i F.Node,.i F.Eq,.i F.Err] from DFault.enc_eq _]
 simp only [go_sem]
 refine brK_dec (fun h0 => ?_) (fun h0 => ?_)
 ·
  rw [if_neg h0]
  simp only [go_sem]
  exact ⟨_,rfl,false,by rw [DFault.enc_eq]; exact .refl _⟩
 have h0: F.Err = 0 := Classical.not_not.1 h0
 rw [if_pos h0]
 obtain ⟨_,_,hc0,_⟩ := hz h0
 generalize hE: firstF (nodeCk p) 0 p.Nodes = E
 simp only [go_sem]
 intro _
 refine loop_frX [4,5,15,16,17,18,19,20,21,22,23,24,25,26] (fun m C => ∃ i: Nat,i ≤ p.Nodes.length ∧ m = p.Nodes.length - i ∧ firstF (nodeCk p) i (p.Nodes.drop i) = E ∧ C = [(15,.raw (.int .i64 (i: Nat)))]) p.Nodes.length _ ⟨0,by omega,by omega,hE,rfl⟩ (.cons rfl .nil) ?_
 rintro m C ja r ⟨i,hi,rfl,hE',rfl⟩
 simp only [go_sem]
 refine brK_dec (fun hlt => ?_) (fun hge => ?_)
 ·
  obtain ⟨n,hj⟩: ∃ n,p.Nodes[i]? = some n := ⟨_,List.getElem?_eq_getElem (by omega)⟩
  have hnm := List.mem_of_getElem? hj
  simp only [go_sem]
  refine PCall.call (checkCk p i n hj (hp.2.2 n hnm) (tyOK_of hp hc0 n hnm).1 (hg h0 hj)) ?_
  by_cases hF: (nodeCk p i n).Err = 0
  ·
   have hE1 := first_next hE' hj hF
   rw [(nodeCk_zero hF).1,DFault.enc_eq]
   simp only [go_sem]
   exact loopFrX _ (by omega) _ ⟨i + 1,by omega,rfl,hE1,rfl⟩ (.next rfl (by omega) .nil) rfl (by first | rfl | (simp only [List.append_assoc,List.cons_append,List.nil_append]; rfl))
  ·
   have hE1 := first_at hE' hj hF
   rw [hE1]
   generalize nodeCk p i n = G at hF
   rw [DFault.enc_eq]
   simp only [go_sem]
   refine brK_dec (fun _ => ?_) (fun hq => absurd hF hq)
   simp only [go_sem]
   exact ⟨_,rfl,false,by rw [DFault.enc_eq]; exact .refl _⟩
 ·
  have h1 := first_0 hE' (by omega)
  subst h1
  simp only [go_sem]
  exact ⟨_,rfl,false,by rw [DFault.enc_eq]; exact .refl _⟩
theorem told_of {p: DProg} {n: DNode} {e: Ex} (h: ¬ e.kind = 13): toldP p n e = match ofT p n e with | some t => ([t],true) | none => ([(headP p n e (ofL p n e.subs)).1],false) := by
 unfold toldP
 rw [if_neg h,ofT_eq]
 generalize headP p n e (ofL p n e.subs) = q
 obtain ⟨t,ok⟩ := q
 cases ok <;> rfl
theorem eqTy_no {p: DProg} {n: DNode} {q: DEq} (h: (toldP p n q.E).2 = false): eqTy p n q = false := by unfold eqTy; rw [h]; rfl
theorem eqTy_yes {p: DProg} {n: DNode} {q: DEq} {ts: List DTy} (h: toldP p n q.E = (ts,true)): eqTy p n q = eqB (q.Names.map fun s => (decl n s).1.Ty) ts := by unfold eqTy; rw [h]; rfl
theorem told_n {p: DProg} {n: DNode} {e: Ex} (h: e.kind = 13) (hS: allS (ofL p n e.subs) = none): (toldP p n e).2 = false := by
 unfold toldP
 rw [if_pos h,hS]
theorem told_s {p: DProg} {n: DNode} {e: Ex} {ts: List DTy} (h: e.kind = 13) (hS: allS (ofL p n e.subs) = some ts): toldP p n e = ((callT p e ts).1.Outs.map DDecl.Ty,(callT p e ts).2) := by
 unfold toldP
 rw [if_pos h,hS]
abbrev eqBT (q: DEq): Blk := .cells 74 [.lst 1 (q.Names.map AV.s) none,.i q.E.kind,.i q.E.n,.s q.E.name,.i q.E.op,.lst 1 (q.E.arms.map AV.s) none,.lst 6 (q.E.subs.map Ex.enc) none]
theorem eqTX (p: DProg) (hN: ∀ m ∈ p.Nodes,m.Outs.length ≤ 1000) (j: Nat) (n: DNode) (hj: p.Nodes[j]? = some n) (ho: tyOK p n) (q: DEq) (hp: ∀ y ∈ parts q.E,partE y = true) (hok: okE q.E) (hb: q.Names.length ≤ 1000): PCall Tryz.prog 151 [p.enc,.i (j: Int),q.enc] (.b (eqTy p n q)) := by
 have hsl := subs_le hok
 obtain ⟨hk,hlo,hhi,ha11,ha12,hn13⟩ := part_facts (hp q.E (self_parts q.E))
 refine pcall_of_vc tabOK Tryz.func151 (by kernel_rfl) rfl (pure_cons (DProg.pure _) (pure_cons (.raw _) (pure_cons (DEq.pure _) pure_nil))) (.raw _) (n := 114) rfl (rs := [.tmp 6]) rfl ?_
 by_cases h13: q.E.kind = 13
 ·
  have hsub := subsX p j n q.E hsl (fun x hx => OfXj p j n hj ho x (sub_ok hp hx) (sub_okE hok hx))
  have hlen: ∀ ts,allS (ofL p n q.E.subs) = some ts → ts.length = q.E.subs.length := fun ts h => by rw [allS_len h,ofL_map,List.length_map]
  have hTn := told_n (p := p) (n := n) h13
  have hTs := fun ts => told_s (p := p) (n := n) (ts := ts) h13
  generalize allS (ofL p n q.E.subs) = S at hsub hlen hTn hTs
  cases S with
  | none =>
   have hsub: PCall Tryz.prog 145 [p.enc,.i (j: Int),q.E.enc] (.tup [.lst 3 [] none,.b false]) := hsub
   rw [eqTy_no (hTn rfl)]
   simp only [go_sem]
   refine brK_dec (fun _ => ?_) (fun hz => absurd h13 hz)
   simp only [go_sem]
   refine PCall.call hsub ?_
   simp only [go_sem]
   exact finBq rfl rfl
  | some ts =>
   have hl := hlen ts rfl
   have hsub: PCall Tryz.prog 145 [p.enc,.i (j: Int),q.E.enc] (.tup [.lst 3 (ts.map DTy.enc) none,.b true]) := hsub
   have h1: (subsE q.E).1 = q.E.n := by simp [subsE,h13]
   have hc := callX p q.E ts (hn13 h13) (by omega) (by omega)
   cases hcb: (callT p q.E ts).2 with
   | false =>
    rw [callXT_no hcb] at hc
    rw [eqTy_no (by rw [hTs ts rfl]; exact hcb)]
    simp only [go_sem]
    refine brK_dec (fun _ => ?_) (fun hz => absurd h13 hz)
    simp only [go_sem]
    refine PCall.call hsub ?_
    simp only [go_sem]
    refine PCall.call hc ?_
    simp only [go_sem]
    exact finBq rfl rfl
   | true =>
    rw [callXT_yes hcb] at hc
    have hfi: ¬ findF p q.E.name < 0 := fun h => by unfold callT at hcb; rw [if_pos h] at hcb; cases hcb
    obtain ⟨m,hm⟩ := find_at hfi
    have hcm: (callT p q.E ts).1 = m := by
     unfold callT at hcb ⊢
     rw [if_neg hfi] at hcb ⊢
     split at hcb
     ·
      cases hcb
     ·
      rename_i h2
      rw [if_neg h2,hm]
      rfl
    have hmo := hN m (List.mem_of_getElem? hm)
    rw [eqTy_yes (ts := m.Outs.map DDecl.Ty) (by rw [hTs ts rfl,hcm,hcb])]
    clear hTn hTs
    generalize findF p q.E.name = f at hc hm hfi
    obtain ⟨fn,rfl⟩: ∃ fn: Nat,f = fn := ⟨f.toNat,by omega⟩
    simp only [go_sem]
    refine brK_dec (fun _ => ?_) (fun hz => absurd h13 hz)
    simp only [go_sem]
    refine PCall.call hsub ?_
    simp only [go_sem]
    refine PCall.call hc ?_
    simp only [go_sem]
    generalize hwant: m.Outs.map DDecl.Ty = want
    refine loop_fr [7,12,43,44,45,46,47,48,49,50,51,52,53,54,55,56,57,58,59,60,61,62,63,64,65,66] (fun m_ C hh => ∃ (i: Nat) (r: List Blk),i ≤ m.Outs.length ∧ m_ = m.Outs.length - i ∧ C = [(12,.raw (.int .i64 (i: Nat))),(7,.lst 3 (((m.Outs.take i).map DDecl.Ty).map DTy.enc) (some 2))] ∧
     hh = progBd p :: eqBT q :: .tok 42 3 i :: r) m.Outs.length _ ⟨0,[],by omega,by omega,rfl,rfl⟩ (.cons rfl (.cons rfl .nil)) ?_
    rintro m_ C ja hh ⟨i,r,hi,rfl,rfl,rfl⟩
    simp only [go_sem]
    refine elemHave (x := m) (by omega) hm ?_
    simp only [go_sem]
    intro _
    refine brK_dec (fun hlt => ?_) (fun hge => ?_)
    ·
     obtain ⟨d,hd⟩: ∃ d,m.Outs[i]? = some d := ⟨_,List.getElem?_eq_getElem (by omega)⟩
     simp only [go_sem]
     refine elemHave (x := m) (by omega) hm ?_
     simp only [go_sem]
     refine elemHave (x := d) (by omega) (by simpa using hd) ?_
     simp only [go_sem]
     have hti: (m.Outs.take i).length = i := by rw [List.length_take]; omega
     refine ⟨by omega,?_⟩
     exact loopFr _ (by omega) ⟨i + 1,_,by omega,rfl,rfl,by rw [hti]⟩ (.next rfl (by omega) (.cons (by rw [take_mapS (f := DDecl.Ty) (by simpa using hd)]; simp [DTy.enc_eq]) .nil)) rfl
    ·
     rw [List.take_of_length_le (by omega),hwant]
     clear hge
     have hwl: want.length ≤ 1000 := by first | (rw [← hwant]; simpa using hmo) | (rw [← hwant]; simp)
     simp only [go_sem]
     intro _ _
     refine brK_dec (fun hne => ?_) (fun heq => ?_)
     ·
      rw [mt_len (f := fun s => (decl n s).1.Ty) (l := q.Names) (m := want) (by omega)]
      simp only [go_sem]
      exact finBq rfl rfl
     have hlm: (q.Names.length: Int) = want.length := by omega
     simp only [go_sem]
     refine loop_frX [6,15,16,17,87,88,89,90,91,92,93,94,95,96,97,98,99,100,101,102,103,104,105,106,107,108,109,110,111,112,113] (fun m_ C => ∃ i: Nat,i ≤ want.length ∧ m_ = want.length - i ∧ (q.Names.take i).map (fun s => (decl n s).1.Ty) = want.take i ∧ C = [(15,.raw (.int .i64 (i: Nat)))]) want.length _ ⟨0,by omega,by omega,rfl,rfl⟩ (.cons rfl .nil) ?_
     rintro m_ C jb r2 ⟨i,hi,rfl,hp0,rfl⟩
     simp only [go_sem]
     intro _
     refine brK_dec (fun hlt => ?_) (fun hge => ?_)
     ·
      obtain ⟨x,hx⟩: ∃ x,q.Names[i]? = some x := ⟨_,List.getElem?_eq_getElem (by omega)⟩
      obtain ⟨y,hy⟩: ∃ y,want[i]? = some y := ⟨_,List.getElem?_eq_getElem (by omega)⟩
      have hd := decl26 n x (by have := ho.1; omega)
      have hst := fun e => mt_step (f := fun s => (decl n s).1.Ty) hp0 hx hy e
      have hno := fun e => mt_no (f := fun s => (decl n s).1.Ty) hx hy e
      try dsimp only at hst hno
      generalize decl n x = dq at hd hst hno
      obtain ⟨d,dok⟩ := dq
      try dsimp only at hst hno
      repeat' first
       | simp only [go_sem]
       | refine drawK mo (by kernel_rfl) ?_
       | refine elemHave (x := n) (by omega) hj ?_
       | refine elemHave (x := x) (by omega) (by simpa using hx) ?_
       | refine elemHave (x := y) (by omega) (by simpa using hy) ?_
       | (refine pcK_of hd ?_)
      refine brK_dec (fun he => ?_) (fun he => ?_)
      ·
       rw [hno he]
       simp only [go_sem]
       exact finBq rfl rfl
      ·
       simp only [go_sem]
       exact loopFrX _ (by omega) _ ⟨i + 1,by omega,rfl,hst (Classical.not_not.1 he),rfl⟩ (.next rfl (by omega) .nil) rfl (by first | rfl | (simp only [List.append_assoc,List.cons_append,List.nil_append]; rfl))
     ·
      rw [mt_yes hp0 hlm (by omega)]
      simp only [go_sem]
      exact finBq rfl rfl
 ·
  have hX := OfXj p j n hj ho q.E hp hok
  unfold OfXC at hX
  have hT := told_of (p := p) (n := n) h13
  generalize ofT p n q.E = o at hX hT
  cases o with
  | none =>
   have hX: PCall Tryz.prog 66 [p.enc,.i (j: Int),q.E.enc] (tyA (ty0,false)) := hX
   rw [eqTy_no (by rw [hT])]
   simp only [go_sem]
   refine brK_dec (fun hz => absurd hz h13) (fun _ => ?_)
   simp only [go_sem]
   refine PCall.call hX ?_
   simp only [go_sem]
   exact finBq rfl rfl
  | some t =>
   have hX: PCall Tryz.prog 66 [p.enc,.i (j: Int),q.E.enc] (tyA (t,true)) := hX
   rw [eqTy_yes hT]
   clear hT
   generalize hwant: [t] = want
   simp only [go_sem]
   refine brK_dec (fun hz => absurd hz h13) (fun _ => ?_)
   simp only [go_sem]
   refine PCall.call hX ?_
   simp only [go_sem]
   rw [show ([t.enc]: List AV) = want.map DTy.enc by rw [← hwant]; rfl]
   rw [show ((1: Nat): Int) = (want.length: Int) by rw [← hwant]; rfl]
   have hwl: want.length ≤ 1000 := by rw [← hwant]; simp
   intro _ _
   refine brK_dec (fun hne => ?_) (fun heq => ?_)
   ·
    rw [mt_len (f := fun s => (decl n s).1.Ty) (l := q.Names) (m := want) (by omega)]
    simp only [go_sem]
    exact finBq rfl rfl
   have hlm: (q.Names.length: Int) = want.length := by omega
   simp only [go_sem]
   refine loop_frX [6,15,16,17,87,88,89,90,91,92,93,94,95,96,97,98,99,100,101,102,103,104,105,106,107,108,109,110,111,112,113] (fun m_ C => ∃ i: Nat,i ≤ want.length ∧ m_ = want.length - i ∧ (q.Names.take i).map (fun s => (decl n s).1.Ty) = want.take i ∧ C = [(15,.raw (.int .i64 (i: Nat)))]) want.length _ ⟨0,by omega,by omega,rfl,rfl⟩ (.cons rfl .nil) ?_
   rintro m_ C jb r2 ⟨i,hi,rfl,hp0,rfl⟩
   simp only [go_sem]
   intro _
   refine brK_dec (fun hlt => ?_) (fun hge => ?_)
   ·
    obtain ⟨x,hx⟩: ∃ x,q.Names[i]? = some x := ⟨_,List.getElem?_eq_getElem (by omega)⟩
    obtain ⟨y,hy⟩: ∃ y,want[i]? = some y := ⟨_,List.getElem?_eq_getElem (by omega)⟩
    have hd := decl26 n x (by have := ho.1; omega)
    have hst := fun e => mt_step (f := fun s => (decl n s).1.Ty) hp0 hx hy e
    have hno := fun e => mt_no (f := fun s => (decl n s).1.Ty) hx hy e
    try dsimp only at hst hno
    generalize decl n x = dq at hd hst hno
    obtain ⟨d,dok⟩ := dq
    try dsimp only at hst hno
    repeat' first
     | simp only [go_sem]
     | refine drawK mo (by kernel_rfl) ?_
     | refine elemHave (x := n) (by omega) hj ?_
     | refine elemHave (x := x) (by omega) (by simpa using hx) ?_
     | refine elemHave (x := y) (by omega) (by simpa using hy) ?_
     | (refine pcK_of hd ?_)
    refine brK_dec (fun he => ?_) (fun he => ?_)
    ·
     rw [hno he]
     simp only [go_sem]
     exact finBq rfl rfl
    ·
     simp only [go_sem]
     exact loopFrX _ (by omega) _ ⟨i + 1,by omega,rfl,hst (Classical.not_not.1 he),rfl⟩ (.next rfl (by omega) .nil) rfl (by first | rfl | (simp only [List.append_assoc,List.cons_append,List.nil_append]; rfl))
   ·
    rw [mt_yes hp0 hlm (by omega)]
    simp only [go_sem]
    exact finBq rfl rfl
theorem clkTy_ne {p: DProg} {n: DNode} {d: DDecl} (h: clockedF p.Enums n d = true) (ho: ¬ d.On = ⟨#[]⟩) (hn: ¬ (decl n d.On).1.Ty = (armF p.Enums d.Ctor).1): clkTy p n d = false := by rw [clkTy_eq h ho,decide_eq_false hn]
theorem clkTy_y {p: DProg} {n: DNode} {d: DDecl} (h: clockedF p.Enums n d = true) (ho: ¬ d.On = ⟨#[]⟩) (hn: (decl n d.On).1.Ty = (armF p.Enums d.Ctor).1): clkTy p n d = true := by rw [clkTy_eq h ho,decide_eq_true hn]
theorem fault_z: (AV.agg [.raw (.int .i64 0),.raw (.int .i64 0),.raw (.int .i64 0)]) = (⟨0,0,0⟩: DFault).enc := by rw [DFault.enc_eq]
theorem typesX (p: DProg) (hp: okProg p): PCall Tryz.prog 116 [p.enc] (typesF p).enc := by
 refine pcall_of_vc tabOK Tryz.func116 (by kernel_rfl) rfl (by first | exact pureL | exact pureI) (by first | exact pureL | exact pureI) (n := 104) rfl (rs := [.cell 2 61]) rfl ?_
 have hp6 := hp.2.1
 unfold typesF
 simp only [go_sem]
 refine PCall.call (scopeX p hp) ?_
 have hz := scope_zero (p := p)
 generalize scopeF p = F at hz
 simp only [go_sem]
 rw [fault_z]
 simp only [go_sem]
 refine brK_dec (fun h0 => ?_) (fun h0 => ?_)
 ·
  have hF: ¬ F.Err = 0 := fun h => h0 (hz h).1
  rw [if_neg hF]
  simp only [go_sem]
  exact ⟨_,rfl,false,by rw [DFault.enc_eq]; exact .refl _⟩
 have h0: F = ⟨0,0,0⟩ := Classical.not_not.1 h0
 rw [if_pos (by rw [h0])]
 obtain ⟨_,hc0,hcl⟩ := hz (by rw [h0])
 generalize hE: firstF (nodeTy p) 0 p.Nodes = E
 simp only [go_sem]
 refine loop_frX [4,5,6,7,8,9,10,11,12,19,20,21,22,23,24,25,26,27,28,29,30,31,32,33,34,35,36,37,38,39,40,41,42,43,44,45,46,47,48,49,50,51,52,53,54,55,56,57,58,59,60,61,62,63,64,65,66,67,68,69,70,71,72,73,74,75,76,77,78,79,80,81,82,83,84,85,86,87,88,89,90,91,92,93,94,95,96,97,98,99,100,101,102] (fun m C => ∃ i: Nat,i ≤ p.Nodes.length ∧ m = p.Nodes.length - i ∧ firstF (nodeTy p) i (p.Nodes.drop i) = E ∧ C = [(4,.raw (.int .i64 (i: Nat)))]) p.Nodes.length _ ⟨0,by omega,by omega,hE,rfl⟩ (.cons rfl .nil) ?_
 rintro m C ja r ⟨j,hi,rfl,hE',rfl⟩
 simp only [go_sem]
 intro _
 refine brK_dec (fun hlt => ?_) (fun hge => ?_)
 ·
  obtain ⟨n,hj⟩: ∃ n,p.Nodes[j]? = some n := ⟨_,List.getElem?_eq_getElem (by omega)⟩
  have hnm := List.mem_of_getElem? hj
  have hn := hp.2.2 n hnm
  have ho := tyOK_of hp hc0 n hnm
  have hl := ho.1
  have hck := clocked_of (hcl j n hj)
  have he4 := hn.2.2.2.1
  simp only [go_sem]
  refine elemHave (x := n) (by omega) (by simpa using hj) ?_
  simp only [go_sem]
  refine PCall.call (all66 n (by omega)) ?_
  simp only [go_sem]
  refine loop_frX [6,7,8,9,10,11,32,33,34,35,36,37,38,39,40,41,42,43,44,45,46,47,48,49,50,51,52,53,54,55,56,57,58,59,60,61,62,63,64,65,66,67,68,69,70,71,72,73,74,75] (fun m C => ∃ i: Nat,i ≤ (allV n).length ∧ m = (allV n).length - i ∧ (∀ d ∈ (allV n).take i,clkTy p n d = true) ∧ C = [(6,.raw (.int .i64 (i: Nat)))]) (allV n).length _ ⟨0,by omega,by omega,by simp,rfl⟩ (.cons rfl .nil) ?_
  rintro m C jb r1 ⟨i,hi1,rfl,hp0,rfl⟩
  simp only [go_sem]
  intro _
  refine brK_dec (fun hlt1 => ?_) (fun hge1 => ?_)
  ·
   obtain ⟨d,hd⟩: ∃ d,(allV n)[i]? = some d := ⟨_,List.getElem?_eq_getElem (by omega)⟩
   have hdm := List.mem_of_getElem? hd
   simp only [go_sem]
   refine elemHave (x := d) (by omega) (by simpa using hd) ?_
   simp only [go_sem]
   refine brK_dec (fun hO => ?_) (fun hO => ?_)
   ·
    simp only [go_sem]
    exact loopFrX _ (by omega) _ ⟨i + 1,by omega,rfl,take_all hp0 hd (clkTy_no hO),rfl⟩ (.next rfl (by omega) .nil) rfl (by first | rfl | (simp only [List.append_assoc,List.cons_append,List.nil_append]; rfl))
   ·
    have hy := clkTy_y (hck d hdm) hO
    have hno := clkTy_ne (hck d hdm) hO
    have hd26 := decl26 n d.On (by omega)
    have ha := arm91 p.Enums d.Ctor
    generalize decl n d.On = q at hd26 hy hno
    generalize armF p.Enums d.Ctor = u at ha hy hno
    obtain ⟨d2,dok⟩ := q
    obtain ⟨t,v,is⟩ := u
    dsimp only at hy hno
    repeat' first
     | simp only [go_sem]
     | refine drawK mo (by kernel_rfl) ?_
     | refine elemHave (x := n) (by omega) hj ?_
     | refine elemHave (x := d) (by omega) (by simpa using hd) ?_
     | (refine pcK_of hd26 ?_)
     | (refine pcK_of ha ?_)
    refine brK_dec (fun he => ?_) (fun he => ?_)
    ·
     have hE1 := nodeTy_clk (p := p) (a := j) (n := n) hdm (hno he)
     have hE2 := first_at hE' hj (by rw [hE1]; simp)
     rw [hE2,hE1]
     simp only [go_sem]
     refine PCall.call (fault47 _ _ _) ?_
     simp only [go_sem]
     exact ⟨_,rfl,false,by rw [DFault.enc_eq]; exact .refl _⟩
    ·
     have hc := hy (Classical.not_not.1 he)
     simp only [go_sem]
     exact loopFrX _ (by omega) _ ⟨i + 1,by omega,rfl,take_all hp0 hd hc,rfl⟩ (.next rfl (by omega) .nil) rfl (by first | rfl | (simp only [List.append_assoc,List.cons_append,List.nil_append]; rfl))
  ·
   have hNE := nodeTy_eqs (p := p) (a := j) (n := n) (take_full hp0 (by omega))
   generalize hG: nodeTy p j n = G at hNE
   simp only [go_sem]
   refine loop_frX [12,76,77,78,79,80,81,82,83,84,85,86,87,88,89,90,91,92,93,94,95,96,97,98,99,100,101,102] (fun m C => ∃ i: Nat,i ≤ n.Eqs.length ∧ m = n.Eqs.length - i ∧ firstE (j: Int) 7 (fun _ q => eqTy p n q) i (n.Eqs.drop i) = G ∧ C = [(12,.raw (.int .i64 (i: Nat)))]) n.Eqs.length _ ⟨0,by omega,by omega,hNE.symm,rfl⟩ (.cons rfl .nil) ?_
   rintro m C jc r2 ⟨i2,hi2,rfl,hG',rfl⟩
   simp only [go_sem]
   refine elemHave (x := n) (by omega) (by simpa using hj) ?_
   simp only [go_sem]
   intro _
   refine brK_dec (fun hlt2 => ?_) (fun hge2 => ?_)
   ·
    obtain ⟨q,hq⟩: ∃ q,n.Eqs[i2]? = some q := ⟨_,List.getElem?_eq_getElem (by omega)⟩
    have hqm := List.mem_of_getElem? hq
    have hqo := hn.2.2.2.2.2 q hqm
    have hx := eqTX p (outs_le hp) j n hj ho q (right_parts (eqs_right hc0 hnm hqm).2) hqo.2.1 (by have := hqo.1; omega)
    generalize hb: eqTy p n q = b at hx
    simp only [go_sem]
    refine drawK mo (by kernel_rfl) ?_
    simp only [go_sem]
    refine elemHave (x := n) (by omega) hj ?_
    simp only [go_sem]
    refine elemHave (x := q) (by omega) (by simpa using hq) ?_
    simp only [go_sem]
    refine pcK_of hx ?_
    cases b
    ·
     have hE1 := firstE_at hG' hq hb
     have hE2 := first_at hE' hj (by rw [hG,hE1]; simp)
     rw [hE2,hG,hE1]
     simp only [go_sem]
     refine PCall.call (fault47 _ _ _) ?_
     simp only [go_sem]
     exact ⟨_,rfl,false,by rw [DFault.enc_eq]; exact .refl _⟩
    ·
     have hE1 := firstE_next hG' hq hb
     simp only [go_sem]
     exact loopFrX _ (by omega) _ ⟨i2 + 1,by omega,rfl,hE1,rfl⟩ (.next rfl (by omega) .nil) rfl (by first | rfl | (simp only [List.append_assoc,List.cons_append,List.nil_append]; rfl))
   ·
    have h1 := firstE_0 hG' (by omega)
    have hE1 := first_next hE' hj (by rw [hG,h1])
    simp only [go_sem]
    exact loopFrX _ (by omega) _ ⟨j + 1,by omega,rfl,hE1,rfl⟩ (.next rfl (by omega) .nil) rfl (by first | rfl | (simp only [List.append_assoc,List.cons_append,List.nil_append]; rfl))
 ·
  have h1 := first_0 hE' (by omega)
  subst h1
  simp only [go_sem]
  exact ⟨_,rfl,false,by rw [DFault.enc_eq]; exact .refl _⟩
theorem eqCkX (p: DProg) (k: Nat) (n: DNode) (hn: p.Nodes[k]? = some n) (hl: (allV n).length ≤ 4294967296) (q: DEq) (h0: 0 < q.Names.length) (hnl: q.Names.length ≤ 1000) (hb: (parts q.E).length ≤ 200): PCall Tryz.prog 118 [p.enc,.i (k: Int),q.enc] (.b (eqCk p.Enums n q)) := by
 refine pcall_of_vc tabOK Tryz.func118 (by kernel_rfl) rfl (pure_cons (DProg.pure _) (pure_cons (.raw _) (pure_cons (DEq.pure _) pure_nil))) (.raw _) (n := 50) rfl (rs := [.tmp 6]) rfl ?_
 obtain ⟨s0,hs0⟩: ∃ s,q.Names[0]? = some s := ⟨_,List.getElem?_eq_getElem (by omega)⟩
 unfold eqCk
 rw [headD_at0 hs0]
 have hR := row46v p k n hn s0 hl
 have hlen := rowN_len p.Enums n s0
 generalize rowN p.Enums n s0 = R at hR hlen
 obtain ⟨row,ok⟩ := R
 dsimp only at hlen
 dsimp only
 simp only [go_sem]
 refine drawK mo (by kernel_rfl) ?_
 simp only [go_sem]
 refine elemHave (x := s0) (by omega) (by simpa using hs0) ?_
 simp only [go_sem]
 refine pcK_of hR ?_
 simp only [go_sem]
 refine loop_frX [6,9,10,11,22,23,24,25,26,27,28,29,30,31,32,33,34,35,36,37,38,39,40,41,42,43] (fun m C => ∃ i: Nat,i ≤ q.Names.length ∧ m = q.Names.length - i ∧ (∀ s ∈ q.Names.take i,eqB (rowN p.Enums n s).1 row = true) ∧ C = [(9,.raw (.int .i64 (i: Nat)))]) q.Names.length _ ⟨0,by omega,by omega,by simp,rfl⟩ (.cons rfl .nil) ?_
 rintro m C ja r ⟨i,hi,rfl,hp0,rfl⟩
 simp only [go_sem]
 intro _
 refine brK_dec (fun hlt => ?_) (fun hge => ?_)
 ·
  obtain ⟨x,hx⟩: ∃ x,q.Names[i]? = some x := ⟨_,List.getElem?_eq_getElem (by omega)⟩
  have hRx := row46v p k n hn x hl
  have hst := take_all hp0 hx
  have hno: eqB (rowN p.Enums n x).1 row = false → (q.Names.all fun s => eqB (rowN p.Enums n s).1 row) = false := fun h => List.all_eq_false.2 ⟨x,List.mem_of_getElem? hx,by rw [h]; simp⟩
  generalize rowN p.Enums n x = Rx at hRx hst hno
  obtain ⟨rx,okx⟩ := Rx
  dsimp only at hst hno
  simp only [go_sem]
  refine drawK mo (by kernel_rfl) ?_
  simp only [go_sem]
  refine elemHave (x := x) (by omega) (by simpa using hx) ?_
  simp only [go_sem]
  refine pcK_of hRx ?_
  simp only [go_sem]
  refine PCall.call (sameCs rx row) ?_
  generalize eqB rx row = b at hst hno
  cases b
  ·
   rw [hno rfl]
   simp only [go_sem]
   exact finBq rfl rfl
  ·
   simp only [go_sem]
   exact loopFrX _ (by omega) _ ⟨i + 1,by omega,rfl,hst rfl,rfl⟩ (.next rfl (by omega) .nil) rfl (by first | rfl | (simp only [List.append_assoc,List.cons_append,List.nil_append]; rfl))
 ·
  rw [List.all_eq_true.2 (take_full hp0 (by omega))]
  simp only [go_sem]
  refine PCall.call (fits49 p k n hn hl q.E row (by omega)) ?_
  simp only [go_sem]
  exact finBq rfl (by simp)
theorem clockX (p: DProg) (hp: okProg p): PCall Tryz.prog 80 [p.enc] (clockF p).enc := by
 refine pcall_of_vc tabOK Tryz.func80 (by kernel_rfl) rfl (by first | exact pureL | exact pureI) (by first | exact pureL | exact pureI) (n := 78) rfl (rs := [.cell 2 61]) rfl ?_
 have hp6 := hp.2.1
 unfold clockF
 simp only [go_sem]
 refine PCall.call (typesX p hp) ?_
 have hz := types_zero (p := p)
 have hg := fun h => @names_good p h
 generalize typesF p = F at hz hg
 simp only [go_sem]
 rw [fault_z]
 simp only [go_sem]
 refine brK_dec (fun h0 => ?_) (fun h0 => ?_)
 ·
  have hF: ¬ F.Err = 0 := fun h => h0 (hz h).1
  rw [if_neg hF]
  simp only [go_sem]
  exact ⟨_,rfl,false,by rw [DFault.enc_eq]; exact .refl _⟩
 have h0: F = ⟨0,0,0⟩ := Classical.not_not.1 h0
 have h0': F.Err = 0 := by rw [h0]
 rw [if_pos h0']
 obtain ⟨_,_,hc0,_⟩ := hz h0'
 generalize hE: firstF (nodeCk p) 0 p.Nodes = E
 simp only [go_sem]
 refine loop_frX [4,5,6,7,8,9,16,17,18,19,20,21,22,23,24,25,26,27,28,29,30,31,32,33,34,35,36,37,38,39,40,41,42,43,44,45,46,47,48,49,50,51,52,53,54,55,56,57,58,59,60,61,62,63,64,65,66,67,68,69,70,71,72,73,74,75,76] (fun m C => ∃ i: Nat,i ≤ p.Nodes.length ∧ m = p.Nodes.length - i ∧ firstF (nodeCk p) i (p.Nodes.drop i) = E ∧ C = [(4,.raw (.int .i64 (i: Nat)))]) p.Nodes.length _ ⟨0,by omega,by omega,hE,rfl⟩ (.cons rfl .nil) ?_
 rintro m C ja r ⟨j,hi,rfl,hE',rfl⟩
 simp only [go_sem]
 intro _
 refine brK_dec (fun hlt => ?_) (fun hge => ?_)
 ·
  obtain ⟨n,hj⟩: ∃ n,p.Nodes[j]? = some n := ⟨_,List.getElem?_eq_getElem (by omega)⟩
  have hnm := List.mem_of_getElem? hj
  have hn := hp.2.2 n hnm
  have hl := (tyOK_of hp hc0 n hnm).1
  have he4 := hn.2.2.2.1
  simp only [go_sem]
  refine elemHave (x := n) (by omega) (by simpa using hj) ?_
  simp only [go_sem]
  refine PCall.call (all66 n (by omega)) ?_
  simp only [go_sem]
  refine loop_frX [6,7,8,29,30,31,32,33,34,35,36,37,38,39,40,41,42,43,44,45,46,47,48,49] (fun m C => ∃ i: Nat,i ≤ (allV n).length ∧ m = (allV n).length - i ∧ (∀ d ∈ (allV n).take i,(rowN p.Enums n d.Name).2 = true) ∧ C = [(6,.raw (.int .i64 (i: Nat)))]) (allV n).length _ ⟨0,by omega,by omega,by simp,rfl⟩ (.cons rfl .nil) ?_
  rintro m C jb r1 ⟨i,hi1,rfl,hp0,rfl⟩
  simp only [go_sem]
  intro _
  refine brK_dec (fun hlt1 => ?_) (fun hge1 => ?_)
  ·
   obtain ⟨d,hd⟩: ∃ d,(allV n)[i]? = some d := ⟨_,List.getElem?_eq_getElem (by omega)⟩
   have hdm := List.mem_of_getElem? hd
   have hRx := row46v p j n hj d.Name (by omega)
   have hst := take_all hp0 hd
   have hno := nodeCk_row (p := p) (a := j) (n := n) hdm
   generalize hq: rowN p.Enums n d.Name = Rx at hRx hst hno
   obtain ⟨rx,okx⟩ := Rx
   dsimp only at hno
   simp only [go_sem]
   refine drawK mo (by kernel_rfl) ?_
   simp only [go_sem]
   refine elemHave (x := d) (by omega) (by simpa using hd) ?_
   simp only [go_sem]
   refine pcK_of hRx ?_
   cases okx
   ·
    have hE2 := first_at hE' hj (by rw [hno rfl]; simp)
    rw [hE2,hno rfl]
    simp only [go_sem]
    refine PCall.call (fault47 _ _ _) ?_
    simp only [go_sem]
    exact ⟨_,rfl,false,by rw [DFault.enc_eq]; exact .refl _⟩
   ·
    simp only [go_sem]
    exact loopFrX _ (by omega) _ ⟨i + 1,by omega,rfl,hst rfl,rfl⟩ (.next rfl (by omega) .nil) rfl (by first | rfl | (simp only [List.append_assoc,List.cons_append,List.nil_append]; rfl))
  ·
   have hNE := nodeCk_eqs (p := p) (a := j) (n := n) (rowsOk_of (take_full hp0 (by omega)))
   generalize hG: nodeCk p j n = G at hNE
   simp only [go_sem]
   refine loop_frX [9,50,51,52,53,54,55,56,57,58,59,60,61,62,63,64,65,66,67,68,69,70,71,72,73,74,75,76] (fun m C => ∃ i: Nat,i ≤ n.Eqs.length ∧ m = n.Eqs.length - i ∧ firstE (j: Int) 8 (fun _ q => eqCk p.Enums n q) i (n.Eqs.drop i) = G ∧ C = [(9,.raw (.int .i64 (i: Nat)))]) n.Eqs.length _ ⟨0,by omega,by omega,hNE.symm,rfl⟩ (.cons rfl .nil) ?_
   rintro m C jc r2 ⟨i2,hi2,rfl,hG',rfl⟩
   simp only [go_sem]
   refine elemHave (x := n) (by omega) (by simpa using hj) ?_
   simp only [go_sem]
   intro _
   refine brK_dec (fun hlt2 => ?_) (fun hge2 => ?_)
   ·
    obtain ⟨q,hq⟩: ∃ q,n.Eqs[i2]? = some q := ⟨_,List.getElem?_eq_getElem (by omega)⟩
    have hqm := List.mem_of_getElem? hq
    have hqo := hn.2.2.2.2.2 q hqm
    have hx := eqCkX p j n hj (by omega) q (hg h0' hj q hqm).1 (by have := hqo.1; omega) hqo.2.1.1
    generalize hb: eqCk p.Enums n q = b at hx
    simp only [go_sem]
    refine drawK mo (by kernel_rfl) ?_
    simp only [go_sem]
    refine elemHave (x := n) (by omega) hj ?_
    simp only [go_sem]
    refine elemHave (x := q) (by omega) (by simpa using hq) ?_
    simp only [go_sem]
    refine pcK_of hx ?_
    cases b
    ·
     have hE1 := firstE_at hG' hq hb
     have hE2 := first_at hE' hj (by rw [hG,hE1]; simp)
     rw [hE2,hG,hE1]
     simp only [go_sem]
     refine PCall.call (fault47 _ _ _) ?_
     simp only [go_sem]
     exact ⟨_,rfl,false,by rw [DFault.enc_eq]; exact .refl _⟩
    ·
     have hE1 := firstE_next hG' hq hb
     simp only [go_sem]
     exact loopFrX _ (by omega) _ ⟨i2 + 1,by omega,rfl,hE1,rfl⟩ (.next rfl (by omega) .nil) rfl (by first | rfl | (simp only [List.append_assoc,List.cons_append,List.nil_append]; rfl))
   ·
    have h1 := firstE_0 hG' (by omega)
    have hE1 := first_next hE' hj (by rw [hG,h1])
    simp only [go_sem]
    exact loopFrX _ (by omega) _ ⟨j + 1,by omega,rfl,hE1,rfl⟩ (.next rfl (by omega) .nil) rfl (by first | rfl | (simp only [List.append_assoc,List.cons_append,List.nil_append]; rfl))
 ·
  have h1 := first_0 hE' (by omega)
  subst h1
  simp only [go_sem]
  exact ⟨_,rfl,false,by rw [DFault.enc_eq]; exact .refl _⟩
theorem pure_ns (l: List Nat): Go.Abs.Pure (.lst 1 (l.map AV.n) none) := by rw [mapN]; exact pure_ints _
theorem indexN (l: List Nat) (k: Nat): PCall Tryz.prog 125 [.lst 1 (l.map AV.n) none,.i (k: Int)] (.i (idxOf (fun x => decide (x = k)) l)) := by
 refine pcall_of_vc tabOK Tryz.func125 (by kernel_rfl) rfl (pure_cons (pure_ns l) (pure_cons (.raw _) pure_nil)) (.raw _) (n := 19) rfl (rs := [.tmp 4]) rfl ?_
 simp only [go_sem]
 intro _
 refine loop_frH [4,5,8,9,10,11,12,13,14,15,16,17,18] (fun m C => ∃ i: Nat,i ≤ l.length ∧ m = l.length - i ∧ (∀ x ∈ l.take i,decide (x = k) = false) ∧ C = [(8,.raw (.int .i64 (i: Nat)))]) l.length _ ⟨0,by omega,by omega,by simp,rfl⟩ (.cons rfl .nil) ?_
 rintro m C ja ⟨i,hi,rfl,hp0,rfl⟩
 simp only [go_sem]
 refine brK_dec (fun hlt => ?_) (fun hge => ?_)
 ·
  obtain ⟨x,hx⟩: ∃ x,l[i]? = some x := ⟨_,List.getElem?_eq_getElem (by omega)⟩
  simp only [go_sem]
  refine elemHave (x := x) (by omega) (by simpa using hx) ?_
  simp only [go_sem]
  refine brK_dec (fun he => ?_) (fun he => ?_)
  ·
   rw [idxOf_at hp0 (by simpa using hx) (decide_eq_true (by omega))]
   simp only [go_sem]
   exact finIq rfl rfl
  ·
   simp only [go_sem]
   exact loopFrH _ (by omega) ⟨i + 1,by omega,rfl,take_all hp0 hx (decide_eq_false (by omega)),rfl⟩ (.next rfl (by omega) .nil) rfl
 ·
  rw [idxOf_none (take_full hp0 (by omega))]
  simp only [go_sem]
  exact finIq rfl rfl
theorem any_mem (l: List Nat) (k: Nat): (l.any fun x => decide (x = k)) = decide (k ∈ l) := by
 rw [Bool.eq_iff_iff,List.any_eq_true]
 simp
theorem containsN (l: List Nat) (k: Nat): PCall Tryz.prog 86 [.lst 1 (l.map AV.n) none,.i (k: Int)] (.b (decide (k ∈ l))) := by
 refine pcall_of_vc tabOK Tryz.func86 (by kernel_rfl) rfl (pure_cons (pure_ns l) (pure_cons (.raw _) pure_nil)) (.raw _) (n := 9) rfl (rs := [.tmp 4]) rfl ?_
 rw [← any_mem,← idx_any]
 simp only [go_sem]
 refine PCall.call (indexN l k) ?_
 simp only [go_sem]
 exact finBq rfl rfl
theorem nodeCa_ok {a: Nat} {n: DNode} {lo: List Nat} (h: orderF (namesC n) (hangsC n) = (lo,true)): nodeCa a n = ⟨0,0,0⟩ := by unfold nodeCa; rw [h,if_pos rfl]
theorem nodeCa_no {a: Nat} {n: DNode} {lo: List Nat} (h: orderF (namesC n) (hangsC n) = (lo,false)): nodeCa a n = firstE (a: Int) 9 (fun k _ => decide (k ∈ lo)) 0 n.Eqs := by unfold nodeCa; rw [h,if_neg (by simp)]
theorem causeCheck (p: DProg) (hp: okProg p): PCall Tryz.prog 56 [p.enc] (causeF p).enc := by
 refine pcall_of_vc tabOK Tryz.func56 (by kernel_rfl) rfl (by first | exact pureL | exact pureI) (by first | exact pureL | exact pureI) (n := 48) rfl (rs := [.cell 2 61]) rfl ?_
 have hp6 := hp.2.1
 unfold causeF
 simp only [go_sem]
 refine PCall.call (clockCheck p hp) ?_
 generalize clockF p = F
 rw [show F.enc = .agg [.i F.Node,.i F.Eq,.i F.Err] from DFault.enc_eq _]
 simp only [go_sem]
 refine brK_dec (fun h0 => ?_) (fun h0 => ?_)
 ·
  rw [if_neg h0]
  simp only [go_sem]
  exact ⟨_,rfl,false,by rw [DFault.enc_eq]; exact .refl _⟩
 rw [if_pos (Classical.not_not.1 h0)]
 generalize hE: firstF nodeCa 0 p.Nodes = E
 simp only [go_sem]
 intro _
 refine loop_frX [4,5,6,7,8,18,19,20,21,22,23,24,25,26,27,28,29,30,31,32,33,34,35,36,37,38,39,40,41,42,43,44,45,46] (fun m C => ∃ i: Nat,i ≤ p.Nodes.length ∧ m = p.Nodes.length - i ∧ firstF nodeCa i (p.Nodes.drop i) = E ∧ C = [(18,.raw (.int .i64 (i: Nat)))]) p.Nodes.length _ ⟨0,by omega,by omega,hE,rfl⟩ (.cons rfl .nil) ?_
 rintro m C ja r ⟨j,hi,rfl,hE',rfl⟩
 simp only [go_sem]
 refine brK_dec (fun hlt => ?_) (fun hge => ?_)
 ·
  obtain ⟨n,hj⟩: ∃ n,p.Nodes[j]? = some n := ⟨_,List.getElem?_eq_getElem (by omega)⟩
  have hnm := List.mem_of_getElem? hj
  have hn := hp.2.2 n hnm
  have he4 := hn.2.2.2.1
  have hO := order39 n (okNode_C hn)
  have hok := fun lo => @nodeCa_ok j n lo
  have hno := fun lo => @nodeCa_no j n lo
  generalize orderF (namesC n) (hangsC n) = R at hO hok hno
  obtain ⟨lo,ok⟩ := R
  simp only [go_sem]
  refine elemHave (x := n) (by omega) (by simpa using hj) ?_
  simp only [go_sem]
  refine PCall.call hO ?_
  simp only [go_sem]
  cases ok
  ·
   replace hno := hno lo rfl
   generalize hG: nodeCa j n = G at hno
   refine loop_frX [8,28,29,30,31,32,33,34,35,36,37,38,39,40,41,42,43,44,45] (fun m C => ∃ i: Nat,i ≤ n.Eqs.length ∧ m = n.Eqs.length - i ∧ firstE (j: Int) 9 (fun k _ => decide (k ∈ lo)) i (n.Eqs.drop i) = G ∧ C = [(8,.raw (.int .i64 (i: Nat)))]) n.Eqs.length _ ⟨0,by omega,by omega,hno.symm,rfl⟩ (.cons rfl .nil) ?_
   rintro m C jb r1 ⟨i,hi1,rfl,hG',rfl⟩
   simp only [go_sem]
   intro _
   have hdone: ¬ (i: Int) < n.Eqs.length → G = ⟨0,0,0⟩ := fun h => firstE_0 hG' (by omega)
   have hnext: G = ⟨0,0,0⟩ → firstF nodeCa (j + 1) (p.Nodes.drop (j + 1)) = E := fun h => first_next hE' hj (by rw [hG,h])
   repeat' first
    | (exfalso; omega)
    | simp only [go_sem]
    | refine gqK_dec (fun _ => ?_) (fun _ => ?_)
    | refine gK_dec (fun _ => ?_) (fun _ => ?_)
    | refine brK_dec (fun _ => ?_) (fun _ => ?_)
    | (have hz: ¬ (i: Int) < n.Eqs.length := (by assumption); exact loopFrX _ (by omega) _ ⟨j + 1,by omega,rfl,hnext (hdone hz),rfl⟩ (.next rfl (by omega) .nil) rfl (by first | rfl | (simp only [List.append_assoc,List.cons_append,List.nil_append]; rfl)))
    | ((fail_if_success (clear hq)); obtain ⟨q,hq⟩: ∃ q,n.Eqs[i]? = some q := ⟨_,List.getElem?_eq_getElem (by omega)⟩; refine PCall.call (containsN lo i) ?_; generalize hb: decide (i ∈ lo) = b; cases b)
    | (have hE1 := firstE_next hG' hq hb; exact loopFrX _ (by omega) _ ⟨i + 1,by omega,rfl,hE1,rfl⟩ (.next rfl (by omega) .nil) rfl (by first | rfl | (simp only [List.append_assoc,List.cons_append,List.nil_append]; rfl)))
    | (have hE1 := firstE_at hG' hq hb; have hE2 := first_at hE' hj (by rw [hG,hE1]; simp); rw [hE2,hG,hE1]; exact ⟨_,rfl,false,by rw [DFault.enc_eq]; exact .refl _⟩)
  ·
   have hz := hok lo rfl
   refine loop_frX [8,28,29,30,31,32,33,34,35,36,37,38,39,40,41,42,43,44,45] (fun m C => m = 0 ∧ C = [(8,.raw (.int .i64 (0: Int)))]) 0 _ ⟨rfl,rfl⟩ (.cons rfl .nil) ?_
   rintro m C jb r1 ⟨rfl,rfl⟩
   simp only [go_sem]
   intro _
   have hE1 := first_next hE' hj (by rw [hz])
   repeat' first
    | simp only [go_sem]
    | refine gqK_dec (fun _ => ?_) (fun _ => ?_)
    | refine gK_dec (fun _ => ?_) (fun _ => ?_)
    | refine brK_dec (fun _ => ?_) (fun _ => ?_)
    | exact loopFrX _ (by omega) _ ⟨j + 1,by omega,rfl,hE1,rfl⟩ (.next rfl (by omega) .nil) rfl (by first | rfl | (simp only [List.append_assoc,List.cons_append,List.nil_append]; rfl))
 ·
  have h1 := first_0 hE' (by omega)
  subst h1
  simp only [go_sem]
  exact ⟨_,rfl,false,by rw [DFault.enc_eq]; exact .refl _⟩
theorem any_takeN {l: List Nat} {k i: Nat} {x: Nat} (hx: l[i]? = some x): decide (k ∈ l.take (i + 1)) = (decide (k ∈ l.take i) || decide (x = k)) := by
 obtain ⟨hi,rfl⟩ := List.getElem?_eq_some_iff.1 hx
 rw [List.take_succ_eq_append_getElem hi]
 rw [Bool.eq_iff_iff]
 simp only [decide_eq_true_eq,List.mem_append,List.mem_singleton,Bool.or_eq_true]
 constructor
 ·
  rintro (h | h)
  ·
   exact .inl h
  ·
   exact .inr h.symm
 ·
  rintro (h | h)
  ·
   exact .inl h
  ·
   exact .inr h.symm
theorem causeX (p: DProg) (hp: okProg p): PCall Tryz.prog 51 [p.enc] (causeF p).enc := by
 refine pcall_of_vc tabOK Tryz.func51 (by kernel_rfl) rfl (by first | exact pureL | exact pureI) (by first | exact pureL | exact pureI) (n := 65) rfl (rs := [.cell 2 61]) rfl ?_
 have hp6 := hp.2.1
 unfold causeF
 simp only [go_sem]
 refine PCall.call (clockX p hp) ?_
 have hz := clock_zero (p := p)
 generalize clockF p = F at hz
 simp only [go_sem]
 rw [fault_z]
 simp only [go_sem]
 refine brK_dec (fun h0 => ?_) (fun h0 => ?_)
 ·
  have hF: ¬ F.Err = 0 := fun h => h0 (hz h).1
  rw [if_neg hF]
  simp only [go_sem]
  exact ⟨_,rfl,false,by rw [DFault.enc_eq]; exact .refl _⟩
 rw [if_pos (by rw [Classical.not_not.1 h0])]
 generalize hE: firstF nodeCa 0 p.Nodes = E
 simp only [go_sem]
 refine loop_frX [4,5,6,7,8,9,16,17,18,19,20,21,22,23,24,25,26,27,28,29,30,31,32,33,34,35,36,37,38,39,40,41,42,43,44,45,46,47,48,49,50,51,52,53,54,55,56,57,58,59,60,61,62,63] (fun m C => ∃ i: Nat,i ≤ p.Nodes.length ∧ m = p.Nodes.length - i ∧ firstF nodeCa i (p.Nodes.drop i) = E ∧ C = [(4,.raw (.int .i64 (i: Nat)))]) p.Nodes.length _ ⟨0,by omega,by omega,hE,rfl⟩ (.cons rfl .nil) ?_
 rintro m C ja r ⟨j,hi,rfl,hE',rfl⟩
 simp only [go_sem]
 intro _
 refine brK_dec (fun hlt => ?_) (fun hge => ?_)
 ·
  obtain ⟨n,hj⟩: ∃ n,p.Nodes[j]? = some n := ⟨_,List.getElem?_eq_getElem (by omega)⟩
  have hnm := List.mem_of_getElem? hj
  have hn := hp.2.2 n hnm
  have he4 := hn.2.2.2.1
  have hO := order40 n (okNode_C hn)
  have hok := fun lo => @nodeCa_ok j n lo
  have hno := fun lo => @nodeCa_no j n lo
  generalize orderF (namesC n) (hangsC n) = R at hO hok hno
  obtain ⟨lo,ok⟩ := R
  simp only [go_sem]
  refine elemHave (x := n) (by omega) (by simpa using hj) ?_
  simp only [go_sem]
  refine PCall.call hO ?_
  cases ok
  ·
   replace hno := hno lo rfl
   generalize hG: nodeCa j n = G at hno
   simp only [go_sem]
   refine loop_frX [7,8,9,33,34,35,36,37,38,39,40,41,42,43,44,45,46,47,48,49,50,51,52,53,54,55,56,57,58,59,60,61,62,63] (fun m C => ∃ i: Nat,i ≤ n.Eqs.length ∧ m = n.Eqs.length - i ∧ firstE (j: Int) 9 (fun k _ => decide (k ∈ lo)) i (n.Eqs.drop i) = G ∧ C = [(7,.raw (.int .i64 (i: Nat)))]) n.Eqs.length _ ⟨0,by omega,by omega,hno.symm,rfl⟩ (.cons rfl .nil) ?_
   rintro m C jb r1 ⟨i,hi1,rfl,hG',rfl⟩
   simp only [go_sem]
   refine elemHave (x := n) (by omega) (by simpa using hj) ?_
   simp only [go_sem]
   intro _
   refine brK_dec (fun hlt1 => ?_) (fun hge1 => ?_)
   ·
    obtain ⟨q,hq⟩: ∃ q,n.Eqs[i]? = some q := ⟨_,List.getElem?_eq_getElem (by omega)⟩
    simp only [go_sem]
    refine loop_frX [8,9,44,45,46,47,48,49,50,51,52,53,54,55,56,57,58] (fun m C => ∃ i3: Nat,i3 ≤ lo.length ∧ m = lo.length - i3 ∧ C = [(9,.raw (.int .i64 (i3: Nat))),(8,.b (decide (i ∈ lo.take i3)))]) lo.length _ ⟨0,by omega,by omega,rfl⟩ (.cons rfl (.cons rfl .nil)) ?_
    rintro m C jc r2 ⟨i3,hi3,rfl,rfl⟩
    simp only [go_sem]
    intro _
    refine brK_dec (fun hlt3 => ?_) (fun hge3 => ?_)
    ·
     obtain ⟨x,hx⟩: ∃ x,lo[i3]? = some x := ⟨_,List.getElem?_eq_getElem (by omega)⟩
     have ht := any_takeN (k := i) hx
     generalize hb: decide (i ∈ lo.take i3) = b at ht
     cases b
     ·
      have hc: decide ((x: Int) = (i: Int)) = decide (i ∈ lo.take (i3 + 1)) := by rw [ht,Bool.false_or]; exact decide_eq_decide.2 (by omega)
      simp only [go_sem]
      refine elemHave (x := x) (by omega) (by simpa using hx) ?_
      simp only [go_sem]
      exact loopFrX _ (by omega) _ ⟨i3 + 1,by omega,rfl,rfl⟩ (.next rfl (by omega) (.cons (by first | rfl | (rw [← hc]; rfl) | (simp [hc]; done) | (rw [← hc]; simp)) .nil)) rfl (by first | rfl | (simp only [List.append_assoc,List.cons_append,List.nil_append]; rfl))
     ·
      simp only [go_sem]
      exact loopFrX _ (by omega) _ ⟨i3 + 1,by omega,rfl,rfl⟩ (.next rfl (by omega) (.cons (by rw [ht]; rfl) .nil)) rfl (by first | rfl | (simp only [List.append_assoc,List.cons_append,List.nil_append]; rfl))
    ·
     rw [List.take_of_length_le (by omega)]
     generalize hb: decide (i ∈ lo) = b
     cases b
     ·
      have hE1 := firstE_at hG' hq hb
      have hE2 := first_at hE' hj (by rw [hG,hE1]; simp)
      rw [hE2,hG,hE1]
      simp only [go_sem]
      refine PCall.call (fault47 _ _ _) ?_
      simp only [go_sem]
      exact ⟨_,rfl,false,by rw [DFault.enc_eq]; exact .refl _⟩
     ·
      have hE1 := firstE_next hG' hq hb
      simp only [go_sem]
      exact loopFrX _ (by omega) _ ⟨i + 1,by omega,rfl,hE1,rfl⟩ (.next rfl (by omega) .nil) rfl (by first | rfl | (simp only [List.append_assoc,List.cons_append,List.nil_append]; rfl))
   ·
    have h1 := firstE_0 hG' (by omega)
    have hE1 := first_next hE' hj (by rw [hG,h1])
    simp only [go_sem]
    exact loopFrX _ (by omega) _ ⟨j + 1,by omega,rfl,hE1,rfl⟩ (.next rfl (by omega) .nil) rfl (by first | rfl | (simp only [List.append_assoc,List.cons_append,List.nil_append]; rfl))
  ·
   have hz := hok lo rfl
   have hE1 := first_next hE' hj (by rw [hz])
   simp only [go_sem]
   exact loopFrX _ (by omega) _ ⟨j + 1,by omega,rfl,hE1,rfl⟩ (.next rfl (by omega) .nil) rfl (by first | rfl | (simp only [List.append_assoc,List.cons_append,List.nil_append]; rfl))
 ·
  have h1 := first_0 hE' (by omega)
  subst h1
  simp only [go_sem]
  exact ⟨_,rfl,false,by rw [DFault.enc_eq]; exact .refl _⟩
end Go.Proofs.YtpamokpmlplopaaGreatDoor
namespace Go.Proofs.YtpamokpmlplopaaGreatDoor
open Go.Abs
set_option maxRecDepth 20000
set_option linter.unusedSimpArgs false
set_option linter.unusedVariables false
set_option maxHeartbeats 1000000
attribute [local irreducible] vc vcOps vcStep vcGuard prK hrK gK gsK brK callK ElemK SeqK BlockK ScopeK OpsK CallK LoopK LoopGo finPost ACall PCall PCallE BCall vqOps vqStep vqGuard qrK heK pcK gqK gqsK QOpsK qcallK DrawK
theorem startCheck (p: DProg) (hp: okProg p): PCall Tryz.prog 31 [p.enc] (startF p).enc := by
 refine pcall_of_vc tabOK Tryz.func31 (by kernel_rfl) rfl (by first | exact pureL | exact pureI) (by first | exact pureL | exact pureI) (n := 49) rfl (rs := [.cell 2 61]) rfl ?_
 have hp6 := hp.2.1
 unfold startF
 simp only [go_sem]
 refine PCall.call (causeCheck p hp) ?_
 generalize causeF p = F
 rw [show F.enc = .agg [.i F.Node,.i F.Eq,.i F.Err] from DFault.enc_eq _]
 simp only [go_sem]
 refine brK_dec (fun h0 => ?_) (fun h0 => ?_)
 ·
  rw [if_neg h0]
  simp only [go_sem]
  exact ⟨_,rfl,false,by rw [DFault.enc_eq]; exact .refl _⟩
 rw [if_pos (Classical.not_not.1 h0)]
 generalize hE: firstF nodeSt 0 p.Nodes = E
 simp only [go_sem]
 intro _
 refine loop_frX [4,5,6,7,8,9,19,20,21,22,23,24,25,26,27,28,29,30,31,32,33,34,35,36,37,38,39,40,41,42,43,44,45,46,47] (fun m C => ∃ i: Nat,i ≤ p.Nodes.length ∧ m = p.Nodes.length - i ∧ firstF nodeSt i (p.Nodes.drop i) = E ∧ C = [(19,.raw (.int .i64 (i: Nat)))]) p.Nodes.length _ ⟨0,by omega,by omega,hE,rfl⟩ (.cons rfl .nil) ?_
 rintro m C ja r ⟨j,hi,rfl,hE',rfl⟩
 simp only [go_sem]
 refine brK_dec (fun hlt => ?_) (fun hge => ?_)
 ·
  obtain ⟨n,hj⟩: ∃ n,p.Nodes[j]? = some n := ⟨_,List.getElem?_eq_getElem (by omega)⟩
  have hn := hp.2.2 n (List.mem_of_getElem? hj)
  have he4 := hn.2.2.2.1
  have hNE: nodeSt j n = firstE (j: Int) 10 (fun _ q => eqSt q) 0 n.Eqs := rfl
  generalize hG: nodeSt j n = G at hNE
  simp only [go_sem]
  refine elemHave (x := n) (by omega) (by simpa using hj) ?_
  simp only [go_sem]
  intro _
  refine loop_frX [6,7,8,9,27,28,29,30,31,32,33,34,35,36,37,38,39,40,41,42,43,44,45,46] (fun m C => ∃ i: Nat,i ≤ n.Eqs.length ∧ m = n.Eqs.length - i ∧ firstE (j: Int) 10 (fun _ q => eqSt q) i (n.Eqs.drop i) = G ∧ C = [(27,.raw (.int .i64 (i: Nat)))]) n.Eqs.length _ ⟨0,by omega,by omega,hNE.symm,rfl⟩ (.cons rfl .nil) ?_
  rintro m C jb r1 ⟨i,hi1,rfl,hG',rfl⟩
  simp only [go_sem]
  refine brK_dec (fun hlt1 => ?_) (fun hge1 => ?_)
  ·
   obtain ⟨q,hq⟩: ∃ q,n.Eqs[i]? = some q := ⟨_,List.getElem?_eq_getElem (by omega)⟩
   have hx := late16 q.E
   have hb: eqSt q = (!(lt q.E).1 && (lt q.E).2) := rfl
   generalize lt q.E = u at hx hb
   obtain ⟨a,b⟩ := u
   simp only [go_sem]
   refine elemHave (x := q) (by omega) (by simpa using hq) ?_
   simp only [go_sem]
   refine PCall.call hx ?_
   cases a <;> cases b <;>
    first
     | (have hE1 := firstE_next hG' hq hb
       simp only [go_sem]
       exact loopFrX _ (by omega) _ ⟨i + 1,by omega,rfl,hE1,rfl⟩ (.next rfl (by omega) .nil) rfl (by first | rfl | (simp only [List.append_assoc,List.cons_append,List.nil_append]; rfl)))
     | (have hE1 := firstE_at hG' hq hb
       have hE2 := first_at hE' hj (by rw [hG,hE1]; simp)
       rw [hE2,hG,hE1]
       simp only [go_sem]
       exact ⟨_,rfl,false,by rw [DFault.enc_eq]; exact .refl _⟩)
  ·
   have h1 := firstE_0 hG' (by omega)
   have hE1 := first_next hE' hj (by rw [hG,h1])
   simp only [go_sem]
   exact loopFrX _ (by omega) _ ⟨j + 1,by omega,rfl,hE1,rfl⟩ (.next rfl (by omega) .nil) rfl (by first | rfl | (simp only [List.append_assoc,List.cons_append,List.nil_append]; rfl))
 ·
  have h1 := first_0 hE' (by omega)
  subst h1
  simp only [go_sem]
  exact ⟨_,rfl,false,by rw [DFault.enc_eq]; exact .refl _⟩
theorem startX (p: DProg) (hp: okProg p): PCall Tryz.prog 25 [p.enc] (startF p).enc := by
 refine pcall_of_vc tabOK Tryz.func25 (by kernel_rfl) rfl (by first | exact pureL | exact pureI) (by first | exact pureL | exact pureI) (n := 55) rfl (rs := [.cell 2 61]) rfl ?_
 have hp6 := hp.2.1
 unfold startF
 simp only [go_sem]
 refine PCall.call (causeX p hp) ?_
 have hz := cause_zero (p := p)
 generalize causeF p = F at hz
 simp only [go_sem]
 rw [fault_z]
 simp only [go_sem]
 refine brK_dec (fun h0 => ?_) (fun h0 => ?_)
 ·
  have hF: ¬ F.Err = 0 := fun h => h0 (hz h).1
  rw [if_neg hF]
  simp only [go_sem]
  exact ⟨_,rfl,false,by rw [DFault.enc_eq]; exact .refl _⟩
 rw [if_pos (by rw [Classical.not_not.1 h0])]
 generalize hE: firstF nodeSt 0 p.Nodes = E
 simp only [go_sem]
 refine loop_frX [4,5,6,7,14,15,16,17,18,19,20,21,22,23,24,25,26,27,28,29,30,31,32,33,34,35,36,37,38,39,40,41,42,43,44,45,46,47,48,49,50,51,52,53] (fun m C => ∃ i: Nat,i ≤ p.Nodes.length ∧ m = p.Nodes.length - i ∧ firstF nodeSt i (p.Nodes.drop i) = E ∧ C = [(4,.raw (.int .i64 (i: Nat)))]) p.Nodes.length _ ⟨0,by omega,by omega,hE,rfl⟩ (.cons rfl .nil) ?_
 rintro m C ja r ⟨j,hi,rfl,hE',rfl⟩
 simp only [go_sem]
 intro _
 refine brK_dec (fun hlt => ?_) (fun hge => ?_)
 ·
  obtain ⟨n,hj⟩: ∃ n,p.Nodes[j]? = some n := ⟨_,List.getElem?_eq_getElem (by omega)⟩
  have hn := hp.2.2 n (List.mem_of_getElem? hj)
  have he4 := hn.2.2.2.1
  have hNE: nodeSt j n = firstE (j: Int) 10 (fun _ q => eqSt q) 0 n.Eqs := rfl
  generalize hG: nodeSt j n = G at hNE
  simp only [go_sem]
  refine loop_frX [5,6,7,21,22,23,24,25,26,27,28,29,30,31,32,33,34,35,36,37,38,39,40,41,42,43,44,45,46,47,48,49,50,51,52,53] (fun m C => ∃ i: Nat,i ≤ n.Eqs.length ∧ m = n.Eqs.length - i ∧ firstE (j: Int) 10 (fun _ q => eqSt q) i (n.Eqs.drop i) = G ∧ C = [(5,.raw (.int .i64 (i: Nat)))]) n.Eqs.length _ ⟨0,by omega,by omega,hNE.symm,rfl⟩ (.cons rfl .nil) ?_
  rintro m C jb r1 ⟨i,hi1,rfl,hG',rfl⟩
  simp only [go_sem]
  refine elemHave (x := n) (by omega) (by simpa using hj) ?_
  simp only [go_sem]
  intro _
  refine brK_dec (fun hlt1 => ?_) (fun hge1 => ?_)
  ·
   obtain ⟨q,hq⟩: ∃ q,n.Eqs[i]? = some q := ⟨_,List.getElem?_eq_getElem (by omega)⟩
   have hx := late17 q.E
   have hb: eqSt q = (!(lt q.E).1 && (lt q.E).2) := rfl
   generalize lt q.E = u at hx hb
   obtain ⟨a,b⟩ := u
   simp only [go_sem]
   refine elemHave (x := n) (by omega) (by simpa using hj) ?_
   simp only [go_sem]
   refine elemHave (x := q) (by omega) (by simpa using hq) ?_
   simp only [go_sem]
   refine PCall.call hx ?_
   cases a <;> cases b <;>
    first
     | (have hE1 := firstE_next hG' hq hb
       simp only [go_sem]
       exact loopFrX _ (by omega) _ ⟨i + 1,by omega,rfl,hE1,rfl⟩ (.next rfl (by omega) .nil) rfl (by first | rfl | (simp only [List.append_assoc,List.cons_append,List.nil_append]; rfl)))
     | (have hE1 := firstE_at hG' hq hb
       have hE2 := first_at hE' hj (by rw [hG,hE1]; simp)
       rw [hE2,hG,hE1]
       simp only [go_sem]
       refine PCall.call (fault47 _ _ _) ?_
       simp only [go_sem]
       exact ⟨_,rfl,false,by rw [DFault.enc_eq]; exact .refl _⟩)
  ·
   have h1 := firstE_0 hG' (by omega)
   have hE1 := first_next hE' hj (by rw [hG,h1])
   simp only [go_sem]
   exact loopFrX _ (by omega) _ ⟨j + 1,by omega,rfl,hE1,rfl⟩ (.next rfl (by omega) .nil) rfl (by first | rfl | (simp only [List.append_assoc,List.cons_append,List.nil_append]; rfl))
 ·
  have h1 := first_0 hE' (by omega)
  subst h1
  simp only [go_sem]
  exact ⟨_,rfl,false,by rw [DFault.enc_eq]; exact .refl _⟩
end Go.Proofs.YtpamokpmlplopaaGreatDoor
namespace Go.Abs
open Go.RowKit
end Go.Abs
namespace Go.Proofs.YtpamokpmlplopaaGreatDoor
open Go.Abs
set_option maxRecDepth 20000
set_option linter.unusedSimpArgs false
set_option linter.unusedVariables false
set_option maxHeartbeats 1000000
attribute [local irreducible] vc vcOps vcStep vcGuard prK hrK gK gsK brK callK ElemK SeqK BlockK ScopeK OpsK CallK LoopK LoopGo finPost ACall PCall PCallE BCall vqOps vqStep vqGuard qrK heK pcK gqK gqsK QOpsK qcallK DrawK
def digB (n: Int): ByteArray := ⟨(Lib.itoa n).toArray⟩
end Go.Proofs.YtpamokpmlplopaaGreatDoor
namespace Go.Proofs.YtpamokpmlplopaaGreatDoor
open Go.Abs
set_option maxRecDepth 20000
set_option linter.unusedSimpArgs false
set_option linter.unusedVariables false
set_option maxHeartbeats 1000000
attribute [local irreducible] vc vcOps vcStep vcGuard prK hrK gK gsK brK callK ElemK SeqK BlockK ScopeK OpsK CallK LoopK LoopGo finPost ACall PCall PCallE BCall vqOps vqStep vqGuard qrK heK pcK gqK gqsK QOpsK qcallK DrawK
section
variable (p: DProg) (k: Int)
noncomputable def tyN (e: Ex): DTy := (ofN p k e).1
noncomputable def cnN (e: Ex): List Int := (constT p.Enums e).1
def vaN (s: ByteArray): Int := (armF p.Enums s).2.1
def fiN (s: ByteArray): Int := findF p s
def nmN (first: ByteArray) (j: Nat): ByteArray := (first ++ ⟨#[46]⟩) ++ digB (j: Int)
def rowOn (s: ByteArray): List DCond := (rowF p k s).1
noncomputable def eqPl (st: List DVar × List DPlain) (q: DEq): DPlain × NmSt := plainN (nmN (q.Names.headD ⟨#[]⟩)) (tyN p k) (cnN p) (vaN p) (fiN p) q.E (rowOn p k (q.Names.headD ⟨#[]⟩)) ⟨st.1,st.2,0⟩
noncomputable def eqNm (st: List DVar × List DPlain) (q: DEq): List DVar × List DPlain :=
 ((eqPl p k st q).2.vars,(eqPl p k st q).2.eqs ++ [{ (eqPl p k st q).1 with Names := q.Names,On := rowOn p k (q.Names.headD ⟨#[]⟩) }])
noncomputable def eqsNm (st: List DVar × List DPlain) (l: List DEq): List DVar × List DPlain := l.foldl (eqNm p k) st
def varNm (d: DDecl): DVar := ⟨d.Name,d.Ty,rowOn p k d.Name⟩
noncomputable def flowNm (n: DNode): DFlow := ⟨n.Name,n.Ins.map (varNm p k),n.Outs.map (varNm p k),(eqsNm p k (n.Vars.map (varNm p k),[]) n.Eqs).1,(eqsNm p k (n.Vars.map (varNm p k),[]) n.Eqs).2⟩
end
noncomputable def nodesNm (p: DProg): Nat → List DNode → List DFlow
 | _,[] => []
 | i,n :: l => flowNm p (i: Int) n :: nodesNm p (i + 1) l
noncomputable def normF (p: DProg): DFlows × Bool := if (startF p).Err = 0 then (⟨p.Enums,nodesNm p 0 p.Nodes⟩,true) else (⟨[],[]⟩,false)
theorem eqsNm_next (p: DProg) (k: Int) {st: List DVar × List DPlain} {l: List DEq} {i: Nat} {x: DEq} (h: l[i]? = some x): eqsNm p k st (l.take (i + 1)) = eqNm p k (eqsNm p k st (l.take i)) x := by
 unfold eqsNm
 rw [List.take_add_one,h,List.foldl_append]
 rfl
theorem nodesNm_len (p: DProg): ∀ (l: List DNode) (i: Nat),(nodesNm p i l).length = l.length
 | [],_ => rfl
 | n :: l,i => by rw [nodesNm,List.length_cons,List.length_cons,nodesNm_len p l]
theorem nodesNm_at (p: DProg): ∀ {l: List DNode} {i j: Nat},(nodesNm p i l)[j]? = (l[j]?).map (flowNm p ((i + j: Nat): Int))
 | [],_,_ => rfl
 | n :: l,i,0 => rfl
 | n :: l,i,j + 1 => by
  rw [nodesNm,List.getElem?_cons_succ,List.getElem?_cons_succ,nodesNm_at p (l := l)]
  rw [show i + 1 + j = i + (j + 1) by omega]
theorem nodesNm_next (p: DProg) {l: List DNode} {i: Nat} {n: DNode} (h: l[i]? = some n): (nodesNm p 0 l).take (i + 1) = (nodesNm p 0 l).take i ++ [flowNm p (i: Int) n] := by
 have h2: (nodesNm p 0 l)[i]? = some (flowNm p (i: Int) n) := by rw [nodesNm_at,h,Nat.zero_add]; rfl
 rw [List.take_add_one,h2]
 rfl
theorem norm_ok {p: DProg} (h: (startF p).Err = 0): normF p = (⟨p.Enums,nodesNm p 0 p.Nodes⟩,true) := by unfold normF; rw [if_pos h]
theorem norm_no {p: DProg} (h: ¬ (startF p).Err = 0): normF p = (⟨[],[]⟩,false) := by unfold normF; rw [if_neg h]
structure EqFit (p: DProg) (k: Nat) (n: DNode) (q: DEq): Prop where
 names: ∃ s r,q.Names = s :: r
 right: ∀ y ∈ parts q.E,partE y = true
 fits: fitsF (rowN p.Enums n) p.Enums q.E (rowN p.Enums n (q.Names.headD ⟨#[]⟩)).1 = true
 same: ∀ s ∈ q.Names,(rowN p.Enums n s).1 = (rowN p.Enums n (q.Names.headD ⟨#[]⟩)).1
theorem start_eqs {p: DProg} (h: (startF p).Err = 0): checkF p = 0 ∧ ∀ (k: Nat) n,p.Nodes[k]? = some n → rowsOk p.Enums n = true ∧ (nodeFault p (k: Int) n).Err = 0 ∧ ∀ q ∈ n.Eqs,EqFit p k n q := by
 obtain ⟨_,h1,_⟩ := start_zero h
 obtain ⟨_,h2,_⟩ := cause_zero h1
 obtain ⟨_,h3,hc⟩ := clock_zero h2
 obtain ⟨_,hs,hk,_⟩ := types_zero h3
 obtain ⟨_,_,hnf⟩ := scope_zero (p := p) (by rw [hs])
 refine ⟨hk,fun k n hn => ?_⟩
 obtain ⟨_,hr,hq⟩ := nodeCk_zero (hc k n hn)
 refine ⟨hr,hnf k n hn,fun q hm => ?_⟩
 obtain ⟨e1,e2⟩ := eqs_right hk (List.mem_of_getElem? hn) hm
 have hck := hq q hm
 unfold eqCk at hck
 simp only [Bool.and_eq_true,List.all_eq_true] at hck
 refine ⟨?_,right_parts e2,hck.2,fun s hs => eqB_t (hck.1 s hs)⟩
 match q.Names,e1 with
 | s :: r,_ => exact ⟨s,r,rfl⟩
end Go.Proofs.YtpamokpmlplopaaGreatDoor
namespace Go.Proofs.YtpamokpmlplopaaGreatDoor
open Go.Abs
set_option maxRecDepth 20000
set_option linter.unusedSimpArgs false
set_option linter.unusedVariables false
set_option maxHeartbeats 1000000
attribute [local irreducible] vc vcOps vcStep vcGuard prK hrK gK gsK brK callK ElemK SeqK BlockK ScopeK OpsK CallK LoopK LoopGo finPost ACall PCall PCallE BCall vqOps vqStep vqGuard qrK heK pcK gqK gqsK QOpsK qcallK DrawK
theorem finSqN {T: TypeId → TI} {rs: List ResultVar} {s: List AV} {h: List Blk} {a b: ByteArray} (hr: resAV T s h rs = some [.s a]) (he: a = b): Go.Abs.Fin T rs (.s b) s h := he ▸ ⟨_,hr,false,.refl _⟩
theorem digN_size (j: Nat) (h: j < 100): (digB (j: Int)).size ≤ 21 := by
 have key: ∀ k: Fin 100,(digB (k.val: Int)).size ≤ 21 := by decide +kernel
 exact key ⟨j,h⟩
theorem small204 (n: Nat) (h: n < 100): PCall Tryz.prog 204 [.i (n: Int)] (.s (digB (n: Int))) := by
 refine pcall_of_vc tabOK Tryz.func204 (by kernel_rfl) rfl pureL pureI (n := 15) rfl (rs := [.tmp 2]) rfl ?_
 by_cases hn: n < 10
 ·
  have hw: IntKind.i64.wrap ((n: Int) + 1) = ((n + 1: Nat): Int) := by rw [wrap_in _ (by omega) (by omega)]; omega
  repeat' first
   | simp only [go_sem,hw]
   | refine brK_dec (fun _ => ?_) (fun _ => ?_)
   | (exfalso; omega)
   | refine And.intro (by first | omega | (simp <;> omega)) ?_
  refine finSqN rfl ?_
  rw [Int.toNat_natCast,Int.toNat_natCast]
  exact (fun (key: ∀ k: _root_.Fin 10,ByteArray.extract _ k.val (k.val + 1) = digB (k.val: Int)) => key ⟨n,hn⟩) (by decide +kernel)
 ·
  have hw: IntKind.i64.wrap ((n: Int) * 2) = ((n * 2: Nat): Int) := by rw [wrap_in _ (by omega) (by omega)]; omega
  have hw2: IntKind.i64.wrap (((n * 2: Nat): Int) + 2) = ((n * 2 + 2: Nat): Int) := by rw [wrap_in _ (by omega) (by omega)]; omega
  repeat' first
   | simp only [go_sem,hw,hw2]
   | refine brK_dec (fun _ => ?_) (fun _ => ?_)
   | (exfalso; omega)
   | refine And.intro (by first | omega | (simp <;> omega)) ?_
  refine finSqN rfl ?_
  rw [Int.toNat_natCast,Int.toNat_natCast]
  exact (fun (key: ∀ k: _root_.Fin 100,10 ≤ k.val → ByteArray.extract _ (k.val * 2) (k.val * 2 + 2) = digB (k.val: Int)) => key ⟨n,h⟩ (by show 10 ≤ n; omega)) (by decide +kernel)
theorem fmtN (n: Nat) (h: n < 100): PCall Tryz.prog 161 [.i (n: Int),.i 10] (.s (digB (n: Int))) := by
 refine pcall_of_vc tabOK Tryz.func161 (by kernel_rfl) rfl pureL pureI (n := 54) rfl (rs := [.tmp 4]) rfl ?_
 repeat' first
  | simp only [go_sem]
  | refine brK_dec (fun _ => ?_) (fun _ => ?_)
  | refine gK_dec (fun _ => ?_) (fun _ => ?_)
  | (exfalso; omega)
  | refine PCall.call (small204 n h) ?_
  | exact ⟨_,rfl,false,.refl _⟩
theorem itoaN28 (n: Nat) (h: n < 100): PCall Tryz.prog 129 [.i (n: Int)] (.s (digB (n: Int))) := by
 refine pcall_of_vc tabOK Tryz.func129 (by kernel_rfl) rfl pureL pureI (n := 5) rfl (rs := [.tmp 2]) rfl ?_
 simp only [go_sem]
 refine PCall.call (fmtN n h) ?_
 simp only [go_sem]
 exact ⟨_,rfl,false,.refl _⟩
theorem itoaN (n: Nat) (h: n < 100): PCall Tryz.prog 89 [.i (n: Int)] (.s (digB (n: Int))) := by
 refine pcall_of_vc tabOK Tryz.func89 (by kernel_rfl) rfl pureL pureI (n := 5) rfl (rs := [.tmp 2]) rfl ?_
 simp only [go_sem]
 refine PCall.call (itoaN28 n h) ?_
 simp only [go_sem]
 exact ⟨_,rfl,false,.refl _⟩
end Go.Proofs.YtpamokpmlplopaaGreatDoor
namespace Go.Proofs.YtpamokpmlplopaaGreatDoor
open Go.Abs
set_option maxRecDepth 20000
set_option linter.unusedSimpArgs false
set_option linter.unusedVariables false
set_option maxHeartbeats 1000000
attribute [local irreducible] vc vcOps vcStep vcGuard prK hrK gK gsK brK callK ElemK SeqK BlockK ScopeK OpsK CallK LoopK LoopGo finPost ACall PCall PCallE BCall vqOps vqStep vqGuard qrK heK pcK gqK gqsK QOpsK qcallK DrawK
theorem vsOne {vs: Array Value} (h: vs.size = 1): ∃ v,vs = #[v] := by
 obtain ⟨l⟩ := vs
 match l,h with
 | [v],_ => exact ⟨v,rfl⟩
section
variable {P: Program} {f: FuncId} {sz: Nat} {es: List AV} {r: AV}
theorem pcall_sl (pe: ∀ c ∈ flat es,Go.Abs.Pure c) (h1: es = [] → PCall P f [.raw (.slice none 0 0)] r) (h2: es = [] → ∀ a c,c ≤ maxLen → PCall P f [.raw (.slice (some a) 0 c)] r) (h3: es ≠ [] → PCall P f [.lst sz es none] r): PCall P f [.lst sz es none] r := by
 by_cases he: es = []
 ·
  subst he
  unfold PCall at h1 h2 ⊢
  refine ⟨fun x hx => by rw [List.mem_singleton.1 hx]; exact .lst _ _ pe,(h1 rfl).2.1,fun S w vs hb ht ha => ?_⟩
  obtain ⟨v,rfl⟩ := vsOne ha.1
  have hv := ha.2 0 _ _ rfl rfl
  cases hv with
  | lst _ _ _ a len cap u hlen hcap hmax hsz hm hc h1' ht' =>
   have hl: len = 0 := hlen.symm
   subst hl
   exact (h2 rfl a cap hmax).2.2 S w _ hb ht (CAll.one (.raw _))
  | lstnil _ _ ht' => exact (h1 rfl).2.2 S w _ hb ht (CAll.one (.raw _))
 ·
  exact h3 he
theorem acall_sl {h: List Blk} {K: AV → List Blk → Prop} (h1: es = [] → ACall P f [.raw (.slice none 0 0)] h K) (h2: es = [] → ∀ a c,c ≤ maxLen → ACall P f [.raw (.slice (some a) 0 c)] h K) (h3: es ≠ [] → ACall P f [.lst sz es none] h K): ACall P f [.lst sz es none] h K := by
 by_cases he: es = []
 ·
  subst he
  unfold ACall at h1 h2 ⊢
  intro S φ w vs hr ha
  obtain ⟨v,rfl⟩ := vsOne ha.1
  have hv := ha.2 0 _ _ rfl rfl
  cases hv with
  | lst _ _ _ a len cap u hlen hcap hmax hsz hm hc h1' ht' =>
   have hl: len = 0 := hlen.symm
   subst hl
   exact h2 rfl a cap hmax S φ w _ hr (CAll.one (.raw _))
  | lstnil _ _ ht' => exact h1 rfl S φ w _ hr (CAll.one (.raw _))
 ·
  exact h3 he
theorem acall_nil {args: List AV} {h: List Blk} {e: TypeId} {K: AV → List Blk → Prop} (hp: PCall P f args (.raw (.slice none 0 0))) (hK: K (.lst sz [] (some h.length)) (h ++ [.tok e sz 0])): ACall P f args h K := by
 unfold PCall at hp
 obtain ⟨h1,h2,h3⟩ := hp
 unfold ACall
 intro S φ w vs hr ha
 obtain ⟨ent,calls⟩ := h3 S w vs hr.bnd hr.tab.bare (ha.pure _ h1)
 refine ⟨ent,Calls.mono calls ?_⟩
 rintro e' w' ⟨v,S',rfl,hc,hr',he⟩
 obtain ⟨k1,k2⟩ := hr.over he hr'.bnd
 cases hc
 obtain ⟨q1,q2⟩ := k1.push (l := .tok 0 (.slice none 0 0)) (x := .tok e sz 0) (S' := S') (w' := w') rfl rfl rfl (Nat.le_refl _) (fun _ _ => rfl) (fun _ h => h) (fun _ h => .inl h) k1.bnd
  ⟨_,upd_same _ _ _,.inl ⟨rfl,rfl⟩⟩ (fun b hb => by simp [blockOf] at hb)
 exact ⟨_,_,_,S',_,rfl,hK,.lstnil sz (some h.length) ⟨_,_,upd_same _ _ _,Nat.le_refl _,fun _ => rfl⟩,q1,k2.trans q2⟩
end
theorem nilW (sz: Nat): Weak (.raw (.slice none 0 0)) (.lst sz [] none) := .nil _
theorem cloneS (l: List ByteArray) (hl: l.length ≤ 4294967296): PCall Tryz.prog 32 [.lst 1 (l.map AV.s) none] (.lst 1 (l.map AV.s) none) := by
 refine pcall_sl (by intro c hc; rw [flat_strs] at hc; obtain ⟨x,_,rfl⟩ := List.mem_map.1 hc; exact .raw _) (fun he => ?_) (fun he a c hc => ?_) (fun he => ?_)
 ·
  obtain rfl := List.map_eq_nil_iff.1 he
  refine pcall_of_vc tabOK Tryz.func32 (by kernel_rfl) rfl (pure_cons (.raw _) pure_nil) (pure_strs []) (n := 8) rfl (rs := [.tmp 2]) rfl ?_
  simp only [go_sem]
  exact ⟨_,rfl,false,nilW 1⟩
 ·
  obtain rfl := List.map_eq_nil_iff.1 he
  refine pcall_of_vc tabOK Tryz.func32 (by kernel_rfl) rfl (pure_cons (.raw _) pure_nil) (pure_strs []) (n := 8) rfl (rs := [.tmp 2]) rfl ?_
  simp only [go_sem]
  refine ⟨by simpa [maxLen] using hc,?_⟩
  exact ⟨_,rfl,false,.tok _ _ _⟩
 ·
  match l,he with
  | x :: r,_ =>
   have hp: Go.Abs.Pure (.lst 1 ((x :: r).map AV.s) none) := pure_strs _
   rw [List.map_cons] at hp ⊢
   refine pcall_of_vc tabOK Tryz.func32 (by kernel_rfl) rfl (pure_cons hp pure_nil) hp (n := 8) rfl (rs := [.tmp 2]) rfl ?_
   simp only [go_sem]
   refine ⟨by simpa using hl,?_⟩
   exact ⟨_,rfl,false,.tok _ _ _⟩
theorem cloneC (l: List DCond) (hl: l.length ≤ 1000000) {h: List Blk} {K: AV → List Blk → Prop} (hK: K (.lst 2 (l.map DCond.enc) (some h.length)) (h ++ [.tok 97 2 l.length])): ACall Tryz.prog 139 [.lst 2 (l.map DCond.enc) none] h K := by
 have hpp: Go.Abs.Pure (.lst 2 (l.map DCond.enc) none) := DCond.pures l
 have hpf: ∀ c ∈ flat (l.map DCond.enc),Go.Abs.Pure c := by cases hpp with | lst _ _ h => exact h
 refine tcall (e := 97) (sz := 2) (l := l.map DCond.enc) (fun KK hk0 => ?_) (pure_cons hpp pure_nil) hpf (by simpa using hK)
 refine acall_sl (fun he => ?_) (fun he a c hc => ?_) (fun he => ?_)
 ·
  obtain rfl := List.map_eq_nil_iff.1 he
  refine acall_nil (e := 97) (sz := 2) ?_ hk0
  refine pcall_of_vc tabOK Tryz.func139 (by kernel_rfl) rfl (pure_cons (.raw _) pure_nil) (.raw _) (n := 8) rfl (rs := [.tmp 2]) rfl ?_
  simp only [go_sem]
  exact ⟨_,rfl,false,.refl _⟩
 ·
  obtain rfl := List.map_eq_nil_iff.1 he
  refine acallT_of_vc tabOK Tryz.func139 (by kernel_rfl) rfl (n := 8) rfl (rs := [.tmp 2]) rfl (e := 97) (sz := 2) (l := []) ?_
  simp only [go_sem]
  refine ⟨by simpa [maxLen] using hc,?_⟩
  exact finTk (k := 0) hk0 rfl rfl rfl rfl (by simp [flat])
 ·
  match l,he with
  | x :: r,_ =>
   rw [List.map_cons] at hk0 hpf ⊢
   refine acallT_of_vc tabOK Tryz.func139 (by kernel_rfl) rfl (n := 8) rfl (rs := [.tmp 2]) rfl (e := 97) (sz := 2) (l := x.enc :: r.map DCond.enc) ?_
   simp only [go_sem]
   refine ⟨by simp at hl ⊢; omega,?_⟩
   exact finTk (k := 0) hk0 rfl rfl rfl (by simp) hpf
end Go.Proofs.YtpamokpmlplopaaGreatDoor
namespace Go.Proofs.YtpamokpmlplopaaGreatDoor
open Go.Abs
set_option maxRecDepth 20000
set_option linter.unusedSimpArgs false
set_option linter.unusedVariables false
set_option maxHeartbeats 1000000
attribute [local irreducible] vc vcOps vcStep vcGuard prK hrK gK gsK brK callK ElemK SeqK BlockK ScopeK OpsK CallK LoopK LoopGo finPost ACall PCall PCallE BCall vqOps vqStep vqGuard qrK heK pcK gqK gqsK QOpsK qcallK DrawK
theorem MonoH_same (a: Blk) (x y: List Blk): MonoH (a :: x) (a :: y) = MonoH x y := by cases a <;> simp [MonoH]
attribute [go_sem] MonoH_same
abbrev apB (p: DProg) (k: Int) (nx c4 c5 c6 c7 c8: AV): Blk := .cells 114 [.lst 2 (p.Enums.map DEnum.enc) none,.lst 5 (p.Nodes.map DNode.enc) none,.i k,nx,c4,c5,c6,c7,c8]
section
variable {a0 a1 a2: Blk} {r: List Blk} {p: DProg} {k: Int} {nx c4 c5 c6 c7 c8: AV} {K: AV → List Blk → Prop}
theorem value132 (arm: ByteArray) (hK: K (.i (vaN p arm)) (a0 :: a1 :: a2 :: apB p k nx c4 c5 c6 c7 c8 :: r)): ACall Tryz.prog 132 [.ptr 3 0,.s arm] (a0 :: a1 :: a2 :: apB p k nx c4 c5 c6 c7 c8 :: r) K := by
 refine acall_of_vc tabOK Tryz.func132 (by kernel_rfl) rfl (n := 20) rfl (rs := [.tmp 4]) rfl ?_
 simp only [go_sem]
 refine PCall.call (arm146 p.Enums arm) ?_
 unfold vaN at hK
 generalize armF p.Enums arm = q at hK
 obtain ⟨t,v,ok⟩ := q
 simp only [go_sem]
 exact finH0 (h := a0 :: a1 :: a2 :: apB p k nx c4 c5 c6 c7 c8 :: r) _ rfl (.raw _) hK
theorem row60 (s: ByteArray) (hl: ∀ n ∈ p.Nodes,(allV n).length ≤ 4294967296) (hK: K (.lst 2 ((rowOn p k s).map DCond.enc) none) (a0 :: a1 :: a2 :: apB p k nx c4 c5 c6 c7 c8 :: r)): ACall Tryz.prog 60 [.ptr 3 0,.s s] (a0 :: a1 :: a2 :: apB p k nx c4 c5 c6 c7 c8 :: r) K := by
 refine acall_of_vc tabOK Tryz.func60 (by kernel_rfl) rfl (n := 21) rfl (rs := [.tmp 4]) rfl ?_
 simp only [go_sem]
 refine drawK mo (by kernel_rfl) ?_
 simp only [go_sem]
 refine pcK_of (row45 p k s hl) ?_
 unfold rowOn at hK
 generalize rowF p k s = q at hK
 obtain ⟨l,ok⟩ := q
 simp only [go_sem]
 exact finH1 rfl (DCond.pures _) hK
theorem ty97 (e: Ex) (hty: ∀ n ∈ p.Nodes,tyOK p n) (hp: ∀ y ∈ parts e,partE y = true) (hok: okE e) (hK: K (tyN p k e).enc (a0 :: a1 :: a2 :: apB p k nx c4 c5 c6 c7 c8 :: r)): ACall Tryz.prog 97 [.ptr 3 0,e.enc] (a0 :: a1 :: a2 :: apB p k nx c4 c5 c6 c7 c8 :: r) K := by
 refine acall_of_vc tabOK Tryz.func97 (by kernel_rfl) rfl (n := 21) rfl (rs := [.cell 4 42]) rfl ?_
 simp only [go_sem]
 refine drawC [r.length + 5] mo (by kernel_rfl) ?_
 simp only [go_sem]
 refine pcK_of (OfPk p k e hty hp hok) ?_
 unfold tyN at hK
 generalize ofN p k e = q at hK
 obtain ⟨t,ok⟩ := q
 simp only [go_sem]
 refine finH0 (h := a0 :: a1 :: a2 :: apB p k nx c4 c5 c6 c7 c8 :: r) _ ?_ (DTy.pure t) hK
 simp only [go_sem]
end
def kindN (k: Int): Int := if k = 5 then 2 else if k = 6 then 3 else if k = 7 then 4 else if k = 14 then 8 else if k = 15 then 9 else if k = 16 then 10 else 0
theorem kind91 (e: Ex): PCall Tryz.prog 91 [e.enc] (.i (kindN e.kind)) := by
 refine pcall_of_vc tabOK Tryz.func91 (by kernel_rfl) rfl pureL pureI (n := 17) rfl (rs := [.tmp 2]) rfl ?_
 unfold kindN
 repeat' first
  | simp only [go_sem]
  | refine brK_dec (fun _ => ?_) (fun _ => ?_)
  | (simp only [*,if_true,if_false]; exact ⟨_,rfl,false,.refl _⟩)
theorem finKw {T: TypeId → TI} {s: List AV} {h: List Blk} {rs: List ResultVar} {K: AV → List Blk → Prop} {x r: AV} (hl: resAV T s h rs = some [x]) (hw: Weak x r) (hK: K r h): FinK T rs K s h := ⟨_,hl,r,hw,hK⟩
theorem delay95 {h: List Blk} {K: AV → List Blk → Prop} {k: Nat} (init: List Int) (args: List DAtom) (hK: ∀ r,K ({ plain0 5 0 args with Init := init }: DPlain).enc (h ++ r)): ACall Tryz.prog 95 [.ptr k 0,.lst 1 (init.map AV.i) none,.lst 2 (args.map DAtom.enc) none] h K := by
 refine acallK_of_vc tabOK Tryz.func95 (by kernel_rfl) rfl (n := 10) rfl (rs := [.cell 6 53]) rfl ?_
 simp only [go_sem]
 refine finKw (r := ({ plain0 5 0 args with Init := init }: DPlain).enc) (by simp only [go_sem]; rfl) ?_ (hK _)
 rw [DPlain.enc_eq]
 exact Weak.aggs ⟨.refl _,.nil _,.refl _,.refl _,.refl _,.refl _,.refl _,.refl _,.refl _,.nil _,trivial⟩
theorem names59 {h: List Blk} {K: AV → List Blk → Prop} (first: ByteArray) (hK: K (.fn (.func 88) [] [.ptr (h.length + 1) 0,.ptr h.length 0]) (h ++ [.cells 9 [.s first],.cells 3 [.i 0]])): ACall Tryz.prog 59 [.s first] h K := by
 refine acallK_of_vc tabOK Tryz.func59 (by kernel_rfl) rfl (n := 5) rfl (rs := [.tmp 2]) rfl ?_
 simp only [go_sem]
 refine finK (r := .fn (.func 88) [] [.ptr (h.length + 1) 0,.ptr h.length 0]) ?_ ?_
 ·
  simp [resAV]
  rfl
 ·
  simpa using hK
end Go.Proofs.YtpamokpmlplopaaGreatDoor
namespace Go.Proofs.YtpamokpmlplopaaGreatDoor
open Go.Abs
set_option maxRecDepth 20000
set_option linter.unusedSimpArgs false
set_option linter.unusedVariables false
set_option maxHeartbeats 1000000
attribute [local irreducible] vc vcOps vcStep vcGuard prK hrK gK gsK brK callK ElemK SeqK BlockK ScopeK OpsK CallK LoopK LoopGo finPost ACall PCall PCallE BCall vqOps vqStep vqGuard qrK heK pcK gqK gqsK QOpsK qcallK DrawK
abbrev HN (a0 a1 a2 y z: Blk) (B: List Blk) (p: DProg) (k: Int) (c4 c5 c6: AV) (st: NmSt) (fst: ByteArray) (r: List Blk): List Blk :=
 a0 :: a1 :: a2 :: apB p k (.fn (.func 88) [] [.ptr (B.length + 9) 0,.ptr (B.length + 8) 0]) c4 c5 c6 (.lst 5 (st.vars.map DVar.enc) (some 6)) (.lst 10 (st.eqs.map DPlain.enc) (some 7)) :: y :: z :: .tok 45 5 st.vars.length :: .tok 53 10 st.eqs.length :: (B ++ .cells 9 [.s fst] :: .cells 3 [.i (st.k: Int)] :: r)
theorem ACall.weakA {P: Program} {f: FuncId} {azs args: List AV} {h: List Blk} {K: AV → List Blk → Prop} (hw: WeakL azs args) (hc: ACall P f args h K): ACall P f azs h K := by
 unfold ACall at hc ⊢
 exact fun S φ w vs hr ha => hc S φ w vs hr (ha.weak hw)
section
variable {a0 a1 a2 y z tv: Blk} {B r: List Blk} {p: DProg} {k: Int} {nx c4 c5 c6 c7: AV} {fst: ByteArray} {K: AV → List Blk → Prop}
theorem emit61 (q: DPlain) (names: List ByteArray) (on: List DCond) (es: List DPlain) (hl: es.length ≤ 1000000)
  (hK: ∀ r',K (.tup []) (a0 :: a1 :: a2 :: apB p k nx c4 c5 c6 c7 (.lst 10 ((es ++ [{ q with Names := names,On := on }]).map DPlain.enc) (some 7)) :: y :: z :: tv :: .tok 53 10 (es ++ [{ q with Names := names,On := on }]).length :: (r ++ r'))) :
  ACall Tryz.prog 61 [.ptr 3 0,q.enc,.lst 1 (names.map AV.s) none,.lst 2 (on.map DCond.enc) none] (a0 :: a1 :: a2 :: apB p k nx c4 c5 c6 c7 (.lst 10 (es.map DPlain.enc) (some 7)) :: y :: z :: tv :: .tok 53 10 es.length :: r) K := by
 refine acallK_of_vc tabOK Tryz.func61 (by kernel_rfl) rfl (n := 24) rfl (rs := []) rfl ?_
 simp only [go_sem]
 refine drawZ mo (by kernel_rfl) rfl ?_
 simp only [List.dropLast_cons_cons,List.dropLast_singleton,List.getLast_cons_cons,List.getLast_singleton]
 simp only [go_sem]
 refine And.intro (by first | omega | (simp <;> omega)) ?_
 refine ⟨[],rfl,.tup [],.refl _,?_⟩
 simp only [List.map_append,List.map_cons,List.map_nil,DPlain.enc_eq,List.length_append,List.length_cons,List.length_nil,Nat.zero_add] at hK
 exact hK _
theorem names88 {st: NmSt} (hs: fst.size ≤ 1000) (hk: st.k + 1 < 100) (hK: K (.s (nmN fst (st.k + 1))) (HN a0 a1 a2 y z B p k c4 c5 c6 { st with k := st.k + 1 } fst r)) :
  ACall Tryz.prog 88 [.ptr (B.length + 9) 0,.ptr (B.length + 8) 0] (HN a0 a1 a2 y z B p k c4 c5 c6 st fst r) K := by
 obtain ⟨j,hj⟩: ∃ j,j = st.k + 1 := ⟨_,rfl⟩
 rw [← hj] at hk hK
 have hw: IntKind.i64.wrap ((st.k: Int) + 1) = (j: Int) := by rw [wrap_in _ (by omega) (by omega)]; omega
 have hd := digN_size j (by omega)
 have he: (⟨#[46]⟩: ByteArray).size = 1 := rfl
 have hz: (fst ++ ⟨#[46]⟩).size = fst.size + 1 := by rw [ByteArray.size_append,he]
 have hi := itoaN j (by omega)
 refine acallK_of_vc tabOK Tryz.func88 (by kernel_rfl) rfl (n := 10) rfl (rs := [.tmp 2]) rfl ?_
 simp only [go_sem,hw]
 refine drawK mo (by kernel_rfl) ?_
 repeat' first
  | simp only [go_sem,hw]
  | (refine pcK_of hi ?_)
  | refine And.intro (by first | omega | (simp <;> omega)) ?_
 exact finK (r := .s (nmN fst j)) rfl (by simpa using hK)
theorem fresh133 {st: NmSt} (q: DPlain) (t: DTy) (on: List DCond) (hs: fst.size ≤ 1000) (hk: st.k + 1 < 100) (hv: st.vars.length ≤ 1000000) (hl: st.eqs.length ≤ 1000000)
  (hK: ∀ r',K (freshN (nmN fst) q t on st).1.enc (HN a0 a1 a2 y z B p k c4 c5 c6 (freshN (nmN fst) q t on st).2 fst (r ++ r'))) :
  ACall Tryz.prog 133 [.ptr 3 0,q.enc,t.enc,.lst 2 (on.map DCond.enc) none] (HN a0 a1 a2 y z B p k c4 c5 c6 st fst r) K := by
 refine acallK_of_vc tabOK Tryz.func133 (by kernel_rfl) rfl (n := 38) rfl (rs := [.cell 8 51]) rfl ?_
 simp only [go_sem]
 refine names88 hs hk ?_
 simp only [go_sem]
 refine drawZ mo (by kernel_rfl) rfl ?_
 simp only [List.dropLast_cons_cons,List.dropLast_singleton,List.getLast_cons_cons,List.getLast_singleton]
 simp only [go_sem]
 refine And.intro (by first | omega | (simp <;> omega)) ?_
 refine ACall.weakA (args := [.ptr 3 0,q.enc,.lst 1 ([nmN fst (st.k + 1)].map AV.s) none,.lst 2 (on.map DCond.enc) none]) ⟨.refl _,.refl _,.tok _ _ _,.refl _,trivial⟩ ?_
 refine emit61 q [nmN fst (st.k + 1)] on st.eqs hl (fun r' => ?_)
 simp only [go_sem]
 refine finKw (r := (⟨nmN fst (st.k + 1),0⟩: DAtom).enc) (by simp only [go_sem]; rfl) (by rw [DAtom.enc_eq]; exact .refl _) ?_
 simp only [HN,freshN,List.map_append,List.map_cons,List.map_nil,DVar.enc_eq,List.length_append,List.length_cons,List.length_nil,Nat.zero_add] at hK
 simp only [List.map_append,List.map_cons,List.map_nil,List.length_append,List.length_cons,List.length_nil,Nat.zero_add]
 exact hK _
end
end Go.Proofs.YtpamokpmlplopaaGreatDoor
namespace Go.Proofs.YtpamokpmlplopaaGreatDoor
open Go.Abs
set_option maxRecDepth 20000
set_option linter.unusedSimpArgs false
set_option linter.unusedVariables false
set_option maxHeartbeats 1000000
attribute [local irreducible] vc vcOps vcStep vcGuard prK hrK gK gsK brK callK ElemK SeqK BlockK ScopeK OpsK CallK LoopK LoopGo finPost ACall PCall PCallE BCall vqOps vqStep vqGuard qrK heK pcK gqK gqsK QOpsK qcallK DrawK
section
variable (p: DProg) (k: Nat) (n: DNode)
noncomputable abbrev plN (fst: ByteArray) (e: Ex) (on: List DCond) (st: NmSt): DPlain × NmSt := plainN (nmN fst) (tyN p (k: Int)) (cnN p) (vaN p) (fiN p) e on st
noncomputable abbrev atN (fst: ByteArray) (e: Ex) (on: List DCond) (st: NmSt): DAtom × NmSt := atomN (nmN fst) (tyN p (k: Int)) (cnN p) (vaN p) (fiN p) e on st
noncomputable abbrev eaN (fst: ByteArray) (l: List Ex) (on: List DCond) (st: NmSt): List DAtom × NmSt := eachN (nmN fst) (tyN p (k: Int)) (cnN p) (vaN p) (fiN p) l on st
def bnd (on: List DCond) (st: NmSt) (m fr: Nat): Prop := on.length + m ≤ 1000 ∧ st.k + fr ≤ 98 ∧ st.vars.length + fr ≤ 100000 ∧ st.eqs.length + fr ≤ 100000
def PlainK (e: Ex): Prop := ∀ (a0 a1 a2 y z: Blk) (B r: List Blk) (c4 c5 c6: AV) (fst: ByteArray) (on: List DCond) (st: NmSt) (K: AV → List Blk → Prop),fst.size ≤ 1000 → fitsF (rowN p.Enums n) p.Enums e on = true → bnd on st (parts e).length (frN e) →
 (∀ r',K (plN p k fst e on st).1.enc (HN a0 a1 a2 y z B p (k: Int) c4 c5 c6 (plN p k fst e on st).2 fst (r ++ r'))) → ACall Tryz.prog 62 [.ptr 3 0,e.enc,.lst 2 (on.map DCond.enc) none] (HN a0 a1 a2 y z B p (k: Int) c4 c5 c6 st fst r) K
def AtomK (e: Ex): Prop := ∀ (a0 a1 a2 y z: Blk) (B r: List Blk) (c4 c5 c6: AV) (fst: ByteArray) (on: List DCond) (st: NmSt) (K: AV → List Blk → Prop),fst.size ≤ 1000 → fitsF (rowN p.Enums n) p.Enums e on = true → bnd on st (parts e).length (gN e) →
 (∀ r',K (atN p k fst e on st).1.enc (HN a0 a1 a2 y z B p (k: Int) c4 c5 c6 (atN p k fst e on st).2 fst (r ++ r'))) → ACall Tryz.prog 93 [.ptr 3 0,e.enc,.lst 2 (on.map DCond.enc) none] (HN a0 a1 a2 y z B p (k: Int) c4 c5 c6 st fst r) K
def EachK (l: List Ex): Prop := ∀ (a0 a1 a2 y z: Blk) (B r: List Blk) (c4 c5 c6: AV) (fst: ByteArray) (on: List DCond) (st: NmSt) (K: AV → List Blk → Prop),fst.size ≤ 1000 → fitsL (rowN p.Enums n) p.Enums l on = true → bnd on st (partsL l).length (frL l) →
 (∀ r',K (.lst 2 ((eaN p k fst l on st).1.map DAtom.enc) none) (HN a0 a1 a2 y z B p (k: Int) c4 c5 c6 (eaN p k fst l on st).2 fst (r ++ r'))) → ACall Tryz.prog 92 [.lst 6 (l.map Ex.enc) none,.lst 2 (on.map DCond.enc) none,.fn (.func 93) [.ptr 3 0] []] (HN a0 a1 a2 y z B p (k: Int) c4 c5 c6 st fst r) K
end
section
variable {p: DProg} {k: Nat} {n: DNode}
theorem finKe {T: TypeId → TI} {s: List AV} {h: List Blk} {rs: List ResultVar} {K: AV → List Blk → Prop} {x: AV} (r: AV) (hl: resAV T s h rs = some [x]) (e: x = r) (hK: K r h): FinK T rs K s h := by
 subst e
 exact finK hl hK
theorem atom_leaf {e: Ex} (hl: leafK e.kind = true): AtomK p k n e := by
 intro a0 a1 a2 y z B r c4 c5 c6 fst on st K hs hf hb hK
 have hk: e.kind = 1 ∨ e.kind = 2 ∨ e.kind = 3 ∨ e.kind = 4 := by unfold leafK at hl; exact of_decide_eq_true hl
 have hat: atN p k fst e on st = (leafA (vaN p) e,st) := by unfold atN atomN; rw [if_pos hl]
 rw [hat] at hK
 unfold leafA at hK
 refine acallK_of_vc tabOK Tryz.func93 (by kernel_rfl) rfl (n := 39) rfl (rs := [.cell 6 51]) rfl ?_
 by_cases h3: e.kind = 3
 ·
  rw [if_pos h3] at hK
  repeat' first
   | simp only [go_sem]
   | refine brK_dec (fun _ => ?_) (fun _ => ?_)
   | (exfalso; omega)
   | exact finKe (⟨e.name,0⟩: DAtom).enc (by simp only [go_sem]; rfl) (by rw [DAtom.enc_eq]) (by simpa using hK _)
 ·
  rw [if_neg h3] at hK
  by_cases h4: e.kind = 4
  ·
   rw [if_pos h4] at hK
   repeat' first
    | simp only [go_sem]
    | refine brK_dec (fun _ => ?_) (fun _ => ?_)
    | (exfalso; omega)
    | refine value132 _ ?_
    | exact finKe (⟨⟨#[]⟩,vaN p e.name⟩: DAtom).enc (by simp only [go_sem]; rfl) (by rw [DAtom.enc_eq]) (by simpa using hK _)
  ·
   rw [if_neg h4] at hK
   repeat' first
    | simp only [go_sem]
    | refine brK_dec (fun _ => ?_) (fun _ => ?_)
    | (exfalso; omega)
    | exact finKe (⟨⟨#[]⟩,e.n⟩: DAtom).enc (by simp only [go_sem]; rfl) (by rw [DAtom.enc_eq]) (by simpa using hK _)
theorem atom_of (hty: ∀ n ∈ p.Nodes,tyOK p n) {e: Ex} (hp: ∀ y ∈ parts e,partE y = true) (hok: okE e) (h: PlainK p k n e): AtomK p k n e := by
 by_cases hl: leafK e.kind = true
 ·
  exact atom_leaf hl
 intro a0 a1 a2 y z B r c4 c5 c6 fst on st K hs hf hb hK
 have hk: ¬ e.kind = 1 ∧ ¬ e.kind = 2 ∧ ¬ e.kind = 3 ∧ ¬ e.kind = 4 := by
  unfold leafK at hl
  simp only [decide_eq_true_eq,not_or] at hl
  exact hl
 have hat: atN p k fst e on st = freshN (nmN fst) (plN p k fst e on st).1 (tyN p (k: Int) e) on (plN p k fst e on st).2 := by unfold atN atomN; rw [if_neg hl]
 rw [hat] at hK
 have hg: gN e = frN e + 1 := by unfold gN; rw [if_neg hl]
 rw [hg] at hb
 obtain ⟨b1,b2,b3,b4⟩ := hb
 have g: grewN st (plN p k fst e on st).2 (frN e) := plain_grew (nmN fst) (tyN p (k: Int)) (cnN p) (vaN p) (fiN p) e hp on st
 have h1 := fun (r: List Blk) (K: AV → List Blk → Prop) => h a0 a1 a2 y z B r c4 c5 c6 fst on st K hs hf ⟨b1,by omega,by omega,by omega⟩
 generalize plN p k fst e on st = R at h1 hK g
 obtain ⟨q,st1⟩ := R
 obtain ⟨g1,g2,g3⟩ := g
 dsimp only at h1 hK g1 g2 g3
 refine acallK_of_vc tabOK Tryz.func93 (by kernel_rfl) rfl (n := 39) rfl (rs := [.cell 6 51]) rfl ?_
 repeat' first
  | simp only [go_sem]
  | refine brK_dec (fun _ => ?_) (fun _ => ?_)
  | (exfalso; omega)
 refine h1 _ _ fun r1 => ?_
 simp only [go_sem]
 refine drawM [3,B.length + 9,B.length + (r.length + 3) + 8] (.pur 0 (.pur 1 (.pur 2 (.pur 3 (.pur 5 (.eff 4 (.eff 6 (.eff 7 .nil)))))))) mo (by kernel_rfl) ?_
 simp only [go_sem]
 refine ty97 e hty hp hok ?_
 simp only [go_sem]
 refine fresh133 q (tyN p (k: Int) e) on hs (by omega) (by omega) (by omega) fun r2 => ?_
 simp only [go_sem]
 refine finKw (r := (freshN (nmN fst) q (tyN p (k: Int) e) on st1).1.enc) (by simp only [go_sem]; rfl) (by rw [DAtom.enc_eq]; exact .refl _) ?_
 exact hK _
end
end Go.Proofs.YtpamokpmlplopaaGreatDoor
namespace Go.Proofs.YtpamokpmlplopaaGreatDoor
open Go.Abs
set_option maxRecDepth 20000
set_option linter.unusedSimpArgs false
set_option linter.unusedVariables false
set_option maxHeartbeats 1000000
attribute [local irreducible] vc vcOps vcStep vcGuard prK hrK gK gsK brK callK ElemK SeqK BlockK ScopeK OpsK CallK LoopK LoopGo finPost ACall PCall PCallE BCall vqOps vqStep vqGuard qrK heK pcK gqK gqsK QOpsK qcallK DrawK
theorem partsL_in {l: List Ex} {x: Ex} (h: x ∈ l): (parts x).length ≤ (partsL l).length := by
 induction l with
 | nil => cases h
 | cons a l ih =>
  rw [partsL,List.length_append]
  rcases List.mem_cons.1 h with rfl | h
  ·
   omega
  ·
   have := ih h
   omega
theorem frL_at {l: List Ex} {i: Nat} {x: Ex} (h: l[i]? = some x): frL (l.take i) + gN x ≤ frL l := by
 have e: l = l.take i ++ x :: l.drop (i + 1) := by
  have hi := (List.getElem?_eq_some_iff.1 h).1
  have hx := (List.getElem?_eq_some_iff.1 h).2
  rw [← hx,← List.drop_eq_getElem_cons hi,List.take_append_drop]
 have: frL l = frL (l.take i) + (gN x + frL (l.drop (i + 1))) := by
  conv => lhs; rw [e]
  rw [frL_append,frL_cons]
 omega
section
variable {p: DProg} {k: Nat} {n: DNode}
theorem eaN_next {fst: ByteArray} {l: List Ex} {on: List DCond} {st: NmSt} {i: Nat} {x: Ex} (h: l[i]? = some x) :
  eaN p k fst (l.take (i + 1)) on st = ((eaN p k fst (l.take i) on st).1 ++ [(atN p k fst x on (eaN p k fst (l.take i) on st).2).1],(atN p k fst x on (eaN p k fst (l.take i) on st).2).2) := by
 rw [List.take_add_one,h]
 unfold eaN atN
 rw [eachN_append]
 show (_ ++ (eachN _ _ _ _ _ [x] _ _).1,(eachN _ _ _ _ _ [x] _ _).2) = _
 rw [eachN_cons,eachN_nil]
theorem each_of {l: List Ex} (hl: l.length ≤ 1000) (hx: ∀ x ∈ l,AtomK p k n x) (hp: ∀ x ∈ l,∀ y ∈ parts x,partE y = true): EachK p k n l := by
 intro a0 a1 a2 y z B r c4 c5 c6 fst on st K hs hf hb hK
 obtain ⟨b1,b2,b3,b4⟩ := hb
 have hlen: ∀ i,(eaN p k fst (l.take i) on st).1.length = (l.take i).length := fun i => eachN_len _ _ _ _ _ _ _ _
 refine acallK_of_vc tabOK Tryz.func92 (by kernel_rfl) rfl (n := 25) rfl (rs := [.tmp 6]) rfl ?_
 simp only [go_sem]
 intro _
 refine loop_ghost (ghost_tok 7 51 2 rfl) ?_
 simp only [go_sem]
 refine loop_fr [7,9,12,13,14,15,16,17,18,19,20,21,22,23] (fun m C hh => ∃ (i: Nat) (r': List Blk),i ≤ l.length ∧ m = l.length - i ∧
  C = [(12,.raw (.int .i64 (i: Nat))),(7,.lst 2 ((eaN p k fst (l.take i) on st).1.map DAtom.enc) (some (B.length + (r.length + 1 + 1) + 1 + 1 + 1 + 1 + 1 + 1 + 1 + 1)))] ∧
  hh = HN a0 a1 a2 y z B p (k: Int) c4 c5 c6 (eaN p k fst (l.take i) on st).2 fst (r ++ .tok 51 2 (eaN p k fst (l.take i) on st).1.length :: r')) l.length _ ⟨0,[],by omega,by omega,rfl,by rw [List.take_zero]; unfold eaN; rw [eachN_nil]; rfl⟩ (.cons rfl (.cons (by rw [List.take_zero]; unfold eaN; rw [eachN_nil]; rfl) .nil)) ?_
 rintro m C j hh ⟨i,r',hi,rfl,rfl,rfl⟩
 simp only [go_sem]
 refine brK_dec (fun hlt => ?_) (fun hge => ?_)
 ·
  obtain ⟨x,hq⟩: ∃ x,l[i]? = some x := ⟨_,List.getElem?_eq_getElem (by omega)⟩
  have hxm := List.mem_of_getElem? hq
  have hfx: fitsF (rowN p.Enums n) p.Enums x on = true := by
   rw [fitsL_all,List.all_eq_true] at hf
   exact hf x hxm
  have g: grewN st (eaN p k fst (l.take i) on st).2 (frL (l.take i)) := each_grew (nmN fst) (tyN p (k: Int)) (cnN p) (vaN p) (fiN p) (fun y hy => hp y (List.mem_of_mem_take hy)) on st
  have hfr := frL_at hq
  have hpl := partsL_in hxm
  have hll := hlen i
  have hnx := eaN_next (p := p) (k := k) (fst := fst) (on := on) (st := st) hq
  have h1 := fun st1 (h: grewN st st1 (frL (l.take i))) r K => hx x hxm a0 a1 a2 y z B r c4 c5 c6 fst on st1 K hs hfx ⟨by omega,by have := h.1; omega,by have := h.2.1; omega,by have := h.2.2; omega⟩
  generalize eaN p k fst (l.take i) on st = R at g hll hnx ⊢
  obtain ⟨as1,st1⟩ := R
  dsimp only at g hll hnx
  have h1 := h1 st1 g
  simp only [go_sem]
  refine elemHave (x := x) (by omega) (by simpa using hq) ?_
  simp only [go_sem]
  refine h1 _ _ fun r2 => ?_
  generalize atN p k fst x on st1 = A at hnx ⊢
  obtain ⟨a,st2⟩ := A
  dsimp only at hnx ⊢
  simp only [go_sem]
  rw [List.length_take] at hll
  refine And.intro (by first | omega | (simp <;> omega)) ?_
  refine loopFr _ (by omega) ⟨i + 1,_,by omega,rfl,rfl,by rw [hnx]; simp; rfl⟩ (.next rfl (by omega) (.cons (by rw [hnx]; simp) .nil)) rfl
 ·
  rw [List.take_of_length_le (by omega)]
  simp only [go_sem]
  refine ⟨_,rfl,_,.tok _ _ _,?_⟩
  exact hK _
end
end Go.Proofs.YtpamokpmlplopaaGreatDoor
namespace Go.Proofs.YtpamokpmlplopaaGreatDoor
open Go.Abs
set_option maxRecDepth 20000
set_option linter.unusedSimpArgs false
set_option linter.unusedVariables false
set_option maxHeartbeats 1000000
attribute [local irreducible] vc vcOps vcStep vcGuard prK hrK gK gsK brK callK ElemK SeqK BlockK ScopeK OpsK CallK LoopK LoopGo finPost ACall PCall PCallE BCall vqOps vqStep vqGuard qrK heK pcK gqK gqsK QOpsK qcallK DrawK
section
variable (p: DProg) (k: Nat) (n: DNode)
def PlF (f: Nat) (e: Ex): Prop := ∀ (a0 a1 a2 y z: Blk) (B r: List Blk) (c4 c5 c6: AV) (fst: ByteArray) (on: List DCond) (st: NmSt) (K: AV → List Blk → Prop),fst.size ≤ 1000 → fitsF (rowN p.Enums n) p.Enums e on = true → bnd on st (parts e).length (frN e) →
 (∀ r',K (plN p k fst e on st).1.enc (HN a0 a1 a2 y z B p (k: Int) c4 c5 c6 (plN p k fst e on st).2 fst (r ++ r'))) → ACall Tryz.prog f [.ptr 3 0,e.enc,.lst 2 (on.map DCond.enc) none] (HN a0 a1 a2 y z B p (k: Int) c4 c5 c6 st fst r) K
end
section
variable {p: DProg} {k: Nat} {n: DNode}
theorem plN_9 {fst: ByteArray} {e: Ex} {on: List DCond} {st: NmSt} (h: e.kind = 9): plN p k fst e on st =
  (plain0 4 0 ((freshN (nmN fst) { plain0 5 0 [noAtom] with Init := [1] } tyB on st).1 :: (eaN p k fst e.subs on (freshN (nmN fst) { plain0 5 0 [noAtom] with Init := [1] } tyB on st).2).1),
   (eaN p k fst e.subs on (freshN (nmN fst) { plain0 5 0 [noAtom] with Init := [1] } tyB on st).2).2) := by
 unfold plN
 rw [plainN_eq]
 simp [frstN,argsN,onN,headN,h]
theorem arrow98 {e: Ex} (h9: e.kind = 9) (hE: EachK p k n e.subs): PlF p k n 98 e := by
 intro a0 a1 a2 y z B r c4 c5 c6 fst on st K hs hf hb hK
 obtain ⟨b1,b2,b3,b4⟩ := hb
 rw [frN_eq,if_pos h9,if_neg (by omega)] at b2 b3 b4
 rw [parts_lenC] at b1
 have hfL: fitsL (rowN p.Enums n) p.Enums e.subs on = true := by rw [fitsF_eq] at hf; simpa [h9] using hf
 rw [plN_9 h9] at hK
 refine acallK_of_vc tabOK Tryz.func98 (by kernel_rfl) rfl (n := 29) rfl (rs := [.cell 6 53]) rfl ?_
 simp only [go_sem]
 refine ACall.weakA (args := [.ptr 3 0,.lst 1 ([(1: Int)].map AV.i) none,.lst 2 ([noAtom].map DAtom.enc) none]) ⟨.refl _,.tok _ _ _,by rw [List.map_cons,List.map_nil,DAtom.enc_eq]; exact .tok _ _ _,trivial⟩ ?_
 refine delay95 [1] [noAtom] fun r1 => ?_
 generalize hq: ({ plain0 5 0 [noAtom] with Init := [1] }: DPlain) = q at hK ⊢
 simp only [go_sem]
 refine ACall.weakA (args := [.ptr 3 0,q.enc,tyB.enc,.lst 2 (on.map DCond.enc) none]) ⟨.refl _,.refl _,by rw [DTy.enc_eq]; exact .refl _,.refl _,trivial⟩ ?_
 refine fresh133 q tyB on hs (by omega) (by omega) (by omega) fun r2 => ?_
 have g := grewN.fresh (nmN fst) q tyB on st
 generalize freshN (nmN fst) q tyB on st = F at hK g ⊢
 obtain ⟨f,st1⟩ := F
 obtain ⟨g1,g2,g3⟩ := g
 dsimp only at hK g1 g2 g3 ⊢
 simp only [go_sem]
 refine hE a0 a1 a2 y z B _ c4 c5 c6 fst on st1 _ hs hfL ⟨by omega,by omega,by omega,by omega⟩ fun r3 => ?_
 have hlen: (eaN p k fst e.subs on st1).1.length = e.subs.length := eachN_len _ _ _ _ _ _ _ _
 have hsl: e.subs.length ≤ (partsL e.subs).length := by
  generalize e.subs = l
  induction l with
  | nil => simp
  | cons x l ih => rw [partsL,List.length_append,parts_lenC,List.length_cons]; omega
 generalize eaN p k fst e.subs on st1 = G at hK hlen ⊢
 obtain ⟨ats,st2⟩ := G
 dsimp only at hK hlen ⊢
 simp only [go_sem]
 refine And.intro (by first | omega | (simp <;> omega)) ?_
 refine finKw (r := (plain0 4 0 (f :: ats)).enc) (by simp only [go_sem]; rfl) ?_ (hK _)
 rw [DPlain.enc_eq]
 exact Weak.aggs ⟨.refl _,.nil _,.refl _,.tok _ _ _,.nil _,.refl _,.refl _,.refl _,.refl _,.nil _,trivial⟩
end
end Go.Proofs.YtpamokpmlplopaaGreatDoor
namespace Go.Proofs.YtpamokpmlplopaaGreatDoor
open Go.Abs
set_option maxRecDepth 20000
set_option linter.unusedSimpArgs false
set_option linter.unusedVariables false
set_option maxHeartbeats 1000000
attribute [local irreducible] vc vcOps vcStep vcGuard prK hrK gK gsK brK callK ElemK SeqK BlockK ScopeK OpsK CallK LoopK LoopGo finPost ACall PCall PCallE BCall vqOps vqStep vqGuard qrK heK pcK gqK gqsK QOpsK qcallK DrawK
section
variable (p: DProg) (k: Nat) (n: DNode)
noncomputable abbrev meN (fst: ByteArray) (m: ByteArray) (cs: List ByteArray) (l: List Ex) (on: List DCond) (st: NmSt): List DAtom × NmSt := mergeN (nmN fst) (tyN p (k: Int)) (cnN p) (vaN p) (fiN p) m cs l on st
end
section
variable {p: DProg} {k: Nat} {n: DNode}
theorem plN_12 {fst: ByteArray} {e: Ex} {on: List DCond} {st: NmSt} (h: e.kind = 12): plN p k fst e on st =
  (plain0 6 0 (⟨e.name,0⟩ :: (meN p k fst e.name e.arms e.subs on st).1),(meN p k fst e.name e.arms e.subs on st).2) := by
 unfold plN
 rw [plainN_eq]
 simp [frstN,argsN,headN,h]
theorem meN_nil {fst m: ByteArray} {on: List DCond} {st: NmSt}: meN p k fst m [] [] on st = ([],st) := by unfold meN; rw [mergeN]
theorem meN_snoc {fst m c: ByteArray} {x: Ex} {on: List DCond}: ∀ {cs: List ByteArray} {l: List Ex} {st: NmSt},cs.length = l.length →
  meN p k fst m (cs ++ [c]) (l ++ [x]) on st = ((meN p k fst m cs l on st).1 ++ [(atN p k fst x (on ++ [⟨m,vaN p c⟩]) (meN p k fst m cs l on st).2).1],(atN p k fst x (on ++ [⟨m,vaN p c⟩]) (meN p k fst m cs l on st).2).2)
 | [],[],st,_ => by
  rw [meN_nil]
  show meN p k fst m [c] [x] on st = _
  unfold meN
  rw [mergeN_cons,mergeN]
  rfl
 | d :: cs,y :: l,st,h => by
  have ih := meN_snoc (fst := fst) (m := m) (c := c) (x := x) (on := on) (cs := cs) (l := l) (st := (atN p k fst y (on ++ [⟨m,vaN p d⟩]) st).2) (by simpa using h)
  unfold meN at ih ⊢
  rw [List.cons_append,List.cons_append,mergeN_cons,mergeN_cons,ih]
  rfl
theorem meN_next {fst m c: ByteArray} {cs: List ByteArray} {l: List Ex} {on: List DCond} {st: NmSt} {i: Nat} {x: Ex} (hl: cs.length = l.length) (hc: cs[i]? = some c) (h: l[i]? = some x) :
  meN p k fst m (cs.take (i + 1)) (l.take (i + 1)) on st = ((meN p k fst m (cs.take i) (l.take i) on st).1 ++ [(atN p k fst x (on ++ [⟨m,vaN p c⟩]) (meN p k fst m (cs.take i) (l.take i) on st).2).1],(atN p k fst x (on ++ [⟨m,vaN p c⟩]) (meN p k fst m (cs.take i) (l.take i) on st).2).2) := by
 rw [List.take_add_one,List.take_add_one,h,hc]
 exact meN_snoc (by rw [List.length_take,List.length_take,hl])
theorem meN_len {fst m: ByteArray} {on: List DCond}: ∀ {cs: List ByteArray} {l: List Ex} {st: NmSt},cs.length = l.length → (meN p k fst m cs l on st).1.length = l.length
 | [],[],st,_ => by rw [meN_nil]; rfl
 | d :: cs,y :: l,st,h => by
  have ih := meN_len (fst := fst) (m := m) (on := on) (cs := cs) (l := l) (st := (atN p k fst y (on ++ [⟨m,vaN p d⟩]) st).2) (by simpa using h)
  unfold meN at ih ⊢
  rw [mergeN_cons]
  simpa using ih
theorem merge99 {e: Ex} (h12: e.kind = 12) (hal: e.arms.length = e.subs.length) (hp: ∀ x ∈ e.subs,∀ y ∈ parts x,partE y = true) (hx: ∀ x ∈ e.subs,AtomK p k n x): PlF p k n 99 e := by
 intro a0 a1 a2 y z B r c4 c5 c6 fst on st K hs hf hb hK
 obtain ⟨b1,b2,b3,b4⟩ := hb
 rw [frN_eq,if_neg (by omega),if_neg (by omega),Nat.zero_add] at b2 b3 b4
 rw [parts_lenC] at b1
 have hfM: fitsM (rowN p.Enums n) p.Enums e.name e.arms e.subs on = true := by rw [fitsF_eq] at hf; simp [h12] at hf; exact hf.2
 rw [plN_12 h12] at hK
 refine acallK_of_vc tabOK Tryz.func99 (by kernel_rfl) rfl (n := 47) rfl (rs := [.cell 6 53]) rfl ?_
 simp only [go_sem]
 intro _
 have hlen: ∀ i,(meN p k fst e.name (e.arms.take i) (e.subs.take i) on st).1.length = (e.subs.take i).length := fun i => meN_len (by rw [List.length_take,List.length_take,hal])
 have hsl: e.subs.length ≤ (partsL e.subs).length := by
  generalize e.subs = l
  induction l with
  | nil => simp
  | cons x l ih => rw [partsL,List.length_append,parts_lenC,List.length_cons]; omega
 refine loop_fr [7,8,9,10,18,19,20,21,22,23,24,25,26,27,28,29,30,31,32,33,34,35,36,37,38,39,40,41,42,43,44] (fun mm C hh => ∃ (i: Nat) (r': List Blk),i ≤ e.arms.length ∧ mm = e.arms.length - i ∧
  C = [(18,.raw (.int .i64 (i: Nat))),(7,.lst 2 (((⟨e.name,0⟩: DAtom) :: (meN p k fst e.name (e.arms.take i) (e.subs.take i) on st).1).map DAtom.enc) (some (B.length + (r.length + 2 + 1 + 1) + 1 + 1 + 1 + 1 + 1 + 1 + 1 + 1)))] ∧
  hh = HN a0 a1 a2 y z B p (k: Int) c4 c5 c6 (meN p k fst e.name (e.arms.take i) (e.subs.take i) on st).2 fst (r ++ .cells 72 [.i e.kind,.i e.n,.s e.name,.i e.op,.lst 1 (e.arms.map AV.s) none,.lst 6 (e.subs.map Ex.enc) none] :: .cells 53 [.i 0,.raw (.slice none 0 0),.i 0,.raw (.slice none 0 0),.raw (.slice none 0 0),.i 0,.b false,.s ⟨#[]⟩,.i 0,.raw (.slice none 0 0)] :: .tok 51 2 ((meN p k fst e.name (e.arms.take i) (e.subs.take i) on st).1.length + 1) :: r')) e.arms.length _
  ⟨0,[],by omega,by omega,rfl,by rw [List.take_zero,List.take_zero,meN_nil]; rfl⟩ (.cons rfl (.cons (by rw [List.take_zero,List.take_zero,meN_nil,List.map_cons,DAtom.enc_eq]; rfl) .nil)) ?_
 rintro mm C j hh ⟨i,r',hi,rfl,rfl,rfl⟩
 simp only [go_sem]
 refine brK_dec (fun hlt => ?_) (fun hge => ?_)
 ·
  obtain ⟨c,hcq⟩: ∃ c,e.arms[i]? = some c := ⟨_,List.getElem?_eq_getElem (by omega)⟩
  obtain ⟨x,hq⟩: ∃ x,e.subs[i]? = some x := ⟨_,List.getElem?_eq_getElem (by omega)⟩
  have hxm := List.mem_of_getElem? hq
  have hfx: fitsF (rowN p.Enums n) p.Enums x (on ++ [⟨e.name,vaN p c⟩]) = true := (fitsM_at hfM hcq hq).2
  have g: grewN st (meN p k fst e.name (e.arms.take i) (e.subs.take i) on st).2 (frL (e.subs.take i)) :=
   merge_grew_of (nmN fst) (tyN p (k: Int)) (cnN p) (vaN p) (fiN p) (fun y hy => plain_grew (nmN fst) (tyN p (k: Int)) (cnN p) (vaN p) (fiN p) y (hp y (List.mem_of_mem_take hy))) e.name _ (by rw [List.length_take,List.length_take,hal]) on st
  have hfr := frL_at hq
  have hpl := partsL_in hxm
  have hll := hlen i
  have hnx := meN_next (p := p) (k := k) (fst := fst) (m := e.name) (on := on) (st := st) hal hcq hq
  have h1 := fun st1 (h: grewN st st1 (frL (e.subs.take i))) r K => hx x hxm a0 a1 a2 y z B r c4 c5 c6 fst (on ++ [⟨e.name,vaN p c⟩]) st1 K hs hfx ⟨by rw [List.length_append,List.length_singleton]; omega,by have := h.1; omega,by have := h.2.1; omega,by have := h.2.2; omega⟩
  generalize meN p k fst e.name (e.arms.take i) (e.subs.take i) on st = R at g hll hnx ⊢
  obtain ⟨as1,st1⟩ := R
  dsimp only at g hll hnx
  have h1 := h1 st1 g
  rw [List.length_take] at hll
  generalize atN p k fst x (on ++ [⟨e.name,vaN p c⟩]) st1 = A at hnx h1
  obtain ⟨a,st2⟩ := A
  dsimp only at hnx h1
  simp only [go_sem]
  refine elemHave (x := c) (by omega) (by simpa using hcq) ?_
  simp only [go_sem]
  refine drawM [] (.pur 0 (.pur 1 (.pur 2 (.pur 3 (.two 4 (.pur 5 (.eff 6 (.eff 7 .nil))) 6 (.eff 4 (.pur 5 (.eff 7 .nil)))))))) mo (by kernel_rfl) ?_
  simp only [go_sem]
  refine And.intro ?_ ?_
  all_goals
   refine value132 c ?_
   simp only [go_sem]
   refine drawM [3,B.length + 9] (.pur 0 (.pur 1 (.pur 2 (.pur 3 (.pur 4 (.pur 5 (.pur 6 (.pur 7 (.pur 9 (.two 8 (.eff 10 (.eff 11 (.eff 12 (.eff 13 (.eff 14 (.pur 15 .nil)))))) 10 (.eff 8 (.eff 11 (.eff 12 (.eff 13 (.eff 14 (.pur 15 .nil)))))))))))))))) mo (by kernel_rfl) ?_
   simp only [go_sem]
   refine elemHave (x := x) (by omega) (by simpa using hq) ?_
   repeat' first
    | simp only [go_sem]
    | refine cloneC on (by omega) ?_
    | (refine ACall.weakA (args := [.ptr 3 0,x.enc,.lst 2 ((on ++ [(⟨e.name,vaN p c⟩: DCond)]).map DCond.enc) none]) ⟨.refl _,.refl _,by rw [List.map_append,List.map_cons,List.map_nil,DCond.enc_eq]; exact .tok _ _ _,trivial⟩ ?_; refine h1 _ _ fun r2 => ?_)
    | refine And.intro (by first | omega | (simp; done) | (simp; omega)) ?_
    | refine And.intro ?_ ?_
    | exact loopFr _ (by omega) ⟨i + 1,_,by omega,rfl,rfl,by rw [hnx]; simp; rfl⟩ (.next rfl (by omega) (.cons (by rw [hnx]; simp) .nil)) rfl
 ·
  rw [List.take_of_length_le (by omega),List.take_of_length_le (by omega)]
  simp only [go_sem]
  refine finKw (r := (plain0 6 0 (⟨e.name,0⟩ :: (meN p k fst e.name e.arms e.subs on st).1)).enc) (by simp only [go_sem]; rfl) ?_ (hK _)
  rw [DPlain.enc_eq]
  exact Weak.aggs ⟨.refl _,.nil _,.refl _,.tok _ _ _,.nil _,.refl _,.refl _,.refl _,.refl _,.nil _,trivial⟩
end
end Go.Proofs.YtpamokpmlplopaaGreatDoor
namespace Go.Proofs.YtpamokpmlplopaaGreatDoor
open Go.Abs
set_option maxRecDepth 20000
set_option linter.unusedSimpArgs false
set_option linter.unusedVariables false
set_option maxHeartbeats 1000000
attribute [local irreducible] vc vcOps vcStep vcGuard prK hrK gK gsK brK callK ElemK SeqK BlockK ScopeK OpsK CallK LoopK LoopGo finPost ACall PCall PCallE BCall vqOps vqStep vqGuard qrK heK pcK gqK gqsK QOpsK qcallK DrawK
theorem cellsZ_le (t: DTy): 1 ≤ cellsZ t ∧ cellsZ t ≤ 8 := by
 unfold cellsZ
 split
 ·
  omega
 ·
  split <;> omega
theorem cells137 (t: DTy): PCall Tryz.prog 137 [t.enc] (.i ((cellsZ t: Nat): Int)) := by
 refine pcall_of_vc tabOK Tryz.func137 (by kernel_rfl) rfl pureL pureI (n := 7) rfl (rs := [.tmp 2]) rfl ?_
 simp only [go_sem]
 refine finIq rfl ?_
 unfold cellsZ
 split <;> split <;> omega
theorem cells180 (t: DTy): PCall Tryz.prog 180 [t.enc] (.i ((cellsZ t: Nat): Int)) := by
 refine pcall_of_vc tabOK Tryz.func180 (by kernel_rfl) rfl pureL pureI (n := 11) rfl (rs := [.tmp 2]) rfl ?_
 have h: ((cellsZ t: Nat): Int) = if t.Len < 1 then 1 else if t.Len > 8 then 8 else t.Len := by
  unfold cellsZ
  split
  ·
   rfl
  ·
   split <;> omega
 rw [h]
 repeat' first
  | simp only [go_sem]
  | refine brK_dec (fun _ => ?_) (fun _ => ?_)
  | (refine finIq rfl ?_; simp [*]; done)
  | (refine finIq rfl ?_; simp [*]; omega)
  | (refine finIq rfl ?_; omega)
theorem zero96 (t: DTy): PCall Tryz.prog 96 [t.enc] (.lst 1 ((List.replicate (cellsZ t) (0: Int)).map AV.i) none) := by
 have h := cellsZ_le t
 have hc := cells137 t
 generalize cellsZ t = n at h hc
 refine pcall_of_vc tabOK Tryz.func96 (by kernel_rfl) rfl pureL pureI (n := 6) rfl (rs := [.tmp 2]) rfl ?_
 simp only [go_sem]
 refine PCall.call hc ?_
 simp only [go_sem]
 refine And.intro (by omega) ?_
 refine ⟨_,rfl,true,?_⟩
 show Weak (frz [.cells 42 [.i t.Kind,.i t.Enum,.i t.Len],.cells 2 (List.replicate n (.raw (.int .i64 0)))] (.sl 1 1 0 n)) _
 have e: frz [.cells 42 [.i t.Kind,.i t.Enum,.i t.Len],.cells 2 (List.replicate n (.raw (.int .i64 0)))] (.sl 1 1 0 n) = .lst 1 ((List.replicate n (0: Int)).map AV.i) none := by
  simp [frz,AV.one,AV.cells,Value.oneCell']
 rw [e]
 exact .refl _
theorem zero143 (t: DTy): PCall Tryz.prog 143 [t.enc] (.lst 1 ((List.replicate (cellsZ t) (0: Int)).map AV.i) none) := by
 have h := cellsZ_le t
 have hc := cells180 t
 generalize cellsZ t = n at h hc
 refine pcall_of_vc tabOK Tryz.func143 (by kernel_rfl) rfl pureL pureI (n := 16) rfl (rs := [.tmp 2]) rfl ?_
 simp only [go_sem]
 refine loop_fr [3,4,6,7,8,9,10,11,12,13,14] (fun mm C hh => ∃ (i: Nat) (r': List Blk),i ≤ n ∧ mm = n - i ∧ C = [(4,.raw (.int .i64 (i: Nat))),(3,.lst 1 ((List.replicate i (0: Int)).map AV.i) (some 1))] ∧
  hh = .cells 42 [.i t.Kind,.i t.Enum,.i t.Len] :: .tok 2 1 i :: r') n _ ⟨0,[],by omega,by omega,rfl,rfl⟩ (.cons rfl (.cons rfl .nil)) ?_
 rintro mm C j hh ⟨i,r',hi,rfl,rfl,rfl⟩
 simp only [go_sem]
 refine PCall.call hc ?_
 simp only [go_sem]
 refine brK_dec (fun hlt => ?_) (fun hge => ?_)
 ·
  simp only [go_sem]
  refine And.intro (by first | omega | (simp; done) | (simp; omega)) ?_
  exact loopFr _ (by omega) ⟨i + 1,_,by omega,rfl,rfl,by simp; rfl⟩ (.next rfl (by omega) (.cons (by rw [List.replicate_succ',List.map_append]; rfl) .nil)) rfl
 ·
  obtain rfl: i = n := by omega
  simp only [go_sem]
  exact ⟨_,rfl,false,.tok _ _ _⟩
end Go.Proofs.YtpamokpmlplopaaGreatDoor
namespace Go.Proofs.YtpamokpmlplopaaGreatDoor
open Go.Abs
set_option maxRecDepth 20000
set_option linter.unusedSimpArgs false
set_option linter.unusedVariables false
set_option maxHeartbeats 1000000
attribute [local irreducible] vc vcOps vcStep vcGuard prK hrK gK gsK brK callK ElemK SeqK BlockK ScopeK OpsK CallK LoopK LoopGo finPost ACall PCall PCallE BCall vqOps vqStep vqGuard qrK heK pcK gqK gqsK QOpsK qcallK DrawK
section
variable {p: DProg} {k: Nat} {n: DNode}
theorem plN_13 {fst: ByteArray} {e: Ex} {on: List DCond} {st: NmSt} (h: e.kind = 13): plN p k fst e on st =
  (if e.n = 1 then { plain0 7 0 ((eaN p k fst e.subs on st).1.take ((eaN p k fst e.subs on st).1.length - 1)) with Node := findF p e.name,Reset := true,Every := (eaN p k fst e.subs on st).1.getLastD noAtom } else { plain0 7 0 (eaN p k fst e.subs on st).1 with Node := findF p e.name },(eaN p k fst e.subs on st).2) := by
 unfold plN
 rw [plainN_eq]
 simp [frstN,argsN,onN,headN,h,fiN]
theorem subs_le2 (l: List Ex): l.length ≤ (partsL l).length := by
 induction l with
 | nil => simp
 | cons x l ih => rw [partsL,List.length_append,parts_lenC,List.length_cons]; omega
theorem call100 {e: Ex} (h13: e.kind = 13) (hn: e.n = 0 ∨ e.n = 1) (hsn: e.n ≤ e.subs.length) (hp: ∀ x ∈ e.subs,∀ y ∈ parts x,partE y = true) (hx: ∀ x ∈ e.subs,AtomK p k n x): PlF p k n 100 e := by
 intro a0 a1 a2 y z B r c4 c5 c6 fst on st K hs hf hb hK
 obtain ⟨b1,b2,b3,b4⟩ := hb
 rw [frN_eq,if_neg (by omega),if_neg (by omega),Nat.zero_add] at b2 b3 b4
 rw [parts_lenC] at b1
 have hsl := subs_le2 e.subs
 have hfL: fitsL (rowN p.Enums n) p.Enums e.subs on = true := by rw [fitsF_eq] at hf; simpa [h13] using hf
 rw [plN_13 h13] at hK
 obtain ⟨m,hm⟩: ∃ m: Nat,(m: Int) = (e.subs.length: Int) - e.n := ⟨((e.subs.length: Int) - e.n).toNat,by omega⟩
 have hw: IntKind.i64.wrap ((e.subs.length: Int) - e.n) = (m: Int) := by rw [hm,wrap_in _ (by omega) (by omega)]
 have hE: EachK p k n (e.subs.take m) := each_of (by rw [List.length_take]; omega) (fun x h => hx x (List.mem_of_mem_take h)) (fun x h => hp x (List.mem_of_mem_take h))
 have hfT: fitsL (rowN p.Enums n) p.Enums (e.subs.take m) on = true := by
  rw [fitsL_all,List.all_eq_true] at hfL ⊢
  exact fun x h => hfL x (List.mem_of_mem_take h)
 have hfr: frL (e.subs.take m) ≤ frL e.subs := by
  have: frL e.subs = frL (e.subs.take m) + frL (e.subs.drop m) := by rw [← frL_append,List.take_append_drop]
  omega
 have hpr: (partsL (e.subs.take m)).length ≤ (partsL e.subs).length := by
  have: partsL e.subs = partsL (e.subs.take m) ++ partsL (e.subs.drop m) := by
   conv => lhs; rw [← List.take_append_drop m e.subs]
   generalize e.subs.take m = l
   generalize e.subs.drop m = l2
   induction l with
   | nil => rfl
   | cons x l ih => rw [List.cons_append,partsL,partsL,ih,List.append_assoc]
  rw [this,List.length_append]
  omega
 have hE1 := fun r K => hE a0 a1 a2 y z B r c4 c5 c6 fst on st K hs hfT ⟨by omega,by omega,by omega,by omega⟩
 have g: grewN st (eaN p k fst (e.subs.take m) on st).2 (frL (e.subs.take m)) := each_grew (nmN fst) (tyN p (k: Int)) (cnN p) (vaN p) (fiN p) (fun y hy => hp y (List.mem_of_mem_take hy)) on st
 have hll: (eaN p k fst (e.subs.take m) on st).1.length = m := by
  unfold eaN
  rw [eachN_len,List.length_take]
  omega
 rcases hn with hn | hn
 ·
  have hme: m = e.subs.length := by omega
  rw [if_neg (by omega)] at hK
  have hst: e.subs.take m = e.subs := List.take_of_length_le (by omega)
  rw [hst] at hE1 hll
  generalize eaN p k fst e.subs on st = G at hE1 hK hll
  obtain ⟨ats,st1⟩ := G
  dsimp only at hE1 hK hll
  refine acallK_of_vc tabOK Tryz.func100 (by kernel_rfl) rfl (n := 45) rfl (rs := [.cell 6 53]) rfl ?_
  simp only [go_sem,hw]
  intro _
  refine drawM [3,B.length + 9] (.pur 0 (.pur 1 (.pur 2 (.pur 4 (.pur 5 (.pur 7 (.pur 8 (.pur 9 (.pur 10 (.pur 11 (.pur 12 (.pur 13 (.two 3 (.pur 6 (.two 14 (.pur 15 (.eff 16 (.eff 17 .nil))) 16 (.eff 14 (.pur 15 (.eff 17 .nil))))) 16 (.eff 3 (.pur 6 (.eff 14 (.pur 15 (.eff 17 .nil)))))))))))))))))) mo (by kernel_rfl) ?_
  repeat' first
   | simp only [go_sem,Int.toNat_natCast]
   | refine pcK_of (find23 p e.name) ?_
   | (rw [hst]; refine hE1 _ _ fun r1 => ?_)
   | refine brK_dec (fun _ => ?_) (fun _ => ?_)
   | (exfalso; omega)
   | refine And.intro (by first | omega | (simp; done) | (simp; omega)) ?_
   | refine And.intro ?_ ?_
   | exact finKw (r := ({ plain0 7 0 ats with Node := findF p e.name }: DPlain).enc) (by simp only [go_sem]; rfl) (by rw [DPlain.enc_eq]; exact Weak.aggs ⟨.refl _,.nil _,.refl _,.refl _,.nil _,.refl _,.refl _,.refl _,.refl _,.nil _,trivial⟩) (hK _)
 ·
  obtain ⟨x,hq⟩: ∃ x,e.subs[m]? = some x := ⟨_,List.getElem?_eq_getElem (by omega)⟩
  have hxm := List.mem_of_getElem? hq
  have hfx: fitsF (rowN p.Enums n) p.Enums x on = true := by
   rw [fitsL_all,List.all_eq_true] at hfL
   exact hfL x hxm
  have hfr2 := frL_at hq
  have hpl := partsL_in hxm
  have hnx := eaN_next (p := p) (k := k) (fst := fst) (on := on) (st := st) hq
  rw [List.take_of_length_le (i := m + 1) (by omega)] at hnx
  rw [if_pos hn,hnx] at hK
  have h1 := fun st1 (h: grewN st st1 (frL (e.subs.take m))) r K => hx x hxm a0 a1 a2 y z B r c4 c5 c6 fst on st1 K hs hfx ⟨by omega,by have := h.1; omega,by have := h.2.1; omega,by have := h.2.2; omega⟩
  generalize eaN p k fst (e.subs.take m) on st = G at hE1 hK hll g
  obtain ⟨ats,st1⟩ := G
  dsimp only at hE1 hK hll g
  have h1 := h1 st1 g
  generalize atN p k fst x on st1 = A at h1 hK
  obtain ⟨a,st2⟩ := A
  dsimp only at h1 hK
  have e1: (ats ++ [a]).take ((ats ++ [a]).length - 1) = ats := by simp
  have e2: (ats ++ [a]).getLastD noAtom = a := by simp
  rw [e1,e2] at hK
  refine acallK_of_vc tabOK Tryz.func100 (by kernel_rfl) rfl (n := 45) rfl (rs := [.cell 6 53]) rfl ?_
  simp only [go_sem,hw]
  intro _
  refine drawM [3,B.length + 9] (.pur 0 (.pur 1 (.pur 2 (.pur 4 (.pur 5 (.pur 7 (.pur 8 (.pur 9 (.pur 10 (.pur 11 (.pur 12 (.pur 13 (.two 3 (.pur 6 (.two 14 (.pur 15 (.eff 16 (.eff 17 .nil))) 16 (.eff 14 (.pur 15 (.eff 17 .nil))))) 16 (.eff 3 (.pur 6 (.eff 14 (.pur 15 (.eff 17 .nil)))))))))))))))))) mo (by kernel_rfl) ?_
  repeat' first
   | simp only [go_sem,Int.toNat_natCast]
   | refine pcK_of (find23 p e.name) ?_
   | (refine hE1 _ _ fun r1 => ?_)
   | refine brK_dec (fun _ => ?_) (fun _ => ?_)
   | (exfalso; omega)
   | refine elemHave (x := x) (by omega) (by simpa using hq) ?_
   | (refine h1 _ _ fun r2 => ?_)
   | refine And.intro (by first | omega | (simp; done) | (simp; omega)) ?_
   | refine And.intro ?_ ?_
   | exact finKw (r := ({ plain0 7 0 ats with Node := findF p e.name,Reset := true,Every := a }: DPlain).enc) (by simp only [go_sem]; rfl) (by rw [DPlain.enc_eq]; exact Weak.aggs ⟨.refl _,.nil _,.refl _,.refl _,.nil _,.refl _,.refl _,.refl _,.refl _,.nil _,trivial⟩) (hK _)
end
end Go.Proofs.YtpamokpmlplopaaGreatDoor
namespace Go.Proofs.YtpamokpmlplopaaGreatDoor
open Go.Abs
set_option maxRecDepth 20000
set_option linter.unusedSimpArgs false
set_option linter.unusedVariables false
set_option maxHeartbeats 1000000
attribute [local irreducible] vc vcOps vcStep vcGuard prK hrK gK gsK brK callK ElemK SeqK BlockK ScopeK OpsK CallK LoopK LoopGo finPost ACall PCall PCallE BCall vqOps vqStep vqGuard qrK heK pcK gqK gqsK QOpsK qcallK DrawK
section
variable {p: DProg} {k: Nat} {n: DNode}
theorem plN_k {fst: ByteArray} {e: Ex} {on: List DCond} {st: NmSt} (h: e.kind = 5 ∨ e.kind = 6 ∨ e.kind = 7 ∨ e.kind = 14 ∨ e.kind = 15 ∨ e.kind = 16): plN p k fst e on st = (plain0 (kindN e.kind) e.op (eaN p k fst e.subs on st).1,(eaN p k fst e.subs on st).2) := by
 unfold plN
 rw [plainN_eq]
 rcases h with h | h | h | h | h | h <;> simp [frstN,argsN,onN,headN,kindN,h]
theorem plN_8 {fst: ByteArray} {e x: Ex} {on: List DCond} {st: NmSt} (h: e.kind = 8) (hx: e.subs[0]? = some x): plN p k fst e on st = ({ plain0 5 0 (eaN p k fst (e.subs.drop 1) on st).1 with Init := (constT p.Enums x).1 },(eaN p k fst (e.subs.drop 1) on st).2) := by
 have hd: e.subs.headD e = x := by
  match e.subs,hx with
  | y :: l,hx => simpa using hx
 unfold plN
 rw [plainN_eq]
 simp only [frstN,argsN,headN,h,hd,cnN]
 simp
theorem plN_10 {fst: ByteArray} {e: Ex} {on: List DCond} {st: NmSt} (h: e.kind = 10): plN p k fst e on st = ({ plain0 5 0 (eaN p k fst e.subs on st).1 with Init := List.replicate (cellsZ (tyN p (k: Int) e)) 0 },(eaN p k fst e.subs on st).2) := by
 unfold plN
 rw [plainN_eq]
 simp [frstN,argsN,onN,headN,h]
theorem plN_11 {fst: ByteArray} {e: Ex} {on: List DCond} {st: NmSt} (h: e.kind = 11): plN p k fst e on st = (plain0 1 0 (eaN p k fst e.subs on.dropLast st).1,(eaN p k fst e.subs on.dropLast st).2) := by
 unfold plN
 rw [plainN_eq]
 simp [frstN,argsN,onN,headN,h]
theorem plN_leaf {fst: ByteArray} {e: Ex} {on: List DCond} {st: NmSt} (h: leafK e.kind = true) (hs: e.subs = []): plN p k fst e on st = (plain0 1 0 [(atN p k fst e on st).1],(atN p k fst e on st).2) := by
 have h2: e.kind = 1 ∨ e.kind = 2 ∨ e.kind = 3 ∨ e.kind = 4 := by unfold leafK at h; exact of_decide_eq_true h
 have hat: atN p k fst e on st = (leafA (vaN p) e,st) := by unfold atN atomN; rw [if_pos h]
 rw [hat]
 unfold plN
 rw [plainN_eq]
 rcases h2 with h2 | h2 | h2 | h2 <;> simp [frstN,argsN,onN,headN,h2,hs,eachN_nil]
theorem plain_all (hty: ∀ n ∈ p.Nodes,tyOK p n) (e: Ex): (∀ y ∈ parts e,partE y = true) → okE e → PlF p k n 62 e := by
 induction e using Ex.ind with
 | _ e ih =>
 intro hp hok
 have hps: ∀ x ∈ e.subs,∀ y ∈ parts x,partE y = true := fun x hx => sub_ok hp hx
 have hx: ∀ x ∈ e.subs,AtomK p k n x := fun x hx => atom_of hty (hps x hx) (sub_okE hok hx) (ih x hx (hps x hx) (sub_okE hok hx))
 have hsl := subs_le hok
 obtain ⟨hk,hlo,hhi,ha11,ha12,hn13⟩ := part_facts (hp e (self_parts e))
 have hE: EachK p k n e.subs := each_of (by omega) hx hps
 have hE8: EachK p k n (e.subs.drop 1) := each_of (by rw [List.length_drop]; omega) (fun x h => hx x (List.mem_of_mem_drop h)) (fun x h => hps x (List.mem_of_mem_drop h))
 intro a0 a1 a2 y z B r c4 c5 c6 fst on st K hs hf hb hK
 have hb0 := hb
 obtain ⟨b1,b2,b3,b4⟩ := hb
 have b1' := b1
 rw [parts_lenC] at b1'
 have hk91 := kind91 e
 by_cases hA: e.kind = 5 ∨ e.kind = 6 ∨ e.kind = 7 ∨ e.kind = 14 ∨ e.kind = 15 ∨ e.kind = 16
 ·
  have hfL: fitsL (rowN p.Enums n) p.Enums e.subs on = true := by rw [fitsF_eq] at hf; rcases hA with h | h | h | h | h | h <;> simpa [h] using hf
  rw [frN_eq,if_neg (by omega),if_neg (by omega),Nat.zero_add] at b2 b3 b4
  have hk0: ¬ kindN e.kind = 0 := by unfold kindN; rcases hA with h | h | h | h | h | h <;> simp [h]
  rw [plN_k hA] at hK
  generalize kindN e.kind = kd at hk91 hk0 hK
  refine acallK_of_vc tabOK Tryz.func62 (by kernel_rfl) rfl (n := 104) rfl (rs := [.cell 6 53]) rfl ?_
  simp only [go_sem]
  refine PCall.call hk91 ?_
  simp only [go_sem]
  refine brK_dec (fun _ => ?_) (fun h => absurd h (by simpa using hk0))
  simp only [go_sem]
  refine drawM [3,B.length + 9,B.length + (r.length + 3) + 8] (.pur 0 (.pur 1 (.pur 2 (.pur 3 (.pur 4 (.pur 5 (.pur 6 (.pur 7 (.eff 8 (.pur 9 (.eff 10 .nil))))))))))) mo (by kernel_rfl) ?_
  simp only [go_sem]
  refine hE a0 a1 a2 y z B _ c4 c5 c6 fst on st _ hs hfL ⟨by omega,by omega,by omega,by omega⟩ fun r1 => ?_
  generalize eaN p k fst e.subs on st = G at hK ⊢
  obtain ⟨ats,st1⟩ := G
  dsimp only at hK ⊢
  simp only [go_sem]
  refine finKw (r := (plain0 kd e.op ats).enc) (by simp only [go_sem]; rfl) ?_ (hK _)
  rw [DPlain.enc_eq]
  exact Weak.aggs ⟨.refl _,.nil _,.refl _,.refl _,.nil _,.refl _,.refl _,.refl _,.refl _,.nil _,trivial⟩
 have hk0: kindN e.kind = 0 := by
  unfold kindN
  rw [if_neg (by omega),if_neg (by omega),if_neg (by omega),if_neg (by omega),if_neg (by omega),if_neg (by omega)]
 rw [hk0] at hk91
 by_cases h8: e.kind = 8
 ·
  have h2: (subsE e).1 = 2 ∧ (subsE e).2 = 2 := by simp [subsE,h8]
  have hfL: fitsL (rowN p.Enums n) p.Enums (e.subs.drop 1) on = true := by rw [fitsF_eq] at hf; simp [h8] at hf; rw [List.drop_one]; exact hf.2
  rw [frN_eq,if_neg (by omega),if_pos h8,Nat.zero_add] at b2 b3 b4
  obtain ⟨x0,hx0⟩: ∃ x,e.subs[0]? = some x := ⟨_,List.getElem?_eq_getElem (by omega)⟩
  have hpr: (partsL (e.subs.drop 1)).length ≤ (partsL e.subs).length := by
   generalize e.subs = l
   cases l with
   | nil => simp
   | cons x l => rw [partsL,List.length_append]; simp
  have hc := constP p.Enums x0 (sub_okE hok (List.mem_of_getElem? hx0))
  rw [plN_8 h8 hx0] at hK
  generalize constT p.Enums x0 = cc at hc hK
  obtain ⟨cv,ct,cok⟩ := cc
  dsimp only at hK
  refine acallK_of_vc tabOK Tryz.func62 (by kernel_rfl) rfl (n := 104) rfl (rs := [.cell 6 53]) rfl ?_
  simp only [go_sem]
  refine PCall.call hk91 ?_
  simp only [go_sem]
  refine brK_dec (fun _ => ?_) (fun q => absurd h8 q)
  simp only [go_sem]
  refine drawK mo (by kernel_rfl) ?_
  simp only [go_sem]
  refine elemHave (x := x0) (by omega) (by simpa using hx0) ?_
  simp only [go_sem]
  refine pcK_of hc ?_
  simp only [go_sem]
  refine And.intro (by omega) ?_
  refine hE8 a0 a1 a2 y z B _ c4 c5 c6 fst on st _ hs hfL ⟨by omega,by omega,by omega,by omega⟩ fun r1 => ?_
  generalize eaN p k fst (e.subs.drop 1) on st = G at hK ⊢
  obtain ⟨ats,st1⟩ := G
  dsimp only at hK ⊢
  simp only [go_sem]
  refine delay95 cv ats fun r2 => ?_
  simp only [go_sem]
  exact finKw (r := ({ plain0 5 0 ats with Init := cv }: DPlain).enc) (by simp only [go_sem]; rfl) (by rw [DPlain.enc_eq]; exact .refl _) (hK _)
 by_cases h10: e.kind = 10
 ·
  have hfL: fitsL (rowN p.Enums n) p.Enums e.subs on = true := by rw [fitsF_eq] at hf; simpa [h10] using hf
  rw [frN_eq,if_neg (by omega),if_neg (by omega),Nat.zero_add] at b2 b3 b4
  rw [plN_10 h10] at hK
  have hz := zero96 (tyN p (k: Int) e)
  generalize hcv: List.replicate (cellsZ (tyN p (k: Int) e)) (0: Int) = cv at hz hK
  refine acallK_of_vc tabOK Tryz.func62 (by kernel_rfl) rfl (n := 104) rfl (rs := [.cell 6 53]) rfl ?_
  simp only [go_sem]
  refine PCall.call hk91 ?_
  repeat' first
   | simp only [go_sem]
   | refine brK_dec (fun _ => ?_) (fun _ => ?_)
   | (exfalso; omega)
  refine drawM [3,B.length + 9,B.length + (r.length + 3) + 8] (.pur 0 (.pur 1 (.pur 2 (.pur 5 (.pur 6 (.pur 7 (.pur 8 (.pur 9 (.eff 3 (.pur 4 (.eff 10 (.eff 11 (.eff 12 .nil))))))))))))) mo (by kernel_rfl) ?_
  simp only [go_sem]
  refine ty97 e hty hp hok ?_
  simp only [go_sem]
  refine pcK_of hz ?_
  simp only [go_sem]
  refine hE a0 a1 a2 y z B _ c4 c5 c6 fst on st _ hs hfL ⟨by omega,by omega,by omega,by omega⟩ fun r1 => ?_
  generalize eaN p k fst e.subs on st = G at hK ⊢
  obtain ⟨ats,st1⟩ := G
  dsimp only at hK ⊢
  simp only [go_sem]
  refine delay95 cv ats fun r2 => ?_
  simp only [go_sem]
  exact finKw (r := ({ plain0 5 0 ats with Init := cv }: DPlain).enc) (by simp only [go_sem]; rfl) (by rw [DPlain.enc_eq]; exact .refl _) (hK _)
 by_cases h9: e.kind = 9
 ·
  have hC := arrow98 (p := p) (k := k) (n := n) h9 hE a0 a1 a2 y z B
  refine acallK_of_vc tabOK Tryz.func62 (by kernel_rfl) rfl (n := 104) rfl (rs := [.cell 6 53]) rfl ?_
  simp only [go_sem]
  refine PCall.call hk91 ?_
  repeat' first
   | simp only [go_sem]
   | refine brK_dec (fun _ => ?_) (fun _ => ?_)
   | (exfalso; omega)
  refine hC _ c4 c5 c6 fst on st _ hs hf hb0 fun r1 => ?_
  simp only [go_sem]
  exact finKw (r := (plN p k fst e on st).1.enc) (by simp only [go_sem]; rfl) (by rw [DPlain.enc_eq]; exact .refl _) (hK _)
 by_cases h11: e.kind = 11
 ·
  rw [fitsF_eq] at hf
  simp [h11] at hf
  obtain ⟨⟨⟨⟨⟨_,_⟩,hrow⟩,_⟩,hon⟩,hfL⟩ := hf
  have hon := eqB_t hon
  have hdl: on.dropLast = (rowN p.Enums n e.name).1 := by
   conv => lhs; rw [hon]
   simp
  rw [← hdl] at hfL
  obtain ⟨m,hm⟩: ∃ m,on.length = m + 1 := ⟨on.length - 1,by
   have := congrArg List.length hon
   simp at this
   omega⟩
  have hw: IntKind.i64.wrap ((on.length: Int) - 1) = (m: Int) := by rw [hm,wrap_in _ (by omega) (by omega)]; omega
  have hdt: on.take m = on.dropLast := by rw [List.dropLast_eq_take,hm]; rfl
  rw [frN_eq,if_neg (by omega),if_neg (by omega),Nat.zero_add] at b2 b3 b4
  rw [plN_11 h11] at hK
  have hdll: on.dropLast.length ≤ on.length := by rw [List.length_dropLast]; omega
  have hE1 := fun r K => hE a0 a1 a2 y z B r c4 c5 c6 fst on.dropLast st K hs hfL ⟨by omega,by omega,by omega,by omega⟩
  rw [← hdt] at hE1 hK
  refine acallK_of_vc tabOK Tryz.func62 (by kernel_rfl) rfl (n := 104) rfl (rs := [.cell 6 53]) rfl ?_
  simp only [go_sem]
  refine PCall.call hk91 ?_
  repeat' first
   | simp only [go_sem]
   | refine brK_dec (fun _ => ?_) (fun _ => ?_)
   | (exfalso; omega)
  refine drawM [3,B.length + 9,B.length + (r.length + 3) + 8] (.pur 0 (.pur 1 (.pur 2 (.pur 3 (.pur 4 (.pur 5 (.pur 6 (.pur 7 (.pur 8 (.eff 9 (.pur 10 (.eff 11 .nil)))))))))))) mo (by kernel_rfl) ?_
  simp only [go_sem,hw,Int.toNat_natCast]
  refine And.intro (by omega) ?_
  refine hE1 _ _ fun r1 => ?_
  generalize eaN p k fst e.subs (on.take m) st = G at hK ⊢
  obtain ⟨ats,st1⟩ := G
  dsimp only at hK ⊢
  simp only [go_sem]
  refine finKw (r := (plain0 1 0 ats).enc) (by simp only [go_sem]; rfl) ?_ (hK _)
  rw [DPlain.enc_eq]
  exact Weak.aggs ⟨.refl _,.nil _,.refl _,.refl _,.nil _,.refl _,.refl _,.refl _,.refl _,.nil _,trivial⟩
 by_cases h12: e.kind = 12
 ·
  have hal: e.arms.length = e.subs.length := by
   have: (subsE e).1 = e.arms.length ∧ (subsE e).2 = e.arms.length := by simp [subsE,h12]
   omega
  have hC := merge99 (p := p) (k := k) (n := n) h12 hal hps hx a0 a1 a2 y z B
  refine acallK_of_vc tabOK Tryz.func62 (by kernel_rfl) rfl (n := 104) rfl (rs := [.cell 6 53]) rfl ?_
  simp only [go_sem]
  refine PCall.call hk91 ?_
  repeat' first
   | simp only [go_sem]
   | refine brK_dec (fun _ => ?_) (fun _ => ?_)
   | (exfalso; omega)
  refine hC _ c4 c5 c6 fst on st _ hs hf hb0 fun r1 => ?_
  simp only [go_sem]
  exact finKw (r := (plN p k fst e on st).1.enc) (by simp only [go_sem]; rfl) (by rw [DPlain.enc_eq]; exact .refl _) (hK _)
 by_cases h13: e.kind = 13
 ·
  have hsn: e.n ≤ e.subs.length := by
   have: (subsE e).1 = e.n := by simp [subsE,h13]
   omega
  have hC := call100 (p := p) (k := k) (n := n) h13 (hn13 h13) hsn hps hx a0 a1 a2 y z B
  refine acallK_of_vc tabOK Tryz.func62 (by kernel_rfl) rfl (n := 104) rfl (rs := [.cell 6 53]) rfl ?_
  simp only [go_sem]
  refine PCall.call hk91 ?_
  repeat' first
   | simp only [go_sem]
   | refine brK_dec (fun _ => ?_) (fun _ => ?_)
   | (exfalso; omega)
  refine hC _ c4 c5 c6 fst on st _ hs hf hb0 fun r1 => ?_
  simp only [go_sem]
  exact finKw (r := (plN p k fst e on st).1.enc) (by simp only [go_sem]; rfl) (by rw [DPlain.enc_eq]; exact .refl _) (hK _)
 by_cases h17: e.kind = 17
 ·
  rw [fitsF_eq] at hf
  simp [h17] at hf
 have hlf: leafK e.kind = true := by unfold leafK; exact decide_eq_true (by omega)
 have hsz: e.subs = [] := by
  have: (subsE e).2 = 0 := by
   unfold subsE
   rw [if_neg (by omega),if_neg (by omega),if_neg (by omega),if_neg (by omega),if_neg (by omega),if_neg (by omega)]
  exact List.length_eq_zero_iff.1 (by omega)
 have hA1 := atom_leaf (p := p) (k := k) (n := n) hlf a0 a1 a2 y z B
 have hg: gN e = 0 := by unfold gN; rw [if_pos hlf]
 rw [plN_leaf hlf hsz] at hK
 refine acallK_of_vc tabOK Tryz.func62 (by kernel_rfl) rfl (n := 104) rfl (rs := [.cell 6 53]) rfl ?_
 simp only [go_sem]
 refine PCall.call hk91 ?_
 repeat' first
  | simp only [go_sem]
  | refine brK_dec (fun _ => ?_) (fun _ => ?_)
  | (exfalso; omega)
 refine hA1 _ c4 c5 c6 fst on st _ hs hf ⟨by omega,by omega,by omega,by omega⟩ fun r1 => ?_
 generalize atN p k fst e on st = A at hK ⊢
 obtain ⟨a,st1⟩ := A
 dsimp only at hK ⊢
 simp only [go_sem]
 refine finKw (r := (plain0 1 0 [a]).enc) (by simp only [go_sem]; rfl) ?_ (hK _)
 rw [DPlain.enc_eq]
 exact Weak.aggs ⟨.refl _,.nil _,.refl _,.tok _ _ _,.nil _,.refl _,.refl _,.refl _,.refl _,.nil _,trivial⟩
end
end Go.Proofs.YtpamokpmlplopaaGreatDoor
namespace Go.Proofs.YtpamokpmlplopaaGreatDoor
open Go.Abs
set_option maxRecDepth 20000
set_option linter.unusedSimpArgs false
set_option linter.unusedVariables false
set_option maxHeartbeats 1000000
attribute [local irreducible] vc vcOps vcStep vcGuard prK hrK gK gsK brK callK ElemK SeqK BlockK ScopeK OpsK CallK LoopK LoopGo finPost ACall PCall PCallE BCall vqOps vqStep vqGuard qrK heK pcK gqK gqsK QOpsK qcallK DrawK
theorem finTh {T: TypeId → TI} {s: List AV} {rs: List ResultVar} {e: TypeId} {sz: Nat} {l l0: List AV} {k n: Nat} {h junk: List Blk} {KK: AV → List Blk → Prop} (hl: resAV T s (h ++ junk) rs = some [.lst sz l0 (some k)]) (hll: l0 = l) (hkl: h.length ≤ k) (hk: (h ++ junk)[k]? = some (.tok e sz n)) (hn: n = l.length)
  (hb: ∀ c ∈ flat l,Go.Abs.Pure c) (hK: KK (.lst sz l (some h.length)) (h ++ [.tok e sz l.length])): FinT T rs h e sz l KK s (h ++ junk) := by
 subst hll hn
 unfold FinT
 exact ⟨h,junk,k,hl,rfl,Chg.refl _ _,hkl,hk,fun c hc => Blw.pure (hb c hc),hK⟩
theorem lst_flat {sz: Nat} {l: List AV} (h: Go.Abs.Pure (.lst sz l none)): ∀ c ∈ flat l,Go.Abs.Pure c := by cases h with | lst _ _ h => exact h
section
variable {a0 a1 a2: Blk} {r: List Blk} {p: DProg} {k: Int} {nx c4 c5 c6 c7 c8: AV} {K: AV → List Blk → Prop}
theorem vars58 (l: List DDecl) (hl: l.length ≤ 100000) (hn: ∀ n ∈ p.Nodes,(allV n).length ≤ 4294967296)
  (hK: K (.lst 5 ((l.map (varNm p k)).map DVar.enc) (some (r.length + 1 + 1 + 1 + 1))) (a0 :: a1 :: a2 :: apB p k nx c4 c5 c6 c7 c8 :: (r ++ [.tok 45 5 l.length]))) :
  ACall Tryz.prog 58 [.ptr 3 0,.lst 6 (l.map DDecl.enc) none] (a0 :: a1 :: a2 :: apB p k nx c4 c5 c6 c7 c8 :: r) K := by
 refine acallT_of_vc tabOK Tryz.func58 (by kernel_rfl) rfl (n := 28) rfl (rs := [.tmp 4]) rfl (e := 45) (sz := 5) (l := (l.map (varNm p k)).map DVar.enc) ?_
 simp only [go_sem]
 intro _
 refine loop_ghost (ghost_tok 5 45 5 rfl) ?_
 simp only [go_sem]
 refine loop_fr [5,7,10,11,12,13,14,15,16,17,18,19,20,21,22,23,24,25,26] (fun mm C hh => ∃ (i: Nat) (r': List Blk),i ≤ l.length ∧ mm = l.length - i ∧ C = [(10,.raw (.int .i64 (i: Nat))),(5,.lst 5 (((l.take i).map (varNm p k)).map DVar.enc) (some (r.length + 1 + 1 + 1 + 1)))] ∧
  hh = a0 :: a1 :: a2 :: apB p k nx c4 c5 c6 c7 c8 :: (r ++ .tok 45 5 i :: r')) l.length _ ⟨0,[],by omega,by omega,rfl,rfl⟩ (.cons rfl (.cons rfl .nil)) ?_
 rintro mm C j hh ⟨i,r',hi,rfl,rfl,rfl⟩
 simp only [go_sem]
 refine brK_dec (fun hlt => ?_) (fun hge => ?_)
 ·
  obtain ⟨d,hd⟩: ∃ d,l[i]? = some d := ⟨_,List.getElem?_eq_getElem (by omega)⟩
  have hnx: ((l.take (i + 1)).map (varNm p k)).map DVar.enc = ((l.take i).map (varNm p k)).map DVar.enc ++ [(varNm p k d).enc] := by
   rw [List.take_add_one,hd]
   simp
  simp only [go_sem]
  refine elemHave (x := d) (by omega) (by simpa using hd) ?_
  simp only [go_sem]
  refine drawM [] (.pur 0 (.pur 1 (.pur 2 (.pur 3 (.pur 4 (.pur 5 (.pur 6 (.pur 7 (.eff 8 (.pur 9 (.eff 10 (.eff 11 (.pur 12 .nil))))))))))))) mo (by kernel_rfl) ?_
  simp only [go_sem]
  refine row60 d.Name hn ?_
  simp only [go_sem]
  refine And.intro (by first | omega | (simp; done) | (simp; omega)) ?_
  exact loopFr _ (by omega) ⟨i + 1,_,by omega,rfl,rfl,by simp; exact ⟨by omega,rfl⟩⟩ (.next rfl (by omega) (.cons (by rw [hnx,DVar.enc_eq]; rfl) .nil)) rfl
 ·
  rw [List.take_of_length_le (by omega)]
  obtain rfl: i = l.length := by omega
  simp only [go_sem]
  refine finTh (h := a0 :: a1 :: a2 :: apB p k nx c4 c5 c6 c7 c8 :: r) (junk := .tok 45 5 l.length :: r') (k := r.length + 1 + 1 + 1 + 1) (n := l.length) rfl rfl (by simp) (by simp) (by simp) (lst_flat (DVar.pures _)) ?_
  simpa using hK
end
end Go.Proofs.YtpamokpmlplopaaGreatDoor
namespace Go.Proofs.YtpamokpmlplopaaGreatDoor
open Go.Abs
set_option maxRecDepth 20000
set_option linter.unusedSimpArgs false
set_option linter.unusedVariables false
set_option maxHeartbeats 1000000
attribute [local irreducible] vc vcOps vcStep vcGuard prK hrK gK gsK brK callK ElemK SeqK BlockK ScopeK OpsK CallK LoopK LoopGo finPost ACall PCall PCallE BCall vqOps vqStep vqGuard qrK heK pcK gqK gqsK QOpsK qcallK DrawK
theorem fr_le {e: Ex} (h: rightE e = true): frN e ≤ 88 := by
 have hp := right_parts h
 unfold rightE at h
 simp only [Bool.and_eq_true,decide_eq_true_eq] at h
 obtain ⟨_,h2⟩ := gN_le e hp
 cases hl: leafK e.kind with
 | false => have := h2 hl; omega
 | true =>
  have hk: e.kind = 1 ∨ e.kind = 2 ∨ e.kind = 3 ∨ e.kind = 4 := by unfold leafK at hl; exact of_decide_eq_true hl
  obtain ⟨_,_,hhi,_⟩ := part_facts (hp e (self_parts e))
  have: (subsE e).2 = 0 := by
   unfold subsE
   rw [if_neg (by omega),if_neg (by omega),if_neg (by omega),if_neg (by omega),if_neg (by omega),if_neg (by omega)]
  have hs: e.subs = [] := List.length_eq_zero_iff.1 (by omega)
  rw [frN_eq,hs,if_neg (by omega),if_neg (by omega),frL]
  omega
structure EqW (p: DProg) (k: Nat) (n: DNode) (q: DEq): Prop where
 fit: EqFit p k n q
 right: rightE q.E = true
 ok: okEq q
theorem eqs_w {p: DProg} (h: (startF p).Err = 0) (hp: okProg p) {k: Nat} {n: DNode} (hn: p.Nodes[k]? = some n): ∀ q ∈ n.Eqs,EqW p k n q := by
 obtain ⟨hck,hall⟩ := start_eqs h
 have hnm := List.mem_of_getElem? hn
 exact fun q hq => ⟨(hall k n hn).2.2 q hq,(eqs_right hck hnm hq).2,(hp.2.2 n hnm).2.2.2.2.2 q hq⟩
theorem eqs_len {p: DProg} {k: Nat} {n: DNode} (h: ∀ q ∈ n.Eqs,EqW p k n q) (v0: List DVar): ∀ i,i ≤ n.Eqs.length → (eqsNm p (k: Int) (v0,[]) (n.Eqs.take i)).1.length ≤ v0.length + 90 * i ∧ (eqsNm p (k: Int) (v0,[]) (n.Eqs.take i)).2.length ≤ 90 * i
 | 0,_ => by simp [eqsNm]
 | i + 1,hi => by
  obtain ⟨h1,h2⟩ := eqs_len h v0 i (by omega)
  obtain ⟨x,hx⟩: ∃ x,n.Eqs[i]? = some x := ⟨_,List.getElem?_eq_getElem (by omega)⟩
  rw [eqsNm_next p (k: Int) hx]
  generalize eqsNm p (k: Int) (v0,[]) (n.Eqs.take i) = st at h1 h2
  have hw := h x (List.mem_of_getElem? hx)
  obtain ⟨g1,g2,g3⟩ := plain_grew (nmN (x.Names.headD ⟨#[]⟩)) (tyN p (k: Int)) (cnN p) (vaN p) (fiN p) x.E hw.fit.right (rowOn p (k: Int) (x.Names.headD ⟨#[]⟩)) ⟨st.1,st.2,0⟩
  have hf := fr_le hw.right
  unfold eqNm eqPl
  dsimp only at g2 g3 ⊢
  rw [List.length_append,List.length_singleton]
  omega
theorem rowOn_w {p: DProg} {k: Nat} {n: DNode} (hn: p.Nodes[k]? = some n) (s: ByteArray): rowOn p (k: Int) s = (rowN p.Enums n s).1 := by unfold rowOn rowF; rw [nodeAt_nat,hn]
theorem of33 (p: DProg) (k: Nat) (n: DNode) (hn: p.Nodes[k]? = some n) (hs: (startF p).Err = 0) (hp: okProg p): PCall Tryz.prog 33 [p.enc,.i (k: Int)] (flowNm p (k: Int) n).enc := by
 have hnm := List.mem_of_getElem? hn
 have hkl := (List.getElem?_eq_some_iff.1 hn).1
 have hpl := hp.2.1
 have hck := (start_eqs hs).1
 have hty := tyOK_of hp hck
 have hal: ∀ n ∈ p.Nodes,(allV n).length ≤ 4294967296 := fun n hn => by have := (hty n hn).1; omega
 have hno := hp.2.2 n hnm
 have hi20 := hno.1.1
 have ho20 := hno.2.1.1
 have hv20 := hno.2.2.1.1
 have he30 := hno.2.2.2.1
 have hew := eqs_w hs hp hn
 have hel := eqs_len hew (n.Vars.map (varNm p (k: Int)))
 have hplain := fun e => plain_all (p := p) (k := k) (n := n) hty e
 refine pcall_of_vc tabOK Tryz.func33 (by kernel_rfl) rfl (pure_cons (DProg.pure _) (pure_cons (.raw _) pure_nil)) (DFlow.pure _) (n := 74) rfl (rs := [.cell 4 37]) rfl ?_
 simp only [go_sem]
 refine elemHave (x := n) (by omega) (by simpa using hn) ?_
 simp only [go_sem]
 refine drawM [3] (.pur 0 (.pur 1 (.pur 2 (.pur 3 (.pur 4 (.pur 5 (.pur 7 (.pur 8 (.pur 9 (.pur 11 (.pur 12 (.pur 13 (.eff 6 (.eff 10 (.eff 14 (.pur 15 (.pur 16 (.pur 17 (.eff 18 .nil))))))))))))))))))) mo (by kernel_rfl) ?_
 simp only [go_sem]
 refine vars58 n.Ins (by omega) hal ?_
 simp only [go_sem]
 refine vars58 n.Outs (by omega) hal ?_
 simp only [go_sem]
 refine vars58 n.Vars (by omega) hal ?_
 simp only [go_sem]
 intro _
 refine loop_ghost (ghost_cell (t := 114) (cs := [.lst 2 (p.Enums.map DEnum.enc) none,.lst 5 (p.Nodes.map DNode.enc) none,.i (k: Int),.raw .nilFunc,.s n.Name,.lst 5 ((n.Ins.map (varNm p (k: Int))).map DVar.enc) (some 4),.lst 5 ((n.Outs.map (varNm p (k: Int))).map DVar.enc) (some 5),.lst 5 ((n.Vars.map (varNm p (k: Int))).map DVar.enc) (some 6),.raw (.slice none 0 0)]) 3 8 53 10 (by rfl) (by rfl)) ?_
 simp only [go_sem]
 refine loop_fr [8,9,40,41,42,43,44,45,46,47,48,49,50,51,52,53,54,55,56,57,58,59,60,61,62,63,64,65,66,67,68,69] (fun mm C hh => ∃ (i: Nat) (B: List Blk) (nx: AV),i ≤ n.Eqs.length ∧ mm = n.Eqs.length - i ∧ C = [(40,.raw (.int .i64 (i: Nat)))] ∧
  hh = .cells 25 [.lst 2 (p.Enums.map DEnum.enc) none,.lst 5 (p.Nodes.map DNode.enc) none] :: .cells 37 [.s ⟨#[]⟩,.raw (.slice none 0 0),.raw (.slice none 0 0),.raw (.slice none 0 0),.raw (.slice none 0 0)] :: .cells 68 [.s n.Name,.lst 6 (n.Ins.map DDecl.enc) none,.lst 6 (n.Outs.map DDecl.enc) none,.lst 6 (n.Vars.map DDecl.enc) none,.lst 7 (n.Eqs.map DEq.enc) none] ::
   apB p (k: Int) nx (.s n.Name) (.lst 5 ((n.Ins.map (varNm p (k: Int))).map DVar.enc) (some 4)) (.lst 5 ((n.Outs.map (varNm p (k: Int))).map DVar.enc) (some 5)) (.lst 5 ((eqsNm p (k: Int) (n.Vars.map (varNm p (k: Int)),[]) (n.Eqs.take i)).1.map DVar.enc) (some 6)) (.lst 10 ((eqsNm p (k: Int) (n.Vars.map (varNm p (k: Int)),[]) (n.Eqs.take i)).2.map DPlain.enc) (some 7)) ::
   .tok 45 5 n.Ins.length :: .tok 45 5 n.Outs.length :: .tok 45 5 (eqsNm p (k: Int) (n.Vars.map (varNm p (k: Int)),[]) (n.Eqs.take i)).1.length :: .tok 53 10 (eqsNm p (k: Int) (n.Vars.map (varNm p (k: Int)),[]) (n.Eqs.take i)).2.length :: B) n.Eqs.length _ ⟨0,[],_,by omega,by omega,rfl,by simp [eqsNm]; rfl⟩ (.cons rfl .nil) ?_
 rintro mm C j hh ⟨i,B,nx,hi,rfl,rfl,rfl⟩
 simp only [go_sem]
 refine brK_dec (fun hlt => ?_) (fun hge => ?_)
 ·
  obtain ⟨q,hq⟩: ∃ q,n.Eqs[i]? = some q := ⟨_,List.getElem?_eq_getElem (by omega)⟩
  have hqm := List.mem_of_getElem? hq
  have hw := hew q hqm
  obtain ⟨s,rest,hqn⟩ := hw.fit.names
  have hsz: s.size ≤ 100 := hw.ok.2.2 s (by rw [hqn]; simp)
  have hnl := hw.ok.1
  have hfit := hw.fit.fits
  have hnx := eqsNm_next p (k: Int) (st := (n.Vars.map (varNm p (k: Int)),[])) hq
  have hel1 := hel i hi
  have hfr := fr_le hw.right
  have hpl60: (parts q.E).length ≤ 60 := by
   have := hw.right
   unfold rightE at this
   simp only [Bool.and_eq_true,decide_eq_true_eq] at this
   exact this.1.1
  have hon := rowN_len p.Enums n s
  rw [← rowOn_w hn] at hon
  generalize eqsNm p (k: Int) (n.Vars.map (varNm p (k: Int)),[]) (n.Eqs.take i) = st at hnx hel1 ⊢
  rw [List.length_map] at hel1
  have hP := fun a0 a1 a2 y z B r c4 c5 c6 K => hplain q.E hw.fit.right hw.ok.2.1 a0 a1 a2 y z B r c4 c5 c6 s (rowOn p (k: Int) s) ⟨st.1,st.2,0⟩ K (by omega) (by rw [rowOn_w hn]; rw [hqn] at hfit; exact hfit) ⟨by omega,by dsimp only; omega,by dsimp only; omega,by dsimp only; omega⟩
  have g: grewN ⟨st.1,st.2,0⟩ (plN p k s q.E (rowOn p (k: Int) s) ⟨st.1,st.2,0⟩).2 (frN q.E) := plain_grew (nmN s) (tyN p (k: Int)) (cnN p) (vaN p) (fiN p) q.E hw.fit.right (rowOn p (k: Int) s) ⟨st.1,st.2,0⟩
  have hst: eqNm p (k: Int) st q = ((plN p k s q.E (rowOn p (k: Int) s) ⟨st.1,st.2,0⟩).2.vars,(plN p k s q.E (rowOn p (k: Int) s) ⟨st.1,st.2,0⟩).2.eqs ++ [{ (plN p k s q.E (rowOn p (k: Int) s) ⟨st.1,st.2,0⟩).1 with Names := q.Names,On := rowOn p (k: Int) s }]) := by
   unfold eqNm eqPl
   rw [hqn]
   rfl
  rw [hst] at hnx
  clear hst
  generalize plN p k s q.E (rowOn p (k: Int) s) ⟨st.1,st.2,0⟩ = R at hP g hnx
  obtain ⟨pq,st1⟩ := R
  obtain ⟨g1,g2,g3⟩ := g
  dsimp only at hP g1 g2 g3 hnx
  simp only [go_sem]
  refine elemHave (x := q) (by omega) (by simpa using hq) ?_
  simp only [go_sem]
  obtain ⟨B',hB'⟩: ∃ B',B' = B ++ [Blk.cells 74 [.lst 1 (q.Names.map AV.s) none,.i q.E.kind,.i q.E.n,.s q.E.name,.i q.E.op,.lst 1 (q.E.arms.map AV.s) none,.lst 6 (q.E.subs.map Ex.enc) none]] := ⟨_,rfl⟩
  have hat0: B'[B.length]? = some (Blk.cells 74 [.lst 1 (q.Names.map AV.s) none,.i q.E.kind,.i q.E.n,.s q.E.name,.i q.E.op,.lst 1 (q.E.arms.map AV.s) none,.lst 6 (q.E.subs.map Ex.enc) none]) := by rw [hB']; simp
  have hat: ∀ r: List Blk,(B' ++ r)[B.length]? = some (Blk.cells 74 [.lst 1 (q.Names.map AV.s) none,.i q.E.kind,.i q.E.n,.s q.E.name,.i q.E.op,.lst 1 (q.E.arms.map AV.s) none,.lst 6 (q.E.subs.map Ex.enc) none]) := fun r => by rw [hB']; simp
  rw [← hB']
  clear hB'
  refine elemHave (x := s) (by omega) (by rw [hqn]; rfl) ?_
  simp only [go_sem,hat0,hat]
  refine names59 s ?_
  simp only [go_sem,hat0,hat]
  refine elemHave (x := s) (by omega) (by rw [hqn]; rfl) ?_
  simp only [go_sem,hat0,hat]
  refine row60 s hal ?_
  simp only [go_sem,hat0,hat]
  refine drawM [3,B'.length + 9] (.pur 0 (.pur 1 (.pur 2 (.pur 3 (.pur 4 (.pur 6 (.pur 7 (.pur 9 (.eff 5 (.pur 8 (.eff 10 .nil))))))))))) mo (by kernel_rfl) ?_
  simp only [go_sem,hat0,hat]
  refine hP _ _ _ _ _ B' [] _ _ _ _ fun r1 => ?_
  simp only [go_sem,hat0,hat]
  refine pcK_of (cloneS q.Names (by omega)) ?_
  simp only [go_sem,hat0,hat]
  refine emit61 pq q.Names (rowOn p (k: Int) s) st1.eqs (by omega) fun r2 => ?_
  simp only [go_sem,hat0,hat]
  exact loopFr _ (by omega) ⟨i + 1,_,_,by omega,rfl,rfl,by rw [hnx]; dsimp only; rw [List.length_append]; rfl⟩ (.next rfl (by omega) .nil) rfl
 ·
  rw [List.take_of_length_le (by omega)]
  simp only [go_sem]
  refine ⟨_,rfl,false,?_⟩
  rw [DFlow.enc_eq]
  exact Weak.aggs ⟨.refl _,.tok _ _ _,.tok _ _ _,.tok _ _ _,.tok _ _ _,trivial⟩
theorem bytes_extD {a b: ByteArray} (h: a.data.toList = b.data.toList): a = b := by
 cases a; cases b
 congr
 exact Array.toList_inj.1 h
theorem app_listD (a b: ByteArray): (a ++ b).data.toList = a.data.toList ++ b.data.toList := by
 rw [ByteArray.data_append]
 simp
theorem finSqD {T: TypeId → TI} {rs: List ResultVar} {s: List AV} {h: List Blk} {a b: ByteArray} (hr: resAV T s h rs = some [.s a]) (he: a = b): Go.Abs.Fin T rs (.s b) s h := he ▸ ⟨_,hr,false,.refl _⟩
theorem size_listD (a: ByteArray): a.size = a.data.toList.length := by unfold ByteArray.size; simp
theorem u64_in (x: Int) (h1: 0 ≤ x) (h2: x < 18446744073709551616): IntKind.u64.wrap x = x := by
 unfold IntKind.wrap
 simp [IntKind.bits,IntKind.signed]
 omega
theorem u8_in (x: Int) (h1: 0 ≤ x) (h2: x < 256): IntKind.u8.wrap x = x := by
 unfold IntKind.wrap
 simp [IntKind.bits,IntKind.signed]
 omega
theorem u64_neg (n: Int) (h: I64 n) (hn: n < 0): IntKind.u64.wrap (0 - IntKind.u64.wrap n) = (n.natAbs: Int) := by
 obtain ⟨h1,h2⟩ := h
 unfold IntKind.wrap
 simp [IntKind.bits,IntKind.signed]
 omega
theorem u64_pos (n: Int) (h: I64 n) (hn: ¬ n < 0): IntKind.u64.wrap n = (n.natAbs: Int) := by
 obtain ⟨h1,h2⟩ := h
 rw [u64_in n (by omega) (by omega)]
 omega
def preD (v: Nat) (t: List UInt8): List UInt8 := if v = 0 ∧ t ≠ [] then [] else Lib.decDigits v
theorem preD_step {v: Nat} {t: List UInt8} (h: ¬ (v = 0 ∧ t ≠ [])): preD (v / 10) (UInt8.ofNat (48 + v % 10) :: t) ++ UInt8.ofNat (48 + v % 10) :: t = preD v t ++ t := by
 unfold preD
 rw [if_neg h]
 by_cases hv: v < 10
 ·
  rw [if_pos ⟨by omega,by simp⟩,Lib.decDigits_one hv,Nat.mod_eq_of_lt hv]
  rfl
 ·
  rw [if_neg (by omega)]
  conv => rhs; rw [Lib.decDigits,dif_neg hv]
  simp
theorem preD_end {v: Nat} {t: List UInt8} (h: v = 0 ∧ t ≠ []): preD v t ++ t = t := by
 unfold preD
 rw [if_pos h]
 rfl
theorem itoa_abs (n: Int): Lib.itoa n = (if n < 0 then 45 :: Lib.decDigits n.natAbs else Lib.decDigits n.natAbs) := by
 unfold Lib.itoa
 split
 ·
  rfl
 ·
  rw [show n.toNat = n.natAbs by omega]
theorem digits_len (u: Nat) (h: u ≤ 9223372036854775808): (Lib.decDigits u).length ≤ 21 := by
 have := Lib.itoa_length_le (-(u: Int)) (by omega) (by omega)
 rw [itoa_abs] at this
 split at this
 ·
  rw [List.length_cons,show (-(u: Int)).natAbs = u by omega] at this
  omega
 ·
  rw [show (-(u: Int)).natAbs = u by omega] at this
  omega
theorem size0_list {t: ByteArray}: t.data.toList = [] ↔ t = ⟨#[]⟩ := by
 constructor
 ·
  intro h
  exact bytes_extD (by rw [h])
 ·
  rintro rfl
  rfl
theorem digit_byte (v: Nat): UInt8.ofNat (IntKind.u8.wrap (IntKind.u64.wrap (48 + ((v: Int)).tmod 10))).toNat = UInt8.ofNat (48 + v % 10) := by
 have h: ((v: Int)).tmod 10 = ((v % 10: Nat): Int) := by
  rw [Int.tmod_eq_emod_of_nonneg (by omega)]
  omega
 rw [h,u64_in _ (by omega) (by omega),u8_in _ (by omega) (by omega)]
 congr 1
theorem digit_rest (v: Nat) (h: v < 18446744073709551616): IntKind.u64.wrap (((v: Int)).tdiv 10) = ((v / 10: Nat): Int) := by
 have h': ((v: Int)).tdiv 10 = ((v / 10: Nat): Int) := by
  rw [Int.tdiv_eq_ediv_of_nonneg (by omega)]
  omega
 rw [h',u64_in _ (by omega) (by omega)]
theorem arr_one (x: UInt8): (#[x]: Array UInt8).size = 1 := rfl
theorem one_list (x: UInt8) (t: ByteArray): ((⟨#[x]⟩: ByteArray) ++ t).data.toList = x :: t.data.toList := by rw [app_listD]; rfl
theorem digits59 (n: Int) (h: I64 n): PCall Tryz.prog 108 [.i n] (.s (digB n)) := by
 obtain ⟨h1,h2⟩ := h
 obtain ⟨U,hU⟩: ∃ U: Nat,U = n.natAbs := ⟨_,rfl⟩
 have hlen := digits_len U (by omega)
 have goal2: ∀ t: ByteArray,t.data.toList = Lib.decDigits U → digB n = if n < 0 then ⟨#[45]⟩ ++ t else t := by
  intro t ht
  apply bytes_extD
  unfold digB
  rw [itoa_abs,← hU,← ht]
  split
  ·
   rw [app_listD]; simp
  ·
   simp
 refine pcall_of_vc tabOK Tryz.func108 (by kernel_rfl) rfl pureL pureI (n := 32) rfl (rs := [.tmp 2]) rfl ?_
 simp only [go_sem]
 refine brK_dec (fun hneg => ?_) (fun hneg => ?_)
 ·
  simp only [go_sem]
  rw [u64_neg n ⟨h1,h2⟩ hneg,← hU]
  refine loop_fr [3,4,11,12,13,14,15,16,17,18,19,20,21,22,23,24,25,26] (fun m C hh => ∃ (v: Nat) (t: ByteArray) (r: List Blk),v ≤ U ∧ preD v t.data.toList ++ t.data.toList = Lib.decDigits U ∧ m = v + (if t.data.toList = [] then 1 else 0) ∧ C = [(3,.raw (.int .u64 (v: Nat))),(4,.s t)] ∧ hh = r) (U + 1) _ ⟨U,⟨#[]⟩,_,by omega,by simp [preD],by simp,rfl,rfl⟩ (.cons rfl (.cons rfl .nil)) ?_
  rintro m C ja hh ⟨v,t,r,hv,hp,rfl,rfl,rfl⟩
  have hts: t.size ≤ 21 := by
   have := congrArg List.length hp
   rw [List.length_append] at this
   rw [size_listD]
   omega
  by_cases hgo: v = 0 ∧ t.data.toList ≠ []
  ·
   rw [preD_end hgo] at hp
   have hf := goal2 t hp
   have hne: ¬ t = ⟨#[]⟩ := fun q => hgo.2 (by rw [q])
   obtain ⟨rfl,_⟩ := hgo
   repeat' first
    | (exfalso; omega)
    | (exfalso; exact hne (by assumption))
    | simp only [go_sem]
    | refine gK_dec (fun _ => ?_) (fun _ => ?_)
    | refine brK_dec (fun _ => ?_) (fun _ => ?_)
    | refine ⟨by first | omega | (simp; omega),?_⟩
    | (refine finSqD rfl ?_; rw [hf]; first | rw [if_pos (by omega)] | rw [if_neg (by omega)])
  ·
   have hstep := preD_step hgo
   have hwr := digit_rest v (by omega)
   have hby := digit_byte v
   rw [← one_list] at hstep
   have hm: v / 10 + (if ((⟨#[UInt8.ofNat (48 + v % 10)]⟩: ByteArray) ++ t).data.toList = [] then 1 else 0) < v + (if t.data.toList = [] then 1 else 0) := by
    rw [if_neg (by rw [one_list]; simp)]
    by_cases hv0: v = 0
    ·
     rw [if_pos (Classical.byContradiction fun q => hgo ⟨hv0,q⟩)]; omega
    ·
     split <;> omega
   repeat' first
    | (exfalso; omega)
    | (exfalso; exact hgo ⟨by omega,fun q => absurd (size0_list.1 q) (by assumption)⟩)
    | simp only [go_sem,hwr,hby]
    | refine gK_dec (fun _ => ?_) (fun _ => ?_)
    | refine brK_dec (fun _ => ?_) (fun _ => ?_)
    | exact loopFr _ hm ⟨_,_,_,by omega,hstep.trans hp,rfl,rfl,rfl⟩ (.cons rfl (.cons rfl .nil)) rfl
    | refine ⟨by first | omega | decide | (rw [arr_one]; omega),?_⟩
 ·
  simp only [go_sem]
  rw [u64_pos n ⟨h1,h2⟩ hneg,← hU]
  refine loop_fr [3,4,11,12,13,14,15,16,17,18,19,20,21,22,23,24,25,26] (fun m C hh => ∃ (v: Nat) (t: ByteArray) (r: List Blk),v ≤ U ∧ preD v t.data.toList ++ t.data.toList = Lib.decDigits U ∧ m = v + (if t.data.toList = [] then 1 else 0) ∧ C = [(3,.raw (.int .u64 (v: Nat))),(4,.s t)] ∧ hh = r) (U + 1) _ ⟨U,⟨#[]⟩,_,by omega,by simp [preD],by simp,rfl,rfl⟩ (.cons rfl (.cons rfl .nil)) ?_
  rintro m C ja hh ⟨v,t,r,hv,hp,rfl,rfl,rfl⟩
  have hts: t.size ≤ 21 := by
   have := congrArg List.length hp
   rw [List.length_append] at this
   rw [size_listD]
   omega
  by_cases hgo: v = 0 ∧ t.data.toList ≠ []
  ·
   rw [preD_end hgo] at hp
   have hf := goal2 t hp
   have hne: ¬ t = ⟨#[]⟩ := fun q => hgo.2 (by rw [q])
   obtain ⟨rfl,_⟩ := hgo
   repeat' first
    | (exfalso; omega)
    | (exfalso; exact hne (by assumption))
    | simp only [go_sem]
    | refine gK_dec (fun _ => ?_) (fun _ => ?_)
    | refine brK_dec (fun _ => ?_) (fun _ => ?_)
    | refine ⟨by first | omega | (simp; omega),?_⟩
    | (refine finSqD rfl ?_; rw [hf]; first | rw [if_pos (by omega)] | rw [if_neg (by omega)])
  ·
   have hstep := preD_step hgo
   have hwr := digit_rest v (by omega)
   have hby := digit_byte v
   rw [← one_list] at hstep
   have hm: v / 10 + (if ((⟨#[UInt8.ofNat (48 + v % 10)]⟩: ByteArray) ++ t).data.toList = [] then 1 else 0) < v + (if t.data.toList = [] then 1 else 0) := by
    rw [if_neg (by rw [one_list]; simp)]
    by_cases hv0: v = 0
    ·
     rw [if_pos (Classical.byContradiction fun q => hgo ⟨hv0,q⟩)]; omega
    ·
     split <;> omega
   repeat' first
    | (exfalso; omega)
    | (exfalso; exact hgo ⟨by omega,fun q => absurd (size0_list.1 q) (by assumption)⟩)
    | simp only [go_sem,hwr,hby]
    | refine gK_dec (fun _ => ?_) (fun _ => ?_)
    | refine brK_dec (fun _ => ?_) (fun _ => ?_)
    | exact loopFr _ hm ⟨_,_,_,by omega,hstep.trans hp,rfl,rfl,rfl⟩ (.cons rfl (.cons rfl .nil)) rfl
    | refine ⟨by first | omega | decide | (rw [arr_one]; omega),?_⟩
end Go.Proofs.YtpamokpmlplopaaGreatDoor
namespace Go.Proofs.YtpamokpmlplopaaGreatDoor
open Go.Abs
set_option maxRecDepth 20000
set_option linter.unusedSimpArgs false
set_option linter.unusedVariables false
set_option maxHeartbeats 1000000
attribute [local irreducible] vc vcOps vcStep vcGuard prK hrK gK gsK brK callK ElemK SeqK BlockK ScopeK OpsK CallK LoopK LoopGo finPost ACall PCall PCallE BCall vqOps vqStep vqGuard qrK heK pcK gqK gqsK QOpsK qcallK DrawK
theorem C.relst {S: Addr → Prop} {w: World} {φ: Nat → Go.Abs.Loc} {sz: Nat} {es ds: List AV} {tok: Option Nat} {v: Value} (hl: es.length = ds.length) (hsz: ∀ e ∈ ds,e.cells.length = sz) (hw: WeakL (flat es) (flat ds)) (h: Go.Abs.C S w φ (.lst sz es tok) v): Go.Abs.C S w φ (.lst sz ds tok) v := by
 obtain ⟨k1,k2⟩ := hw.at
 cases h with
 | lst _ _ _ a len cap u hlen hcap hmax hsz' hm hc h1 ht =>
  have hj: ∀ (j: Nat) c,(flat ds)[j]? = some c → ∃ d,(flat es)[j]? = some d := fun j c h => by
   have := (List.getElem?_eq_some_iff.1 h).1
   exact ⟨_,List.getElem?_eq_getElem (by omega)⟩
  refine .lst sz ds tok a len cap u (by omega) hcap hmax hsz (fun j c h => ?_) (fun j c h => ?_) (fun j c h => ?_) ht
  ·
   obtain ⟨d,hd⟩ := hj j c h
   exact hm j d hd
  ·
   obtain ⟨d,hd⟩ := hj j c h
   exact (hc j d hd).weak (k2 j d c hd h)
  ·
   obtain ⟨d,hd⟩ := hj j c h
   exact h1 j d hd
 | lstnil _ _ ht =>
  obtain rfl: ds = [] := List.length_eq_zero_iff.1 (by simpa using hl.symm)
  exact .lstnil sz tok ht
theorem CAll.reset {S: Addr → Prop} {w: World} {φ: Nat → Go.Abs.Loc} {cs: List AV} {vs: Array Value} {i: Nat} {a b: AV} (ha: cs[i]? = some a) (hc: ∀ v,Go.Abs.C S w φ a v → Go.Abs.C S w φ b v) (h: CAll S w φ cs vs): CAll S w φ (cs.set i b) vs := by
 refine ⟨by rw [List.length_set]; exact h.1,fun j x v hx hv => ?_⟩
 rw [List.getElem?_set] at hx
 split at hx
 ·
  rename_i e
  subst e
  split at hx
  ·
   cases hx
   exact hc v (h.2 i a v ha hv)
  ·
   cases hx
 ·
  exact h.2 j x v hx hv
theorem weakL_app: ∀ {a b: List AV} (l: List AV),WeakL a b → WeakL (l ++ a) (l ++ b)
 | _,_,[],h => h
 | _,_,_ :: l,h => ⟨.refl _,weakL_app l h⟩
theorem C.relast {S: Addr → Prop} {w: World} {φ: Nat → Go.Abs.Loc} {sz: Nat} {es: List AV} {cs ds: List AV} {tok: Option Nat} {v: Value} (h: Go.Abs.C S w φ (.lst sz (es ++ [.agg cs]) tok) v) (hsz: ∀ e ∈ es,e.cells.length = sz) (hd: ds.length = sz) (hw: WeakL cs ds): Go.Abs.C S w φ (.lst sz (es ++ [.agg ds]) tok) v := by
 refine C.relst (by simp) (fun e he => ?_) ?_ h
 ·
  rcases List.mem_append.1 he with he | he
  ·
   exact hsz e he
  ·
   rw [List.mem_singleton.1 he]
   exact hd
 ·
  rw [flat_append,flat_append]
  refine weakL_app _ ?_
  show WeakL (cs ++ flat []) (ds ++ flat [])
  rw [flat_nil,List.append_nil,List.append_nil]
  exact hw
theorem ACall.recell {P: Program} {f: FuncId} {args: List AV} {h: List Blk} {K K': AV → List Blk → Prop} (hc: ACall P f args h K')
  (hk: ∀ r h',K' r h' → ∃ (k: Nat) (t: TypeId) (cs cs': List AV),h'[k]? = some (.cells t cs) ∧ (∀ (S: Addr → Prop) (φ: Nat → Go.Abs.Loc) (w: World) (vs: Array Value),CAll S w φ cs vs → CAll S w φ cs' vs) ∧ K r (h'.set k (.cells t cs'))): ACall P f args h K := by
 unfold ACall at hc ⊢
 intro S φ w vs hr ha
 obtain ⟨e1,e2⟩ := hc S φ w vs hr ha
 refine ⟨e1,Calls.mono e2 ?_⟩
 rintro e w' ⟨v,r,h',S',φ',rfl,hK,hC,hr',he⟩
 obtain ⟨k,t,cs,cs',h1,h2,h3⟩ := hk r h' hK
 obtain ⟨q1,q2⟩ := hr'.recell h1 (fun vs hv => h2 S' φ' w' vs hv)
 exact ⟨v,r,_,S',φ',rfl,h3,hC,q1,he.trans q2⟩
abbrev nB (p: DProg) (k: Int) (fst: ByteArray) (m: Nat) (c5 c6 c7 c8 c9: AV): Blk := .cells 85 [.lst 2 (p.Enums.map DEnum.enc) none,.lst 5 (p.Nodes.map DNode.enc) none,.i k,.s fst,.i (m: Int),c5,c6,c7,c8,c9]
abbrev HX (A: List Blk) (y z: Blk) (p: DProg) (k: Int) (c5 c6 c7: AV) (st: NmSt) (fst: ByteArray) (r: List Blk): List Blk :=
 A ++ nB p k fst st.k c5 c6 c7 (.lst 5 (st.vars.map DVar.enc) (some (A.length + 3))) (.lst 10 (st.eqs.map DPlain.enc) (some (A.length + 4))) :: y :: z :: .tok 45 5 st.vars.length :: .tok 53 10 st.eqs.length :: r
section
variable {A r: List Blk} {y z: Blk} {p: DProg} {k: Int} {c5 c6 c7: AV} {fst: ByteArray} {K: AV → List Blk → Prop}
theorem emitF67 {st: NmSt} (q: DPlain) (t: DTy) (on: List DCond) (hs: fst.size ≤ 1000) (hk: st.k + 1 < 100) (hv: st.vars.length ≤ 1000000) (hl: st.eqs.length ≤ 1000000)
  (hK: ∀ r',K (.s (nmN fst (st.k + 1))) (HX A y z p k c5 c6 c7 (freshN (nmN fst) q t on st).2 fst (r ++ r'))) :
  ACall Tryz.prog 67 [.ptr A.length 0,q.enc,.lst 1 [] none,t.enc,.lst 2 (on.map DCond.enc) none] (HX A y z p k c5 c6 c7 st fst r) K := by
 obtain ⟨j,hj⟩: ∃ j,j = st.k + 1 := ⟨_,rfl⟩
 have hw: IntKind.i64.wrap ((st.k: Int) + 1) = (j: Int) := by rw [wrap_in _ (by omega) (by omega)]; omega
 have hd := digN_size j (by omega)
 have he: (⟨#[46]⟩: ByteArray).size = 1 := rfl
 have hz: (fst ++ ⟨#[46]⟩).size = fst.size + 1 := by rw [ByteArray.size_append,he]
 have hi := digits59 (j: Int) ⟨by omega,by omega⟩
 refine ACall.recell (K' := fun rr hh => ∃ (J: Nat) (r': List Blk),rr = .s (nmN fst j) ∧ hh = A ++ nB p k fst j c5 c6 c7 (.lst 5 ((st.vars ++ [(⟨nmN fst j,t,on⟩: DVar)]).map DVar.enc) (some (A.length + 3))) (.lst 10 (st.eqs.map DPlain.enc ++ [.agg [.i q.Kind,.lst 1 [.s (nmN fst j)] (some J),.i q.Op,.lst 2 (q.Args.map DAtom.enc) none,.lst 1 (q.Init.map AV.i) none,.i q.Node,.b q.Reset,.s q.Every.Var,.i q.Every.N,.lst 2 (on.map DCond.enc) none]]) (some (A.length + 4))) :: y :: z :: .tok 45 5 (st.vars.length + 1) :: .tok 53 10 (st.eqs.length + 1) :: (r ++ r')) ?_ ?_
 ·
  refine acallK_of_vc tabOK Tryz.func67 (by kernel_rfl) rfl (n := 71) rfl (rs := [.tmp 10]) rfl ?_
  simp only [go_sem,hw]
  intro _
  refine brK_dec (fun _ => ?_) (fun h => absurd rfl h)
  simp only [go_sem,hw]
  refine drawK mo (by kernel_rfl) ?_
  repeat' first
   | simp only [go_sem,hw]
   | (refine pcK_of hi ?_)
   | refine And.intro (by first | omega | (simp; done) | (simp; omega)) ?_
   | (refine drawZ mo (by kernel_rfl) rfl ?_; simp only [List.dropLast_cons_cons,List.dropLast_singleton,List.getLast_cons_cons,List.getLast_singleton])
   | refine elemK _ (by omega) rfl ?_
  exact finKw (r := .s (nmN fst j)) rfl (.refl _) ⟨_,_,rfl,by simp only [List.map_append,List.map_cons,List.map_nil,DVar.enc_eq]; rfl⟩
 ·
  rintro rr hh ⟨J,r',rfl,rfl⟩
  refine ⟨A.length,_,_,_,(by rw [at_app0]; rfl),(fun S φ w vs hv => by
   refine CAll.reset (i := 9) (b := .lst 10 (st.eqs.map DPlain.enc ++ [.agg [.i q.Kind,.lst 1 ([nmN fst j].map AV.s) none,.i q.Op,.lst 2 (q.Args.map DAtom.enc) none,.lst 1 (q.Init.map AV.i) none,.i q.Node,.b q.Reset,.s q.Every.Var,.i q.Every.N,.lst 2 (on.map DCond.enc) none]]) (some (A.length + 4))) rfl (fun v hc => ?_) hv
   exact C.relast hc (fun e he => by obtain ⟨x,_,rfl⟩ := List.mem_map.1 he; rw [DPlain.enc_cells]; rfl) rfl ⟨.refl _,.tok _ _ _,.refl _,.refl _,.refl _,.refl _,.refl _,.refl _,.refl _,.refl _,trivial⟩),?_⟩
  have h9 := hK r'
  simp only [HX,freshN,← hj,List.map_append,List.map_cons,List.map_nil,DPlain.enc_eq,List.length_append,List.length_cons,List.length_nil,Nat.zero_add] at h9 ⊢
  simpa using h9
end
end Go.Proofs.YtpamokpmlplopaaGreatDoor
namespace Go.Proofs.YtpamokpmlplopaaGreatDoor
open Go.Abs
set_option maxRecDepth 20000
set_option linter.unusedSimpArgs false
set_option linter.unusedVariables false
set_option maxHeartbeats 1000000
attribute [local irreducible] vc vcOps vcStep vcGuard prK hrK gK gsK brK callK ElemK SeqK BlockK ScopeK OpsK CallK LoopK LoopGo finPost ACall PCall PCallE BCall vqOps vqStep vqGuard qrK heK pcK gqK gqsK QOpsK qcallK DrawK
section
variable {A r: List Blk} {y z: Blk} {p: DProg} {k: Int} {c5 c6 c7: AV} {fst: ByteArray} {K: AV → List Blk → Prop}
theorem emitN67 {st: NmSt} (q: DPlain) (s: ByteArray) (rest: List ByteArray) (t: DTy) (on: List DCond) (hr: rest.length ≤ 1000) (hl: st.eqs.length ≤ 1000000)
  (hK: ∀ r',K (.s s) (HX A y z p k c5 c6 c7 ⟨st.vars,st.eqs ++ [{ q with Names := s :: rest,On := on }],st.k⟩ fst (r ++ r'))) :
  ACall Tryz.prog 67 [.ptr A.length 0,q.enc,.lst 1 ((s :: rest).map AV.s) none,t.enc,.lst 2 (on.map DCond.enc) none] (HX A y z p k c5 c6 c7 st fst r) K := by
 refine acallK_of_vc tabOK Tryz.func67 (by kernel_rfl) rfl (n := 71) rfl (rs := [.tmp 10]) rfl ?_
 repeat' first
  | simp only [go_sem]
  | (intro _)
  | refine brK_dec (fun _ => ?_) (fun _ => ?_)
  | (exfalso; omega)
  | (refine drawZ mo (by kernel_rfl) rfl ?_; simp only [List.dropLast_cons_cons,List.dropLast_singleton,List.getLast_cons_cons,List.getLast_singleton])
  | refine And.intro (by first | omega | (simp; done) | (simp; omega)) ?_
  | refine elemK _ (by omega) rfl ?_
 refine finKw (r := .s s) rfl (.refl _) ?_
 simp only [HX,List.map_append,List.map_cons,List.map_nil,DPlain.enc_eq,List.length_append,List.length_cons,List.length_nil,Nat.zero_add] at hK
 exact hK _
end
section
variable (p: DProg) (k: Nat) (n: DNode)
def PlX (f: Nat) (e: Ex): Prop := ∀ (A: List Blk) (y z: Blk) (r: List Blk) (c5 c6 c7: AV) (fst: ByteArray) (on: List DCond) (st: NmSt) (K: AV → List Blk → Prop),fst.size ≤ 1000 → fitsF (rowN p.Enums n) p.Enums e on = true → bnd on st (parts e).length (frN e) →
 (∀ r',K (plN p k fst e on st).1.enc (HX A y z p (k: Int) c5 c6 c7 (plN p k fst e on st).2 fst (r ++ r'))) → ACall Tryz.prog f [.ptr A.length 0,e.enc,.lst 2 (on.map DCond.enc) none] (HX A y z p (k: Int) c5 c6 c7 st fst r) K
def AtX (e: Ex): Prop := ∀ (A: List Blk) (y z: Blk) (r: List Blk) (c5 c6 c7: AV) (fst: ByteArray) (on: List DCond) (st: NmSt) (K: AV → List Blk → Prop),fst.size ≤ 1000 → fitsF (rowN p.Enums n) p.Enums e on = true → bnd on st (parts e).length (gN e) →
 (∀ r',K (atN p k fst e on st).1.enc (HX A y z p (k: Int) c5 c6 c7 (atN p k fst e on st).2 fst (r ++ r'))) → ACall Tryz.prog 106 [.ptr A.length 0,e.enc,.lst 2 (on.map DCond.enc) none] (HX A y z p (k: Int) c5 c6 c7 st fst r) K
def EachX (l: List Ex): Prop := ∀ (A: List Blk) (y z: Blk) (r: List Blk) (c5 c6 c7: AV) (fst: ByteArray) (on: List DCond) (st: NmSt) (K: AV → List Blk → Prop),fst.size ≤ 1000 → fitsL (rowN p.Enums n) p.Enums l on = true → bnd on st (partsL l).length (frL l) →
 (∀ r',K (.lst 2 ((eaN p k fst l on st).1.map DAtom.enc) none) (HX A y z p (k: Int) c5 c6 c7 (eaN p k fst l on st).2 fst (r ++ r'))) → ACall Tryz.prog 103 [.ptr A.length 0,.lst 6 (l.map Ex.enc) none,.lst 2 (on.map DCond.enc) none] (HX A y z p (k: Int) c5 c6 c7 st fst r) K
end
section
variable {p: DProg} {k: Nat} {n: DNode}
theorem apartF {e: Ex} (hty: ∀ n ∈ p.Nodes,tyOK p n) (hp: ∀ y ∈ parts e,partE y = true) (hok: okE e) (h: PlX p k n 65 e) {A r: List Blk} {y z: Blk} {c5 c6 c7: AV} {fst: ByteArray} {on: List DCond} {st: NmSt} {K: AV → List Blk → Prop}
  (hs: fst.size ≤ 1000) (hf: fitsF (rowN p.Enums n) p.Enums e on = true) (hb: bnd on st (parts e).length (frN e + 1))
  (hK: ∀ r',K (.s (freshN (nmN fst) (plN p k fst e on st).1 (tyN p (k: Int) e) on (plN p k fst e on st).2).1.Var) (HX A y z p (k: Int) c5 c6 c7 (freshN (nmN fst) (plN p k fst e on st).1 (tyN p (k: Int) e) on (plN p k fst e on st).2).2 fst (r ++ r'))) :
  ACall Tryz.prog 36 [.ptr A.length 0,e.enc,.lst 1 [] none,.lst 2 (on.map DCond.enc) none] (HX A y z p (k: Int) c5 c6 c7 st fst r) K := by
 obtain ⟨b1,b2,b3,b4⟩ := hb
 have g: grewN st (plN p k fst e on st).2 (frN e) := plain_grew (nmN fst) (tyN p (k: Int)) (cnN p) (vaN p) (fiN p) e hp on st
 have h1 := fun r K => h A y z r c5 c6 c7 fst on st K hs hf ⟨b1,by omega,by omega,by omega⟩
 have hof := OfXk p (k: Int) e hty hp hok
 have htn: tyN p (k: Int) e = (ofN p (k: Int) e).1 := rfl
 rw [htn] at hK
 generalize ofN p (k: Int) e = O at hof hK
 obtain ⟨t,ok⟩ := O
 generalize plN p k fst e on st = R at h1 hK g
 obtain ⟨q,st1⟩ := R
 obtain ⟨g1,g2,g3⟩ := g
 dsimp only at h1 hK g1 g2 g3
 refine acallK_of_vc tabOK Tryz.func36 (by kernel_rfl) rfl (n := 38) rfl (rs := [.tmp 8]) rfl ?_
 simp only [go_sem]
 refine h1 _ _ fun r1 => ?_
 simp only [go_sem]
 intro _
 refine brK_dec (fun _ => ?_) (fun h => absurd rfl h)
 simp only [go_sem]
 refine drawM [A.length + (r.length + (r1.length + 1 + 1) + 1 + 1 + 1 + 1 + 1)] (.pur 0 (.pur 1 (.pur 2 (.pur 3 (.pur 4 (.pur 5 (.pur 6 (.pur 7 (.pur 8 (.pur 9 (.pur 10 (.pur 11 (.pur 12 (.eff 13 .nil)))))))))))))) mo (by kernel_rfl) ?_
 simp only [go_sem]
 refine pcK_of hof ?_
 simp only [go_sem]
 refine ACall.weakA (args := [.ptr A.length 0,q.enc,.lst 1 [] none,t.enc,.lst 2 (on.map DCond.enc) none]) ⟨.refl _,.refl _,.refl _,.refl _,.refl _,trivial⟩ ?_
 refine emitF67 q t on hs (by omega) (by omega) (by omega) fun r2 => ?_
 simp only [go_sem]
 exact finKw (r := .s (nmN fst (st1.k + 1))) rfl (.refl _) (hK _)
end
end Go.Proofs.YtpamokpmlplopaaGreatDoor
