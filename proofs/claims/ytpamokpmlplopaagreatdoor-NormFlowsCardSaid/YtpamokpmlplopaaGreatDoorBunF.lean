/-
  NmX2, NmX3, NmX4, NmX5, NmP, NmX6, NmV, Sched1, Sched2, Sched3, Sched4, Sched5, Sched8, Law12, Same2, NmEq, NmL, NmFL: put together.
-/
import Derived.Test.YtpamokpmlplopaaGreatDoorBunA
import Derived.Test.YtpamokpmlplopaaGreatDoorBunB
import Derived.Test.YtpamokpmlplopaaGreatDoorBunC
import Derived.Test.YtpamokpmlplopaaGreatDoorBunD
import Derived.Test.YtpamokpmlplopaaGreatDoorBunE
namespace Go.Proofs.YtpamokpmlplopaaGreatDoor
open Go.Abs
set_option maxRecDepth 20000
set_option linter.unusedSimpArgs false
set_option linter.unusedVariables false
set_option maxHeartbeats 1000000
attribute [local irreducible] vc vcOps vcStep vcGuard prK hrK gK gsK brK callK ElemK SeqK BlockK ScopeK OpsK CallK LoopK LoopGo finPost ACall PCall PCallE BCall vqOps vqStep vqGuard qrK heK pcK gqK gqsK QOpsK qcallK DrawK
section
variable {p: DProg} {k: Nat} {n: DNode}
theorem atX_leaf {e: Ex} (hl: leafK e.kind = true): AtX p k n e := by
 intro A y z r c5 c6 c7 fst on st K hs hf hb hK
 have hk: e.kind = 1 ∨ e.kind = 2 ∨ e.kind = 3 ∨ e.kind = 4 := by unfold leafK at hl; exact of_decide_eq_true hl
 have hat: atN p k fst e on st = (leafA (vaN p) e,st) := by unfold atN atomN; rw [if_pos hl]
 rw [hat] at hK
 unfold leafA at hK
 refine acallK_of_vc tabOK Tryz.func106 (by kernel_rfl) rfl (n := 44) rfl (rs := [.cell 6 51]) rfl ?_
 by_cases h3: e.kind = 3
 ·
  rw [if_pos h3] at hK
  repeat' first
   | simp only [go_sem]
   | refine brK_dec (fun _ => ?_) (fun _ => ?_)
   | (exfalso; omega)
   | exact finKe (⟨e.name,0⟩: DAtom).enc (by simp only [go_sem]; rfl) (by rw [DAtom.enc_eq]) (by simpa using hK _)
 ·
  rw [if_neg h3] at hK
  by_cases h4: e.kind = 4
  ·
   rw [if_pos h4] at hK
   have hc := arm91 p.Enums e.name
   have hva: vaN p e.name = (armF p.Enums e.name).2.1 := rfl
   rw [hva] at hK
   generalize armF p.Enums e.name = q at hc hK
   obtain ⟨t,v,ok⟩ := q
   dsimp only at hK
   repeat' first
    | simp only [go_sem]
    | refine brK_dec (fun _ => ?_) (fun _ => ?_)
    | (exfalso; omega)
    | refine drawK mo (by kernel_rfl) ?_
    | refine pcK_of hc ?_
    | exact finKe (⟨⟨#[]⟩,v⟩: DAtom).enc (by simp only [go_sem]; rfl) (by rw [DAtom.enc_eq]) (by simpa using hK _)
  ·
   rw [if_neg h4] at hK
   repeat' first
    | simp only [go_sem]
    | refine brK_dec (fun _ => ?_) (fun _ => ?_)
    | (exfalso; omega)
    | exact finKe (⟨⟨#[]⟩,e.n⟩: DAtom).enc (by simp only [go_sem]; rfl) (by rw [DAtom.enc_eq]) (by simpa using hK _)
theorem atX_of (hty: ∀ n ∈ p.Nodes,tyOK p n) {e: Ex} (hp: ∀ y ∈ parts e,partE y = true) (hok: okE e) (h: PlX p k n 65 e): AtX p k n e := by
 by_cases hl: leafK e.kind = true
 ·
  exact atX_leaf hl
 intro A y z r c5 c6 c7 fst on st K hs hf hb hK
 have hk: ¬ e.kind = 1 ∧ ¬ e.kind = 2 ∧ ¬ e.kind = 3 ∧ ¬ e.kind = 4 := by
  unfold leafK at hl
  simp only [decide_eq_true_eq,not_or] at hl
  exact hl
 have hat: atN p k fst e on st = freshN (nmN fst) (plN p k fst e on st).1 (tyN p (k: Int) e) on (plN p k fst e on st).2 := by unfold atN atomN; rw [if_neg hl]
 rw [hat] at hK
 have hg: gN e = frN e + 1 := by unfold gN; rw [if_neg hl]
 rw [hg] at hb
 have h1 := fun (r: List Blk) (K: AV → List Blk → Prop) => apartF hty hp hok h (A := A) (r := r) (y := y) (z := z) (c5 := c5) (c6 := c6) (c7 := c7) (fst := fst) (on := on) (st := st) (K := K) hs hf hb
 have hN: (freshN (nmN fst) (plN p k fst e on st).1 (tyN p (k: Int) e) on (plN p k fst e on st).2).1.N = 0 := rfl
 generalize freshN (nmN fst) (plN p k fst e on st).1 (tyN p (k: Int) e) on (plN p k fst e on st).2 = F at h1 hK hN
 obtain ⟨⟨f,fN⟩,st2⟩ := F
 dsimp only at h1 hK hN
 subst hN
 refine acallK_of_vc tabOK Tryz.func106 (by kernel_rfl) rfl (n := 44) rfl (rs := [.cell 6 51]) rfl ?_
 repeat' first
  | simp only [go_sem]
  | refine brK_dec (fun _ => ?_) (fun _ => ?_)
  | (exfalso; omega)
 refine ACall.weakA (args := [.ptr A.length 0,e.enc,.lst 1 [] none,.lst 2 (on.map DCond.enc) none]) ⟨.refl _,.refl _,.nil _,.refl _,trivial⟩ ?_
 refine h1 _ _ fun r1 => ?_
 simp only [go_sem]
 exact finKw (r := (⟨f,0⟩: DAtom).enc) (by simp only [go_sem]; rfl) (by rw [DAtom.enc_eq]; exact .refl _) (hK _)
theorem eachX_of {l: List Ex} (hl: l.length ≤ 1000) (hx: ∀ x ∈ l,AtX p k n x) (hp: ∀ x ∈ l,∀ y ∈ parts x,partE y = true): EachX p k n l := by
 intro A y z r c5 c6 c7 fst on st K hs hf hb hK
 obtain ⟨b1,b2,b3,b4⟩ := hb
 have hlen: ∀ i,(eaN p k fst (l.take i) on st).1.length = (l.take i).length := fun i => eachN_len _ _ _ _ _ _ _ _
 refine acallK_of_vc tabOK Tryz.func103 (by kernel_rfl) rfl (n := 27) rfl (rs := [.tmp 6]) rfl ?_
 simp only [go_sem]
 refine loop_fr [7,8,10,11,12,13,14,15,16,17,18,19,20,21,22,23,24,25] (fun m C hh => ∃ (i: Nat) (r': List Blk),i ≤ l.length ∧ m = l.length - i ∧
  C = [(8,.raw (.int .i64 (i: Nat))),(7,.lst 2 ((eaN p k fst (l.take i) on st).1.map DAtom.enc) (some (A.length + (r.length + 1 + 1 + 1 + 1 + 1))))] ∧
  hh = HX A y z p (k: Int) c5 c6 c7 (eaN p k fst (l.take i) on st).2 fst (r ++ .tok 51 2 (eaN p k fst (l.take i) on st).1.length :: r')) l.length _ ⟨0,[],by omega,by omega,rfl,by rw [List.take_zero]; unfold eaN; rw [eachN_nil]; rfl⟩ (.cons rfl (.cons (by rw [List.take_zero]; unfold eaN; rw [eachN_nil]; rfl) .nil)) ?_
 rintro m C j hh ⟨i,r',hi,rfl,rfl,rfl⟩
 simp only [go_sem]
 intro _
 refine brK_dec (fun hlt => ?_) (fun hge => ?_)
 ·
  obtain ⟨x,hq⟩: ∃ x,l[i]? = some x := ⟨_,List.getElem?_eq_getElem (by omega)⟩
  have hxm := List.mem_of_getElem? hq
  have hfx: fitsF (rowN p.Enums n) p.Enums x on = true := by
   rw [fitsL_all,List.all_eq_true] at hf
   exact hf x hxm
  have g: grewN st (eaN p k fst (l.take i) on st).2 (frL (l.take i)) := each_grew (nmN fst) (tyN p (k: Int)) (cnN p) (vaN p) (fiN p) (fun y hy => hp y (List.mem_of_mem_take hy)) on st
  have hfr := frL_at hq
  have hpl := partsL_in hxm
  have hll := hlen i
  have hnx := eaN_next (p := p) (k := k) (fst := fst) (on := on) (st := st) hq
  have h1 := fun st1 (h: grewN st st1 (frL (l.take i))) r K => hx x hxm A y z r c5 c6 c7 fst on st1 K hs hfx ⟨by omega,by have := h.1; omega,by have := h.2.1; omega,by have := h.2.2; omega⟩
  generalize eaN p k fst (l.take i) on st = R at g hll hnx ⊢
  obtain ⟨as1,st1⟩ := R
  dsimp only at g hll hnx
  have h1 := h1 st1 g
  simp only [go_sem]
  refine elemHave (x := x) (by omega) (by simpa using hq) ?_
  simp only [go_sem]
  refine h1 _ _ fun r2 => ?_
  generalize atN p k fst x on st1 = AA at hnx ⊢
  obtain ⟨a,st2⟩ := AA
  dsimp only at hnx ⊢
  simp only [go_sem]
  rw [List.length_take] at hll
  refine And.intro (by first | omega | (simp; done) | (simp; omega)) ?_
  refine loopFr _ (by omega) ⟨i + 1,_,by omega,rfl,rfl,by rw [hnx]; simp; rfl⟩ (.next rfl (by omega) (.cons (by rw [hnx]; simp) .nil)) rfl
 ·
  rw [List.take_of_length_le (by omega)]
  simp only [go_sem]
  refine ⟨_,rfl,_,.tok _ _ _,?_⟩
  exact hK _
theorem callX104 {e: Ex} (h13: e.kind = 13) (hn: e.n = 0 ∨ e.n = 1) (hsn: e.n ≤ e.subs.length) (hp: ∀ x ∈ e.subs,∀ y ∈ parts x,partE y = true) (hx: ∀ x ∈ e.subs,AtX p k n x): PlX p k n 104 e := by
 intro A y z r c5 c6 c7 fst on st K hs hf hb hK
 obtain ⟨b1,b2,b3,b4⟩ := hb
 rw [frN_eq,if_neg (by omega),if_neg (by omega),Nat.zero_add] at b2 b3 b4
 rw [parts_lenC] at b1
 have hsl := subs_le2 e.subs
 have hfL: fitsL (rowN p.Enums n) p.Enums e.subs on = true := by rw [fitsF_eq] at hf; simpa [h13] using hf
 rw [plN_13 h13] at hK
 obtain ⟨m,hm⟩: ∃ m: Nat,(m: Int) = (e.subs.length: Int) - e.n := ⟨((e.subs.length: Int) - e.n).toNat,by omega⟩
 have hw: IntKind.i64.wrap ((e.subs.length: Int) - e.n) = (m: Int) := by rw [hm,wrap_in _ (by omega) (by omega)]
 have hE: EachX p k n (e.subs.take m) := eachX_of (by rw [List.length_take]; omega) (fun x h => hx x (List.mem_of_mem_take h)) (fun x h => hp x (List.mem_of_mem_take h))
 have hfT: fitsL (rowN p.Enums n) p.Enums (e.subs.take m) on = true := by
  rw [fitsL_all,List.all_eq_true] at hfL ⊢
  exact fun x h => hfL x (List.mem_of_mem_take h)
 have hfr: frL (e.subs.take m) ≤ frL e.subs := by
  have: frL e.subs = frL (e.subs.take m) + frL (e.subs.drop m) := by rw [← frL_append,List.take_append_drop]
  omega
 have hpr: (partsL (e.subs.take m)).length ≤ (partsL e.subs).length := by
  have: partsL e.subs = partsL (e.subs.take m) ++ partsL (e.subs.drop m) := by
   conv => lhs; rw [← List.take_append_drop m e.subs]
   generalize e.subs.take m = l
   generalize e.subs.drop m = l2
   induction l with
   | nil => rfl
   | cons x l ih => rw [List.cons_append,partsL,partsL,ih,List.append_assoc]
  rw [this,List.length_append]
  omega
 have hE1 := fun r K => hE A y z r c5 c6 c7 fst on st K hs hfT ⟨by omega,by omega,by omega,by omega⟩
 have g: grewN st (eaN p k fst (e.subs.take m) on st).2 (frL (e.subs.take m)) := each_grew (nmN fst) (tyN p (k: Int)) (cnN p) (vaN p) (fiN p) (fun y hy => hp y (List.mem_of_mem_take hy)) on st
 have hll: (eaN p k fst (e.subs.take m) on st).1.length = m := by
  unfold eaN
  rw [eachN_len,List.length_take]
  omega
 rcases hn with hn | hn
 ·
  have hme: m = e.subs.length := by omega
  rw [if_neg (by omega)] at hK
  have hst: e.subs.take m = e.subs := List.take_of_length_le (by omega)
  rw [hst] at hE1 hll
  generalize eaN p k fst e.subs on st = G at hE1 hK hll
  obtain ⟨ats,st1⟩ := G
  dsimp only at hE1 hK hll
  refine acallK_of_vc tabOK Tryz.func104 (by kernel_rfl) rfl (n := 44) rfl (rs := [.cell 6 53]) rfl ?_
  simp only [go_sem,hw]
  intro _
  refine drawM [A.length] (.pur 0 (.pur 1 (.pur 2 (.pur 4 (.pur 5 (.pur 7 (.pur 8 (.pur 9 (.pur 10 (.pur 11 (.pur 12 (.two 3 (.pur 6 (.two 13 (.pur 14 (.eff 15 (.eff 16 .nil))) 15 (.eff 13 (.pur 14 (.eff 16 .nil))))) 15 (.eff 3 (.pur 6 (.eff 13 (.pur 14 (.eff 16 .nil))))))))))))))))) mo (by kernel_rfl) ?_
  repeat' first
   | simp only [go_sem,Int.toNat_natCast]
   | refine pcK_of (find24 p e.name) ?_
   | (rw [hst]; refine hE1 _ _ fun r1 => ?_)
   | refine brK_dec (fun _ => ?_) (fun _ => ?_)
   | (exfalso; omega)
   | refine And.intro (by first | omega | (simp; done) | (simp; omega)) ?_
   | refine And.intro ?_ ?_
   | exact finKw (r := ({ plain0 7 0 ats with Node := findF p e.name }: DPlain).enc) (by simp only [go_sem]; rfl) (by rw [DPlain.enc_eq]; exact Weak.aggs ⟨.refl _,.nil _,.refl _,.refl _,.nil _,.refl _,.refl _,.refl _,.refl _,.nil _,trivial⟩) (hK _)
 ·
  obtain ⟨x,hq⟩: ∃ x,e.subs[m]? = some x := ⟨_,List.getElem?_eq_getElem (by omega)⟩
  have hxm := List.mem_of_getElem? hq
  have hfx: fitsF (rowN p.Enums n) p.Enums x on = true := by
   rw [fitsL_all,List.all_eq_true] at hfL
   exact hfL x hxm
  have hfr2 := frL_at hq
  have hpl := partsL_in hxm
  have hnx := eaN_next (p := p) (k := k) (fst := fst) (on := on) (st := st) hq
  rw [List.take_of_length_le (i := m + 1) (by omega)] at hnx
  rw [if_pos hn,hnx] at hK
  have h1 := fun st1 (h: grewN st st1 (frL (e.subs.take m))) r K => hx x hxm A y z r c5 c6 c7 fst on st1 K hs hfx ⟨by omega,by have := h.1; omega,by have := h.2.1; omega,by have := h.2.2; omega⟩
  generalize eaN p k fst (e.subs.take m) on st = G at hE1 hK hll g
  obtain ⟨ats,st1⟩ := G
  dsimp only at hE1 hK hll g
  have h1 := h1 st1 g
  generalize atN p k fst x on st1 = AA at h1 hK
  obtain ⟨a,st2⟩ := AA
  dsimp only at h1 hK
  have e1: (ats ++ [a]).take ((ats ++ [a]).length - 1) = ats := by simp
  have e2: (ats ++ [a]).getLastD noAtom = a := by simp
  rw [e1,e2] at hK
  refine acallK_of_vc tabOK Tryz.func104 (by kernel_rfl) rfl (n := 44) rfl (rs := [.cell 6 53]) rfl ?_
  simp only [go_sem,hw]
  intro _
  refine drawM [A.length] (.pur 0 (.pur 1 (.pur 2 (.pur 4 (.pur 5 (.pur 7 (.pur 8 (.pur 9 (.pur 10 (.pur 11 (.pur 12 (.two 3 (.pur 6 (.two 13 (.pur 14 (.eff 15 (.eff 16 .nil))) 15 (.eff 13 (.pur 14 (.eff 16 .nil))))) 15 (.eff 3 (.pur 6 (.eff 13 (.pur 14 (.eff 16 .nil))))))))))))))))) mo (by kernel_rfl) ?_
  repeat' first
   | simp only [go_sem,Int.toNat_natCast]
   | refine pcK_of (find24 p e.name) ?_
   | (refine hE1 _ _ fun r1 => ?_)
   | refine brK_dec (fun _ => ?_) (fun _ => ?_)
   | (exfalso; omega)
   | refine elemHave (x := x) (by omega) (by simpa using hq) ?_
   | (refine h1 _ _ fun r2 => ?_)
   | refine And.intro (by first | omega | (simp; done) | (simp; omega)) ?_
   | refine And.intro ?_ ?_
   | exact finKw (r := ({ plain0 7 0 ats with Node := findF p e.name,Reset := true,Every := a }: DPlain).enc) (by simp only [go_sem]; rfl) (by rw [DPlain.enc_eq]; exact Weak.aggs ⟨.refl _,.nil _,.refl _,.refl _,.nil _,.refl _,.refl _,.refl _,.refl _,.nil _,trivial⟩) (hK _)
end
end Go.Proofs.YtpamokpmlplopaaGreatDoor
namespace Go.Proofs.YtpamokpmlplopaaGreatDoor
open Go.Abs
set_option maxRecDepth 20000
set_option linter.unusedSimpArgs false
set_option linter.unusedVariables false
set_option maxHeartbeats 1000000
attribute [local irreducible] vc vcOps vcStep vcGuard prK hrK gK gsK brK callK ElemK SeqK BlockK ScopeK OpsK CallK LoopK LoopGo finPost ACall PCall PCallE BCall vqOps vqStep vqGuard qrK heK pcK gqK gqsK QOpsK qcallK DrawK
section
variable {p: DProg} {k: Nat} {n: DNode}
set_option maxHeartbeats 8000000 in
theorem flowX105 (hty: ∀ n ∈ p.Nodes,tyOK p n) {e: Ex} (hk: e.kind = 8 ∨ e.kind = 9 ∨ e.kind = 10 ∨ e.kind = 11 ∨ e.kind = 12) (hp0: ∀ y ∈ parts e,partE y = true) (hok: okE e) (hp: ∀ x ∈ e.subs,∀ y ∈ parts x,partE y = true) (hx: ∀ x ∈ e.subs,AtX p k n x): PlX p k n 105 e := by
 have hsl := subs_le hok
 have hsl2 := subs_le2 e.subs
 obtain ⟨_,hlo,hhi,ha11,ha12,hn13⟩ := part_facts (hp0 e (self_parts e))
 have hE: EachX p k n e.subs := eachX_of (by omega) hx hp
 have hE8: EachX p k n (e.subs.drop 1) := eachX_of (by rw [List.length_drop]; omega) (fun x h => hx x (List.mem_of_mem_drop h)) (fun x h => hp x (List.mem_of_mem_drop h))
 intro A y z r c5 c6 c7 fst on st K hs hf hb hK
 obtain ⟨b1,b2,b3,b4⟩ := hb
 have b1' := b1
 rw [parts_lenC] at b1'
 by_cases h8: e.kind = 8
 ·
  have h2: (subsE e).1 = 2 ∧ (subsE e).2 = 2 := by simp [subsE,h8]
  have hfL: fitsL (rowN p.Enums n) p.Enums (e.subs.drop 1) on = true := by rw [fitsF_eq] at hf; simp [h8] at hf; rw [List.drop_one]; exact hf.2
  rw [frN_eq,if_neg (by omega),if_pos h8,Nat.zero_add] at b2 b3 b4
  obtain ⟨x0,hx0⟩: ∃ x,e.subs[0]? = some x := ⟨_,List.getElem?_eq_getElem (by omega)⟩
  have hpr: (partsL (e.subs.drop 1)).length ≤ (partsL e.subs).length := by
   generalize e.subs = l
   cases l with
   | nil => simp
   | cons x l => rw [partsL,List.length_append]; simp
  have hc := constX p.Enums x0 (sub_okE hok (List.mem_of_getElem? hx0))
  rw [plN_8 h8 hx0] at hK
  generalize constT p.Enums x0 = cc at hc hK
  obtain ⟨cv,ct,cok⟩ := cc
  dsimp only at hK
  refine acallK_of_vc tabOK Tryz.func105 (by kernel_rfl) rfl (n := 142) rfl (rs := [.cell 6 53]) rfl ?_
  repeat' first
   | simp only [go_sem]
   | refine brK_dec (fun _ => ?_) (fun _ => ?_)
   | (exfalso; omega)
  refine drawK mo (by kernel_rfl) ?_
  simp only [go_sem]
  refine elemHave (x := x0) (by omega) (by simpa using hx0) ?_
  simp only [go_sem]
  refine pcK_of hc ?_
  simp only [go_sem]
  refine And.intro (by omega) ?_
  refine hE8 A y z _ c5 c6 c7 fst on st _ hs hfL ⟨by omega,by omega,by omega,by omega⟩ fun r1 => ?_
  generalize eaN p k fst (e.subs.drop 1) on st = G at hK ⊢
  obtain ⟨ats,st1⟩ := G
  dsimp only at hK ⊢
  simp only [go_sem]
  exact finKw (r := ({ plain0 5 0 ats with Init := cv }: DPlain).enc) (by simp only [go_sem]; rfl) (by rw [DPlain.enc_eq]; exact Weak.aggs ⟨.refl _,.nil _,.refl _,.refl _,.refl _,.refl _,.refl _,.refl _,.refl _,.nil _,trivial⟩) (hK _)
 by_cases h10: e.kind = 10
 ·
  have hfL: fitsL (rowN p.Enums n) p.Enums e.subs on = true := by rw [fitsF_eq] at hf; simpa [h10] using hf
  rw [frN_eq,if_neg (by omega),if_neg (by omega),Nat.zero_add] at b2 b3 b4
  rw [plN_10 h10] at hK
  have hof := OfXk p (k: Int) e hty hp0 hok
  have htn: tyN p (k: Int) e = (ofN p (k: Int) e).1 := rfl
  rw [htn] at hK
  generalize ofN p (k: Int) e = O at hof hK
  obtain ⟨t,ok⟩ := O
  dsimp only at hK
  have hz := zero143 t
  generalize List.replicate (cellsZ t) (0: Int) = cv at hz hK
  refine acallK_of_vc tabOK Tryz.func105 (by kernel_rfl) rfl (n := 142) rfl (rs := [.cell 6 53]) rfl ?_
  repeat' first
   | simp only [go_sem]
   | refine brK_dec (fun _ => ?_) (fun _ => ?_)
   | (exfalso; omega)
  refine drawK mo (by kernel_rfl) ?_
  simp only [go_sem]
  refine pcK_of hof ?_
  simp only [go_sem]
  refine drawM [A.length,A.length + (r.length + 1 + 1 + 1 + 1 + 1 + 1)] (.pur 0 (.pur 1 (.pur 2 (.pur 3 (.pur 4 (.pur 5 (.eff 6 (.pur 7 (.eff 8 .nil))))))))) mo (by kernel_rfl) ?_
  simp only [go_sem]
  refine pcK_of hz ?_
  simp only [go_sem]
  refine hE A y z _ c5 c6 c7 fst on st _ hs hfL ⟨by omega,by omega,by omega,by omega⟩ fun r1 => ?_
  generalize eaN p k fst e.subs on st = G at hK ⊢
  obtain ⟨ats,st1⟩ := G
  dsimp only at hK ⊢
  simp only [go_sem]
  exact finKw (r := ({ plain0 5 0 ats with Init := cv }: DPlain).enc) (by simp only [go_sem]; rfl) (by rw [DPlain.enc_eq]; exact Weak.aggs ⟨.refl _,.nil _,.refl _,.refl _,.refl _,.refl _,.refl _,.refl _,.refl _,.nil _,trivial⟩) (hK _)
 by_cases h9: e.kind = 9
 ·
  rw [frN_eq,if_pos h9,if_neg (by omega)] at b2 b3 b4
  have hfL: fitsL (rowN p.Enums n) p.Enums e.subs on = true := by rw [fitsF_eq] at hf; simpa [h9] using hf
  rw [plN_9 h9] at hK
  have g := grewN.fresh (nmN fst) { plain0 5 0 [noAtom] with Init := [1] } tyB on st
  have hNm: (freshN (nmN fst) { plain0 5 0 [noAtom] with Init := [1] } tyB on st).1 = ⟨nmN fst (st.k + 1),0⟩ := rfl
  have hem := fun r K => emitF67 (A := A) (r := r) (y := y) (z := z) (p := p) (k := (k: Int)) (c5 := c5) (c6 := c6) (c7 := c7) (fst := fst) (K := K) (st := st) { plain0 5 0 [noAtom] with Init := [1] } tyB on hs (by omega) (by omega) (by omega)
  rw [hNm] at hK
  generalize (freshN (nmN fst) { plain0 5 0 [noAtom] with Init := [1] } tyB on st).2 = st1 at hem hK g
  obtain ⟨g1,g2,g3⟩ := g
  refine acallK_of_vc tabOK Tryz.func105 (by kernel_rfl) rfl (n := 142) rfl (rs := [.cell 6 53]) rfl ?_
  repeat' first
   | simp only [go_sem]
   | refine brK_dec (fun _ => ?_) (fun _ => ?_)
   | (exfalso; omega)
  refine ACall.weakA (args := [.ptr A.length 0,({ plain0 5 0 [noAtom] with Init := [1] }: DPlain).enc,.lst 1 [] none,tyB.enc,.lst 2 (on.map DCond.enc) none]) ⟨.refl _,by
   rw [DPlain.enc_eq]
   exact Weak.aggs ⟨.refl _,.nil _,.refl _,by
    show Weak _ (.lst 2 [noAtom.enc] none)
    rw [DAtom.enc_eq]
    exact .tok _ _ _,.tok _ _ _,.refl _,.refl _,.refl _,.refl _,.nil _,trivial⟩,.nil _,by rw [DTy.enc_eq]; exact .refl _,.refl _,trivial⟩ ?_
  refine hem _ _ fun r2 => ?_
  simp only [go_sem]
  refine hE A y z _ c5 c6 c7 fst on st1 _ hs hfL ⟨by omega,by omega,by omega,by omega⟩ fun r3 => ?_
  have hlen: (eaN p k fst e.subs on st1).1.length = e.subs.length := eachN_len _ _ _ _ _ _ _ _
  generalize eaN p k fst e.subs on st1 = G at hK hlen ⊢
  obtain ⟨ats,st2⟩ := G
  dsimp only at hK hlen ⊢
  simp only [go_sem]
  refine And.intro (by first | omega | (simp; done) | (simp; omega)) ?_
  refine finKw (r := (plain0 4 0 (⟨nmN fst (st.k + 1),0⟩ :: ats)).enc) (by simp only [go_sem]; rfl) ?_ (hK _)
  rw [DPlain.enc_eq]
  show Weak _ (.agg [.i 4,_,_,.lst 2 ((⟨nmN fst (st.k + 1),0⟩: DAtom).enc :: ats.map DAtom.enc) none,_,_,_,_,_,_])
  rw [DAtom.enc_eq]
  exact Weak.aggs ⟨.refl _,.nil _,.refl _,.tok _ _ _,.nil _,.refl _,.refl _,.refl _,.refl _,.nil _,trivial⟩
 by_cases h11: e.kind = 11
 ·
  rw [fitsF_eq] at hf
  simp [h11] at hf
  obtain ⟨⟨⟨⟨⟨_,_⟩,hrow⟩,_⟩,hon⟩,hfL⟩ := hf
  have hon := eqB_t hon
  have hdl: on.dropLast = (rowN p.Enums n e.name).1 := by
   conv => lhs; rw [hon]
   simp
  rw [← hdl] at hfL
  obtain ⟨m,hm⟩: ∃ m,on.length = m + 1 := ⟨on.length - 1,by
   have := congrArg List.length hon
   simp at this
   omega⟩
  have hw: IntKind.i64.wrap ((on.length: Int) - 1) = (m: Int) := by rw [hm,wrap_in _ (by omega) (by omega)]; omega
  have hdt: on.take m = on.dropLast := by rw [List.dropLast_eq_take,hm]; rfl
  rw [frN_eq,if_neg (by omega),if_neg (by omega),Nat.zero_add] at b2 b3 b4
  rw [plN_11 h11] at hK
  have hdll: on.dropLast.length ≤ on.length := by rw [List.length_dropLast]; omega
  have hE1 := fun r K => hE A y z r c5 c6 c7 fst on.dropLast st K hs hfL ⟨by omega,by omega,by omega,by omega⟩
  rw [← hdt] at hE1 hK
  refine acallK_of_vc tabOK Tryz.func105 (by kernel_rfl) rfl (n := 142) rfl (rs := [.cell 6 53]) rfl ?_
  repeat' first
   | simp only [go_sem]
   | refine brK_dec (fun _ => ?_) (fun _ => ?_)
   | (exfalso; omega)
  refine drawM [A.length,A.length + (r.length + 1 + 1 + 1 + 1 + 1 + 1)] (.pur 0 (.pur 1 (.pur 2 (.pur 3 (.pur 4 (.pur 5 (.pur 6 (.pur 7 (.eff 8 (.pur 9 (.eff 10 .nil))))))))))) mo (by kernel_rfl) ?_
  simp only [go_sem,hw,Int.toNat_natCast]
  refine And.intro (by omega) ?_
  refine hE1 _ _ fun r1 => ?_
  generalize eaN p k fst e.subs (on.take m) st = G at hK ⊢
  obtain ⟨ats,st1⟩ := G
  dsimp only at hK ⊢
  simp only [go_sem]
  refine finKw (r := (plain0 1 0 ats).enc) (by simp only [go_sem]; rfl) ?_ (hK _)
  rw [DPlain.enc_eq]
  exact Weak.aggs ⟨.refl _,.nil _,.refl _,.refl _,.nil _,.refl _,.refl _,.refl _,.refl _,.nil _,trivial⟩
 have h12: e.kind = 12 := by omega
 have hal: e.arms.length = e.subs.length := by
  have: (subsE e).1 = e.arms.length ∧ (subsE e).2 = e.arms.length := by simp [subsE,h12]
  omega
 rw [frN_eq,if_neg (by omega),if_neg (by omega),Nat.zero_add] at b2 b3 b4
 have hfM: fitsM (rowN p.Enums n) p.Enums e.name e.arms e.subs on = true := by rw [fitsF_eq] at hf; simp [h12] at hf; exact hf.2
 rw [plN_12 h12] at hK
 have hlen: ∀ i,(meN p k fst e.name (e.arms.take i) (e.subs.take i) on st).1.length = (e.subs.take i).length := fun i => meN_len (by rw [List.length_take,List.length_take,hal])
 refine acallK_of_vc tabOK Tryz.func105 (by kernel_rfl) rfl (n := 142) rfl (rs := [.cell 6 53]) rfl ?_
 repeat' first
  | simp only [go_sem]
  | refine brK_dec (fun _ => ?_) (fun _ => ?_)
  | (exfalso; omega)
 refine loop_fr [13,14,15,16,17,103,104,105,106,107,108,109,110,111,112,113,114,115,116,117,118,119,120,121,122,123,124,125,126,127,128,129,130,131,132,133,134,135,136,137,138,139] (fun mm C hh => ∃ (i: Nat) (r': List Blk),i ≤ e.subs.length ∧ mm = e.subs.length - i ∧
  C = [(14,.raw (.int .i64 (i: Nat))),(13,.lst 2 (((⟨e.name,0⟩: DAtom) :: (meN p k fst e.name (e.arms.take i) (e.subs.take i) on st).1).map DAtom.enc) (some (A.length + (r.length + 2 + 1 + 1 + 1 + 1 + 1))))] ∧
  hh = HX A y z p (k: Int) c5 c6 c7 (meN p k fst e.name (e.arms.take i) (e.subs.take i) on st).2 fst (r ++ .cells 72 [.i e.kind,.i e.n,.s e.name,.i e.op,.lst 1 (e.arms.map AV.s) none,.lst 6 (e.subs.map Ex.enc) none] :: .cells 53 [.i 0,.raw (.slice none 0 0),.i 0,.raw (.slice none 0 0),.raw (.slice none 0 0),.i 0,.b false,.s ⟨#[]⟩,.i 0,.raw (.slice none 0 0)] :: .tok 51 2 ((meN p k fst e.name (e.arms.take i) (e.subs.take i) on st).1.length + 1) :: r')) e.subs.length _
  ⟨0,[],by omega,by omega,rfl,by rw [List.take_zero,List.take_zero,meN_nil]; rfl⟩ (.cons rfl (.cons (by rw [List.take_zero,List.take_zero,meN_nil,List.map_cons,DAtom.enc_eq]; rfl) .nil)) ?_
 rintro mm C j hh ⟨i,r',hi,rfl,rfl,rfl⟩
 simp only [go_sem]
 intro _
 refine brK_dec (fun hlt => ?_) (fun hge => ?_)
 ·
  obtain ⟨c,hcq⟩: ∃ c,e.arms[i]? = some c := ⟨_,List.getElem?_eq_getElem (by omega)⟩
  obtain ⟨x,hq⟩: ∃ x,e.subs[i]? = some x := ⟨_,List.getElem?_eq_getElem (by omega)⟩
  have hxm := List.mem_of_getElem? hq
  have hfx: fitsF (rowN p.Enums n) p.Enums x (on ++ [⟨e.name,vaN p c⟩]) = true := (fitsM_at hfM hcq hq).2
  have g: grewN st (meN p k fst e.name (e.arms.take i) (e.subs.take i) on st).2 (frL (e.subs.take i)) :=
   merge_grew_of (nmN fst) (tyN p (k: Int)) (cnN p) (vaN p) (fiN p) (fun y hy => plain_grew (nmN fst) (tyN p (k: Int)) (cnN p) (vaN p) (fiN p) y (hp y (List.mem_of_mem_take hy))) e.name _ (by rw [List.length_take,List.length_take,hal]) on st
  have hfr := frL_at hq
  have hpl := partsL_in hxm
  have hll := hlen i
  have hnx := meN_next (p := p) (k := k) (fst := fst) (m := e.name) (on := on) (st := st) hal hcq hq
  have hva: vaN p c = (armF p.Enums c).2.1 := rfl
  have hc := arm91 p.Enums c
  have h1 := fun st1 (h: grewN st st1 (frL (e.subs.take i))) r K => hx x hxm A y z r c5 c6 c7 fst (on ++ [⟨e.name,vaN p c⟩]) st1 K hs hfx ⟨by rw [List.length_append,List.length_singleton]; omega,by have := h.1; omega,by have := h.2.1; omega,by have := h.2.2; omega⟩
  rw [hva] at h1 hnx
  generalize armF p.Enums c = q at hc h1 hnx
  obtain ⟨qt,v,qok⟩ := q
  dsimp only at h1 hnx
  have hwh := when134 on e.name v (by omega)
  generalize meN p k fst e.name (e.arms.take i) (e.subs.take i) on st = R at g hll hnx ⊢
  obtain ⟨as1,st1⟩ := R
  dsimp only at g hll hnx
  have h1 := h1 st1 g
  rw [List.length_take] at hll
  generalize atN p k fst x (on ++ [⟨e.name,v⟩]) st1 = AA at hnx h1
  obtain ⟨a,st2⟩ := AA
  dsimp only at hnx h1
  simp only [go_sem]
  refine drawK mo (by kernel_rfl) ?_
  simp only [go_sem]
  refine elemHave (x := c) (by omega) (by simpa using hcq) ?_
  simp only [go_sem]
  refine pcK_of hc ?_
  simp only [go_sem]
  refine drawM [A.length] (.pur 0 (.pur 1 (.pur 2 (.pur 3 (.pur 4 (.pur 5 (.pur 6 (.pur 7 (.pur 8 (.pur 9 (.pur 10 (.pur 11 (.eff 12 (.eff 13 (.eff 14 (.pur 15 .nil)))))))))))))))) mo (by kernel_rfl) ?_
  simp only [go_sem]
  refine elemHave (x := x) (by omega) (by simpa using hq) ?_
  simp only [go_sem]
  refine pcK_of hwh ?_
  repeat' first
   | simp only [go_sem]
   | (refine h1 _ _ fun r2 => ?_)
   | refine And.intro (by first | omega | (simp; done) | (simp; omega)) ?_
   | exact loopFr _ (by omega) ⟨i + 1,_,by omega,rfl,rfl,by rw [hnx]; simp; rfl⟩ (.next rfl (by omega) (.cons (by rw [hnx]; simp) .nil)) rfl
 ·
  rw [List.take_of_length_le (by omega),List.take_of_length_le (by omega)]
  simp only [go_sem]
  refine finKw (r := (plain0 6 0 (⟨e.name,0⟩ :: (meN p k fst e.name e.arms e.subs on st).1)).enc) (by simp only [go_sem]; rfl) ?_ (hK _)
  rw [DPlain.enc_eq]
  exact Weak.aggs ⟨.refl _,.nil _,.refl _,.tok _ _ _,.nil _,.refl _,.refl _,.refl _,.refl _,.nil _,trivial⟩
end
end Go.Proofs.YtpamokpmlplopaaGreatDoor
namespace Go.Proofs.YtpamokpmlplopaaGreatDoor
open Go.Abs
set_option maxRecDepth 20000
set_option linter.unusedSimpArgs false
set_option linter.unusedVariables false
set_option maxHeartbeats 1000000
attribute [local irreducible] vc vcOps vcStep vcGuard prK hrK gK gsK brK callK ElemK SeqK BlockK ScopeK OpsK CallK LoopK LoopGo finPost ACall PCall PCallE BCall vqOps vqStep vqGuard qrK heK pcK gqK gqsK QOpsK qcallK DrawK
section
variable {p: DProg} {k: Nat} {n: DNode}
set_option maxHeartbeats 8000000 in
theorem plainX65 (hty: ∀ n ∈ p.Nodes,tyOK p n) (e: Ex): (∀ y ∈ parts e,partE y = true) → okE e → PlX p k n 65 e := by
 induction e using Ex.ind with
 | _ e ih =>
 intro hp hok
 have hps: ∀ x ∈ e.subs,∀ y ∈ parts x,partE y = true := fun x hx => sub_ok hp hx
 have hx: ∀ x ∈ e.subs,AtX p k n x := fun x hx => atX_of hty (hps x hx) (sub_okE hok hx) (ih x hx (hps x hx) (sub_okE hok hx))
 have hsl := subs_le hok
 obtain ⟨hk,hlo,hhi,ha11,ha12,hn13⟩ := part_facts (hp e (self_parts e))
 have hE: EachX p k n e.subs := eachX_of (by omega) hx hps
 intro A y z r c5 c6 c7 fst on st K hs hf hb hK
 have hb0 := hb
 obtain ⟨b1,b2,b3,b4⟩ := hb
 have b1' := b1
 rw [parts_lenC] at b1'
 by_cases hA: e.kind = 5 ∨ e.kind = 6 ∨ e.kind = 7 ∨ e.kind = 14 ∨ e.kind = 15 ∨ e.kind = 16
 ·
  have hfL: fitsL (rowN p.Enums n) p.Enums e.subs on = true := by rw [fitsF_eq] at hf; rcases hA with h | h | h | h | h | h <;> simpa [h] using hf
  rw [frN_eq,if_neg (by omega),if_neg (by omega),Nat.zero_add] at b2 b3 b4
  have hop: ¬ e.kind = 5 → ¬ e.kind = 6 → e.op = 0 := fun h5 h6 => by
   have hpe := hp e (self_parts e)
   unfold partE numbersE at hpe
   rw [if_neg h5,if_neg h6] at hpe
   simp only [Bool.and_eq_true,decide_eq_true_eq] at hpe
   exact hpe.1.1.1.1.1.2.1
  rw [plN_k hA] at hK
  have hE1 := fun r K => hE A y z r c5 c6 c7 fst on st K hs hfL ⟨by omega,by omega,by omega,by omega⟩
  generalize eaN p k fst e.subs on st = G at hK hE1
  obtain ⟨ats,st1⟩ := G
  dsimp only at hK hE1
  have hkn: kindN e.kind = if e.kind = 5 then 2 else if e.kind = 6 then 3 else if e.kind = 7 then 4 else if e.kind = 14 then 8 else if e.kind = 15 then 9 else 10 := by
   unfold kindN
   rcases hA with h | h | h | h | h | h <;> simp [h]
  refine acallK_of_vc tabOK Tryz.func65 (by kernel_rfl) rfl (n := 83) rfl (rs := [.cell 6 53]) rfl ?_
  by_cases h5: e.kind = 5
  ·
   rw [hkn,if_pos h5] at hK
   repeat' first
    | simp only [go_sem]
    | refine brK_dec (fun _ => ?_) (fun _ => ?_)
    | (exfalso; omega)
   refine drawM [A.length,A.length + (r.length + 1 + 1 + 1 + 1 + 1 + 1)] (.pur 0 (.pur 1 (.pur 2 (.pur 3 (.pur 4 (.pur 5 (.eff 6 (.pur 7 (.eff 8 .nil))))))))) mo (by kernel_rfl) ?_
   simp only [go_sem]
   refine hE1 _ _ fun r1 => ?_
   simp only [go_sem]
   refine finKw (r := (plain0 2 e.op ats).enc) (by simp only [go_sem]; rfl) ?_ (hK _)
   rw [DPlain.enc_eq]
   exact Weak.aggs ⟨.refl _,.nil _,.refl _,.refl _,.nil _,.refl _,.refl _,.refl _,.refl _,.nil _,trivial⟩
  by_cases h6: e.kind = 6
  ·
   rw [hkn,if_neg h5,if_pos h6] at hK
   repeat' first
    | simp only [go_sem]
    | refine brK_dec (fun _ => ?_) (fun _ => ?_)
    | (exfalso; omega)
   refine drawM [A.length,A.length + (r.length + 1 + 1 + 1 + 1 + 1 + 1)] (.pur 0 (.pur 1 (.pur 2 (.pur 3 (.pur 4 (.pur 5 (.eff 6 (.pur 7 (.eff 8 .nil))))))))) mo (by kernel_rfl) ?_
   simp only [go_sem]
   refine hE1 _ _ fun r1 => ?_
   simp only [go_sem]
   refine finKw (r := (plain0 3 e.op ats).enc) (by simp only [go_sem]; rfl) ?_ (hK _)
   rw [DPlain.enc_eq]
   exact Weak.aggs ⟨.refl _,.nil _,.refl _,.refl _,.nil _,.refl _,.refl _,.refl _,.refl _,.nil _,trivial⟩
  rw [hop h5 h6,hkn,if_neg h5,if_neg h6] at hK
  clear hkn
  repeat' first
   | simp only [go_sem]
   | refine brK_dec (fun _ => ?_) (fun _ => ?_)
   | (exfalso; omega)
   | refine hE1 _ _ fun r1 => ?_
   | (refine finKw (r := (plain0 4 0 ats).enc) (by simp only [go_sem]; rfl) ?_ (by rw [if_pos (by omega)] at hK; exact hK _); rw [DPlain.enc_eq]; exact Weak.aggs ⟨.refl _,.nil _,.refl _,.refl _,.nil _,.refl _,.refl _,.refl _,.refl _,.nil _,trivial⟩)
   | (refine finKw (r := (plain0 8 0 ats).enc) (by simp only [go_sem]; rfl) ?_ (by rw [if_neg (by omega),if_pos (by omega)] at hK; exact hK _); rw [DPlain.enc_eq]; exact Weak.aggs ⟨.refl _,.nil _,.refl _,.refl _,.nil _,.refl _,.refl _,.refl _,.refl _,.nil _,trivial⟩)
   | (refine finKw (r := (plain0 9 0 ats).enc) (by simp only [go_sem]; rfl) ?_ (by rw [if_neg (by omega),if_neg (by omega),if_pos (by omega)] at hK; exact hK _); rw [DPlain.enc_eq]; exact Weak.aggs ⟨.refl _,.nil _,.refl _,.refl _,.nil _,.refl _,.refl _,.refl _,.refl _,.nil _,trivial⟩)
   | (refine finKw (r := (plain0 10 0 ats).enc) (by simp only [go_sem]; rfl) ?_ (by rw [if_neg (by omega),if_neg (by omega),if_neg (by omega)] at hK; exact hK _); rw [DPlain.enc_eq]; exact Weak.aggs ⟨.refl _,.nil _,.refl _,.refl _,.nil _,.refl _,.refl _,.refl _,.refl _,.nil _,trivial⟩)
 by_cases hB: e.kind = 8 ∨ e.kind = 9 ∨ e.kind = 10 ∨ e.kind = 11 ∨ e.kind = 12
 ·
  have hC := flowX105 (p := p) (k := k) (n := n) hty hB hp hok hps hx A y z
  refine acallK_of_vc tabOK Tryz.func65 (by kernel_rfl) rfl (n := 83) rfl (rs := [.cell 6 53]) rfl ?_
  repeat' first
   | simp only [go_sem]
   | refine brK_dec (fun _ => ?_) (fun _ => ?_)
   | (exfalso; omega)
   | (refine hC _ c5 c6 c7 fst on st _ hs hf hb0 fun r1 => ?_)
   | exact finKw (r := (plN p k fst e on st).1.enc) (by simp only [go_sem]; rfl) (by rw [DPlain.enc_eq]; exact .refl _) (hK _)
 by_cases h13: e.kind = 13
 ·
  have hsn: e.n ≤ e.subs.length := by
   have: (subsE e).1 = e.n := by simp [subsE,h13]
   omega
  have hC := callX104 (p := p) (k := k) (n := n) h13 (hn13 h13) hsn hps hx A y z
  refine acallK_of_vc tabOK Tryz.func65 (by kernel_rfl) rfl (n := 83) rfl (rs := [.cell 6 53]) rfl ?_
  repeat' first
   | simp only [go_sem]
   | refine brK_dec (fun _ => ?_) (fun _ => ?_)
   | (exfalso; omega)
   | (refine hC _ c5 c6 c7 fst on st _ hs hf hb0 fun r1 => ?_)
   | exact finKw (r := (plN p k fst e on st).1.enc) (by simp only [go_sem]; rfl) (by rw [DPlain.enc_eq]; exact .refl _) (hK _)
 by_cases h17: e.kind = 17
 ·
  rw [fitsF_eq] at hf
  simp [h17] at hf
 have hlf: leafK e.kind = true := by unfold leafK; exact decide_eq_true (by omega)
 have hsz: e.subs = [] := by
  have: (subsE e).2 = 0 := by
   unfold subsE
   rw [if_neg (by omega),if_neg (by omega),if_neg (by omega),if_neg (by omega),if_neg (by omega),if_neg (by omega)]
  exact List.length_eq_zero_iff.1 (by omega)
 have hA1 := atX_leaf (p := p) (k := k) (n := n) hlf A y z
 have hg: gN e = 0 := by unfold gN; rw [if_pos hlf]
 rw [plN_leaf hlf hsz] at hK
 refine acallK_of_vc tabOK Tryz.func65 (by kernel_rfl) rfl (n := 83) rfl (rs := [.cell 6 53]) rfl ?_
 repeat' first
  | simp only [go_sem]
  | refine brK_dec (fun _ => ?_) (fun _ => ?_)
  | (exfalso; omega)
 refine hA1 _ c5 c6 c7 fst on st _ hs hf ⟨by omega,by omega,by omega,by omega⟩ fun r1 => ?_
 generalize atN p k fst e on st = AA at hK ⊢
 obtain ⟨a,st1⟩ := AA
 dsimp only at hK ⊢
 simp only [go_sem]
 refine finKw (r := (plain0 1 0 [a]).enc) (by simp only [go_sem]; rfl) ?_ (hK _)
 rw [DPlain.enc_eq]
 exact Weak.aggs ⟨.refl _,.nil _,.refl _,.tok _ _ _,.nil _,.refl _,.refl _,.refl _,.refl _,.nil _,trivial⟩
end
end Go.Proofs.YtpamokpmlplopaaGreatDoor
namespace Go.Proofs.YtpamokpmlplopaaGreatDoor
open Go.Abs
set_option maxRecDepth 20000
set_option linter.unusedSimpArgs false
set_option linter.unusedVariables false
set_option maxHeartbeats 1000000
attribute [local irreducible] vc vcOps vcStep vcGuard prK hrK gK gsK brK callK ElemK SeqK BlockK ScopeK OpsK CallK LoopK LoopGo finPost ACall PCall PCallE BCall vqOps vqStep vqGuard qrK heK pcK gqK gqsK QOpsK qcallK DrawK
section
variable {A r: List Blk} {p: DProg} {k: Int} {fst: ByteArray} {m: Nat} {c5 c6 c7 c8 c9: AV} {K: AV → List Blk → Prop}
theorem varsX34 (l: List DDecl) (hl: l.length ≤ 100000) (hn: ∀ n ∈ p.Nodes,(allV n).length ≤ 4294967296)
  (hK: K (.lst 5 ((l.map (varNm p k)).map DVar.enc) (some (A.length + (r.length + 1)))) (A ++ nB p k fst m c5 c6 c7 c8 c9 :: (r ++ [.tok 45 5 l.length]))) :
  ACall Tryz.prog 34 [.ptr A.length 0,.lst 6 (l.map DDecl.enc) none] (A ++ nB p k fst m c5 c6 c7 c8 c9 :: r) K := by
 refine acallT_of_vc tabOK Tryz.func34 (by kernel_rfl) rfl (n := 49) rfl (rs := [.tmp 4]) rfl (e := 45) (sz := 5) (l := (l.map (varNm p k)).map DVar.enc) ?_
 simp only [go_sem]
 refine loop_fr [5,6,7,8,10,11,12,13,14,15,16,17,18,19,20,21,22,23,24,25,26,27,28,29,30,31,32,33,34,35,36,37,38,39,40,41,42,43,44,45,46,47] (fun mm C hh => ∃ (i: Nat) (r': List Blk),i ≤ l.length ∧ mm = l.length - i ∧ C = [(6,.raw (.int .i64 (i: Nat))),(5,.lst 5 (((l.take i).map (varNm p k)).map DVar.enc) (some (A.length + (r.length + 1))))] ∧
  hh = A ++ nB p k fst m c5 c6 c7 c8 c9 :: (r ++ .tok 45 5 i :: r')) l.length _ ⟨0,[],by omega,by omega,rfl,rfl⟩ (.cons rfl (.cons rfl .nil)) ?_
 rintro mm C j hh ⟨i,r',hi,rfl,rfl,rfl⟩
 simp only [go_sem]
 intro _
 refine brK_dec (fun hlt => ?_) (fun hge => ?_)
 ·
  obtain ⟨d,hd⟩: ∃ d,l[i]? = some d := ⟨_,List.getElem?_eq_getElem (by omega)⟩
  have hnx: ((l.take (i + 1)).map (varNm p k)).map DVar.enc = ((l.take i).map (varNm p k)).map DVar.enc ++ [(varNm p k d).enc] := by
   rw [List.take_add_one,hd]
   simp
  have hrow := row46 p k d.Name hn
  have hvn: varNm p k d = ⟨d.Name,d.Ty,(rowF p k d.Name).1⟩ := rfl
  rw [hvn] at hnx
  generalize rowF p k d.Name = q at hrow hnx
  obtain ⟨ql,qok⟩ := q
  dsimp only at hnx
  simp only [go_sem]
  refine drawK mo (by kernel_rfl) ?_
  simp only [go_sem]
  refine elemHave (x := d) (by omega) (by simpa using hd) ?_
  simp only [go_sem]
  refine pcK_of hrow ?_
  simp only [go_sem]
  refine drawK mo (by kernel_rfl) ?_
  simp only [go_sem]
  refine elemHave (x := d) (by omega) (by simpa using hd) ?_
  simp only [go_sem]
  refine elemHave (x := d) (by omega) (by simpa using hd) ?_
  simp only [go_sem]
  refine And.intro (by first | omega | (simp; done) | (simp; omega)) ?_
  exact loopFr _ (by omega) ⟨i + 1,_,by omega,rfl,rfl,by simp; exact ⟨by omega,rfl⟩⟩ (.next rfl (by omega) (.cons (by rw [hnx,DVar.enc_eq]; rfl) .nil)) rfl
 ·
  rw [List.take_of_length_le (by omega)]
  obtain rfl: i = l.length := by omega
  simp only [go_sem]
  have hh: (A ++ nB p k fst m c5 c6 c7 c8 c9 :: r).length = A.length + (r.length + 1) := by simp
  have hap: A ++ nB p k fst m c5 c6 c7 c8 c9 :: (r ++ .tok 45 5 l.length :: r') = (A ++ nB p k fst m c5 c6 c7 c8 c9 :: r) ++ (.tok 45 5 l.length :: r') := by simp
  rw [hap]
  refine finTh (k := A.length + (r.length + 1)) (n := l.length) rfl rfl (by omega) (by rw [← hh,at_app0]; rfl) (by simp) (lst_flat (DVar.pures _)) ?_
  rw [hh]
  simpa using hK
end
section
variable {p: DProg} {k: Nat} {n: DNode}
theorem apartN {e: Ex} (h: PlX p k n 65 e) {A r: List Blk} {y z: Blk} {c5 c6 c7: AV} {fst: ByteArray} {on: List DCond} {st: NmSt} {K: AV → List Blk → Prop} (hp: ∀ y ∈ parts e,partE y = true) {s: ByteArray} {rest: List ByteArray} (hr: rest.length ≤ 1000)
  (hs: fst.size ≤ 1000) (hf: fitsF (rowN p.Enums n) p.Enums e on = true) (hb: bnd on st (parts e).length (frN e))
  (hK: ∀ r',K (.s s) (HX A y z p (k: Int) c5 c6 c7 ⟨(plN p k fst e on st).2.vars,(plN p k fst e on st).2.eqs ++ [{ (plN p k fst e on st).1 with Names := s :: rest,On := on }],(plN p k fst e on st).2.k⟩ fst (r ++ r'))) :
  ACall Tryz.prog 36 [.ptr A.length 0,e.enc,.lst 1 ((s :: rest).map AV.s) none,.lst 2 (on.map DCond.enc) none] (HX A y z p (k: Int) c5 c6 c7 st fst r) K := by
 have g: grewN st (plN p k fst e on st).2 (frN e) := plain_grew (nmN fst) (tyN p (k: Int)) (cnN p) (vaN p) (fiN p) e hp on st
 have h1 := fun r K => h A y z r c5 c6 c7 fst on st K hs hf hb
 obtain ⟨b1,b2,b3,b4⟩ := hb
 generalize plN p k fst e on st = R at h1 hK g
 obtain ⟨q,st1⟩ := R
 obtain ⟨g1,g2,g3⟩ := g
 dsimp only at h1 hK g1 g2 g3
 refine acallK_of_vc tabOK Tryz.func36 (by kernel_rfl) rfl (n := 38) rfl (rs := [.tmp 8]) rfl ?_
 simp only [go_sem]
 refine h1 _ _ fun r1 => ?_
 repeat' first
  | simp only [go_sem]
  | (intro _)
  | refine brK_dec (fun _ => ?_) (fun _ => ?_)
  | (exfalso; omega)
 refine ACall.weakA (args := [.ptr A.length 0,q.enc,.lst 1 ((s :: rest).map AV.s) none,(⟨0,0,0⟩: DTy).enc,.lst 2 (on.map DCond.enc) none]) ⟨.refl _,.refl _,.refl _,by rw [DTy.enc_eq]; exact .refl _,.refl _,trivial⟩ ?_
 refine emitN67 q s rest ⟨0,0,0⟩ on hr (by omega) fun r2 => ?_
 simp only [go_sem]
 exact finKw (r := .s s) rfl (.refl _) (hK _)
end
end Go.Proofs.YtpamokpmlplopaaGreatDoor
namespace Go.Proofs.YtpamokpmlplopaaGreatDoor
open Go.Abs
set_option maxRecDepth 20000
set_option linter.unusedSimpArgs false
set_option linter.unusedVariables false
set_option maxHeartbeats 1000000
attribute [local irreducible] vc vcOps vcStep vcGuard prK hrK gK gsK brK callK ElemK SeqK BlockK ScopeK OpsK CallK LoopK LoopGo finPost ACall PCall PCallE BCall vqOps vqStep vqGuard qrK heK pcK gqK gqsK QOpsK qcallK DrawK
abbrev flowsA (x: DFlows × Bool): AV := .tup [x.1.enc,.b x.2]
theorem pure_flowsA (x: DFlows × Bool): Go.Abs.Pure (flowsA x) := .tup _ (pure_cons (DFlows.pure _) (pure_cons (.raw _) pure_nil))
theorem flows10 (p: DProg) (hp: okProg p): PCall Tryz.prog 10 [p.enc] (flowsA (normF p)) := by
 have hc := startCheck p hp
 have hen := hp.1
 have hpl := hp.2.1
 refine pcall_of_vc tabOK Tryz.func10 (by kernel_rfl) rfl (by first | exact pureL | exact pureI) (pure_flowsA _) (n := 50) rfl (rs := [.cell 2 30,.tmp 3]) rfl ?_
 by_cases h0: (startF p).Err = 0
 ·
  have hof := fun k n hn => of33 p k n hn h0 hp
  have hnl := nodesNm_len p p.Nodes 0
  have hnn := fun i n h => nodesNm_next p (l := p.Nodes) (i := i) (n := n) h
  rw [norm_ok h0]
  generalize nodesNm p 0 p.Nodes = N at hnl hnn
  generalize startF p = F at hc h0
  rw [DFault.enc_eq] at hc
  simp only [go_sem]
  refine PCall.call hc ?_
  simp only [go_sem]
  refine brK_dec (fun h => absurd h0 h) (fun _ => ?_)
  simp only [go_sem]
  intro _
  refine loop_ghost ((ghost_cell (t := 30) (cs := [.raw (.slice none 0 0),.raw (.slice none 0 0)]) 3 0 80 2 (by rfl) (by rfl)).trans (ghost_cell (t := 30) (cs := [.lst 2 [] (some 4),.raw (.slice none 0 0)]) 3 1 37 5 (by rfl) (by rfl))) ?_
  simp only [go_sem]
  refine loop_fr [7,18,19,20,21,22,23,24,25,26,27,28,29,30,31,32,33] (fun mm C hh => ∃ (i: Nat) (r': List Blk),i ≤ p.Enums.length ∧ mm = p.Enums.length - i ∧ C = [(18,.raw (.int .i64 (i: Nat)))] ∧
   hh = .cells 25 [.lst 2 (p.Enums.map DEnum.enc) none,.lst 5 (p.Nodes.map DNode.enc) none] :: .cells 30 [.raw (.slice none 0 0),.raw (.slice none 0 0)] :: .cells 61 [.i F.Node,.i F.Eq,.i F.Err] ::
    .cells 30 [.lst 2 ((p.Enums.take i).map DEnum.enc) (some 4),.lst 5 [] (some 5)] :: .tok 80 2 i :: .tok 37 5 0 :: r') p.Enums.length _ ⟨0,[],by omega,by omega,rfl,rfl⟩ (.cons rfl .nil) ?_
  rintro mm C j hh ⟨i,r',hi,rfl,rfl,rfl⟩
  simp only [go_sem]
  refine brK_dec (fun hlt => ?_) (fun hge => ?_)
  ·
   obtain ⟨e,he⟩: ∃ e,p.Enums[i]? = some e := ⟨_,List.getElem?_eq_getElem (by omega)⟩
   have hel := (hen.2 e (List.mem_of_getElem? he)).1
   have hen8 := hen.1
   have hnx: (p.Enums.take (i + 1)).map DEnum.enc = (p.Enums.take i).map DEnum.enc ++ [e.enc] := by
    rw [List.take_add_one,he]
    simp
   have htl: (p.Enums.take i).length = i := by rw [List.length_take]; omega
   simp only [go_sem]
   refine elemHave (x := e) (by omega) (by simpa using he) ?_
   simp only [go_sem]
   refine drawZ mo (by kernel_rfl) rfl ?_
   simp only [List.dropLast_cons_cons,List.dropLast_singleton,List.getLast_cons_cons,List.getLast_singleton]
   simp only [go_sem]
   refine pcK_of (cloneS e.Ctors (by omega)) ?_
   simp only [go_sem]
   refine And.intro (by first | omega | (simp; done) | (simp; omega)) ?_
   exact loopFr _ (by omega) ⟨i + 1,_,by omega,rfl,rfl,by rw [hnx,DEnum.enc_eq]; simp; exact ⟨by omega,rfl⟩⟩ (.next rfl (by omega) .nil) rfl
  ·
   obtain rfl: i = p.Enums.length := by omega
   rw [List.take_length]
   simp only [go_sem]
   intro _
   refine loop_fr [8,37,38,39,40,41,42,43,44,45,46,47,48] (fun mm C hh => ∃ (i: Nat) (r': List Blk),i ≤ p.Nodes.length ∧ mm = p.Nodes.length - i ∧ C = [(37,.raw (.int .i64 (i: Nat)))] ∧
    hh = .cells 25 [.lst 2 (p.Enums.map DEnum.enc) none,.lst 5 (p.Nodes.map DNode.enc) none] :: .cells 30 [.raw (.slice none 0 0),.raw (.slice none 0 0)] :: .cells 61 [.i F.Node,.i F.Eq,.i F.Err] ::
     .cells 30 [.lst 2 (p.Enums.map DEnum.enc) (some 4),.lst 5 ((N.take i).map DFlow.enc) (some 5)] :: .tok 80 2 p.Enums.length :: .tok 37 5 i :: r') p.Nodes.length _ ⟨0,r',by omega,by omega,rfl,rfl⟩ (.cons rfl .nil) ?_
   rintro mm C j2 hh ⟨i,r2,hi,rfl,rfl,rfl⟩
   simp only [go_sem]
   refine brK_dec (fun hlt => ?_) (fun hge => ?_)
   ·
    obtain ⟨n,hn⟩: ∃ n,p.Nodes[i]? = some n := ⟨_,List.getElem?_eq_getElem (by omega)⟩
    have htl: (N.take i).length = i := by rw [List.length_take]; omega
    have hnx := hnn i n hn
    have ho := hof i n hn
    generalize flowNm p (i: Int) n = f at hnx ho
    simp only [go_sem]
    refine drawZ mo (by kernel_rfl) rfl ?_
    simp only [List.dropLast_cons_cons,List.dropLast_singleton,List.getLast_cons_cons,List.getLast_singleton]
    simp only [go_sem]
    refine pcK_of ho ?_
    simp only [go_sem]
    refine And.intro (by first | omega | (simp; done) | (simp; omega)) ?_
    exact loopFr _ (by omega) ⟨i + 1,_,by omega,rfl,rfl,by rw [hnx]; simp; exact ⟨by omega,rfl⟩⟩ (.next rfl (by omega) .nil) rfl
   ·
    rw [List.take_of_length_le (by omega)]
    simp only [go_sem]
    refine ⟨_,rfl,false,?_⟩
    show Weak _ (.tup [DFlows.enc _,.b true])
    rw [DFlows.enc_eq]
    exact Weak.tups2 ⟨Weak.aggs ⟨.tok _ _ _,.tok _ _ _,trivial⟩,.refl _,trivial⟩
 ·
  rw [norm_no h0]
  generalize startF p = F at hc h0
  rw [DFault.enc_eq] at hc
  simp only [go_sem]
  refine PCall.call hc ?_
  simp only [go_sem]
  refine brK_dec (fun _ => ?_) (fun h => absurd h0 h)
  simp only [go_sem]
  refine ⟨_,rfl,false,?_⟩
  show Weak _ (.tup [DFlows.enc _,.b false])
  rw [DFlows.enc_eq]
  exact Weak.tups2 ⟨Weak.aggs ⟨.nil _,.nil _,trivial⟩,.refl _,trivial⟩
theorem weakL_both: ∀ {a b c d: List AV},WeakL a b → WeakL c d → WeakL (a ++ c) (b ++ d)
 | [],[],_,_,_,h => h
 | _ :: _,_ :: _,_,_,h,h2 => ⟨h.1,weakL_both h.2 h2⟩
 | [],_ :: _,_,_,h,_ => h.elim
 | _ :: _,[],_,_,h,_ => h.elim
set_option maxHeartbeats 8000000 in
theorem flowsX11 (p: DProg) (hp: okProg p): PCall Tryz.prog 11 [p.enc] (flowsA (normF p)) := by
 have hc := startX p hp
 have hpl := hp.2.1
 refine pcall_of_vc tabOK Tryz.func11 (by kernel_rfl) rfl (by first | exact pureL | exact pureI) (pure_flowsA _) (n := 109) rfl (rs := [.cell 2 30,.tmp 3]) rfl ?_
 by_cases h0: (startF p).Err = 0
 ·
  have hF := (start_zero h0).1
  have hck := (start_eqs h0).1
  have hty := tyOK_of hp hck
  have hal: ∀ n ∈ p.Nodes,(allV n).length ≤ 4294967296 := fun n hn => by have := (hty n hn).1; omega
  have hew := fun k n hn => eqs_w h0 hp (k := k) (n := n) hn
  have hnl := nodesNm_len p p.Nodes 0
  have hnn := fun i n h => nodesNm_next p (l := p.Nodes) (i := i) (n := n) h
  rw [norm_ok h0]
  generalize startF p = F at hc hF
  generalize nodesNm p 0 p.Nodes = N at hnl hnn
  simp only [go_sem]
  refine PCall.call hc ?_
  simp only [go_sem]
  rw [fault_z]
  simp only [go_sem]
  refine brK_dec (fun h => absurd hF h) (fun _ => ?_)
  simp only [go_sem]
  refine loop_ghost (ghost_cell (t := 30) (cs := [.lst 2 (p.Enums.map DEnum.enc) none,.raw (.slice none 0 0)]) 2 1 37 5 (by rfl) (by rfl)) ?_
  simp only [go_sem]
  refine loop_fr [5,6,7,8,9,10,19,20,21,22,23,24,25,26,27,28,29,30,31,32,33,34,35,36,37,38,39,40,41,42,43,44,45,46,47,48,49,50,51,52,53,54,55,56,57,58,59,60,61,62,63,64,65,66,67,68,69,70,71,72,73,74,75,76,77,78,79,80,81,82,83,84,85,86,87,88,89,90,91,92,93,94,95,96,97,98,99,100,101,102,103,104,105,106,107] (fun mm C hh => ∃ (i: Nat) (fl: List AV) (r': List Blk),i ≤ p.Nodes.length ∧ mm = p.Nodes.length - i ∧ fl.length = i ∧ (∀ e ∈ fl,e.cells.length = 5) ∧ WeakL (flat fl) (flat ((N.take i).map DFlow.enc)) ∧ C = [(5,.raw (.int .i64 (i: Nat)))] ∧
   hh = .cells 25 [.lst 2 (p.Enums.map DEnum.enc) none,.lst 5 (p.Nodes.map DNode.enc) none] :: .cells 30 [.raw (.slice none 0 0),.raw (.slice none 0 0)] ::
    .cells 30 [.lst 2 (p.Enums.map DEnum.enc) none,.lst 5 fl (some 3)] :: .tok 37 5 fl.length :: r') p.Nodes.length _ ⟨0,[],[],by omega,by omega,rfl,by simp,trivial,rfl,rfl⟩ (.cons rfl .nil) ?_
  rintro mm C j hh ⟨i,fl,r',hi,rfl,hfl,hfc,hfw,rfl,rfl⟩
  simp only [go_sem]
  intro _
  refine brK_dec (fun hlt => ?_) (fun hge => ?_)
  ·
   obtain ⟨n,hn⟩: ∃ n,p.Nodes[i]? = some n := ⟨_,List.getElem?_eq_getElem (by omega)⟩
   have hnm := List.mem_of_getElem? hn
   have hno := hp.2.2 n hnm
   have hi20 := hno.1.1
   have ho20 := hno.2.1.1
   have hv20 := hno.2.2.1.1
   have he30 := hno.2.2.2.1
   have hnx := hnn i n hn
   have hewn := hew i n hn
   have hel := eqs_len hewn (n.Vars.map (varNm p (i: Int)))
   simp only [go_sem]
   refine elemHave (x := n) (by omega) (by simpa using hn) ?_
   simp only [go_sem]
   have hPl := fun e => plainX65 (p := p) (k := i) (n := n) hty e
   obtain ⟨A,hA⟩: ∃ A: List Blk,A = .cells 25 [.lst 2 (p.Enums.map DEnum.enc) none,.lst 5 (p.Nodes.map DNode.enc) none] :: .cells 30 [.raw (.slice none 0 0),.raw (.slice none 0 0)] ::
    .cells 30 [.lst 2 (p.Enums.map DEnum.enc) none,.lst 5 fl (some 3)] :: .tok 37 5 fl.length :: (r' ++ [.cells 68 [.s n.Name,.lst 6 (n.Ins.map DDecl.enc) none,.lst 6 (n.Outs.map DDecl.enc) none,.lst 6 (n.Vars.map DDecl.enc) none,.lst 7 (n.Eqs.map DEq.enc) none]]) := ⟨_,rfl⟩
   have hAl: r'.length + 1 + 1 + 1 + 1 + 1 = A.length := by rw [hA]; simp
   have hA0: ∀ x: List Blk,(A ++ x)[0]? = some (.cells 25 [.lst 2 (p.Enums.map DEnum.enc) none,.lst 5 (p.Nodes.map DNode.enc) none]) := fun x => by rw [hA]; rfl
   have hAn: ∀ x: List Blk,(A ++ x)[r'.length + 1 + 1 + 1 + 1]? = some (.cells 68 [.s n.Name,.lst 6 (n.Ins.map DDecl.enc) none,.lst 6 (n.Outs.map DDecl.enc) none,.lst 6 (n.Vars.map DDecl.enc) none,.lst 7 (n.Eqs.map DEq.enc) none]) := fun x => by rw [hA]; simp
   have hheap: (.cells 25 [.lst 2 (p.Enums.map DEnum.enc) none,.lst 5 (p.Nodes.map DNode.enc) none] :: .cells 30 [.raw (.slice none 0 0),.raw (.slice none 0 0)] ::
    .cells 30 [.lst 2 (p.Enums.map DEnum.enc) none,.lst 5 fl (some 3)] :: .tok 37 5 fl.length :: (r' ++ [.cells 68 [.s n.Name,.lst 6 (n.Ins.map DDecl.enc) none,.lst 6 (n.Outs.map DDecl.enc) none,.lst 6 (n.Vars.map DDecl.enc) none,.lst 7 (n.Eqs.map DEq.enc) none],.cells 85 [.lst 2 (p.Enums.map DEnum.enc) none,.lst 5 (p.Nodes.map DNode.enc) none,.i (i: Int),.s ⟨#[]⟩,.i 0,.s ⟨#[]⟩,.raw (.slice none 0 0),.raw (.slice none 0 0),.raw (.slice none 0 0),.raw (.slice none 0 0)]]): List Blk) = A ++ [nB p (i: Int) ⟨#[]⟩ 0 (.s ⟨#[]⟩) (.raw (.slice none 0 0)) (.raw (.slice none 0 0)) (.raw (.slice none 0 0)) (.raw (.slice none 0 0))] := by rw [hA]; simp
   rw [hAl]
   rw [hheap]
   clear hheap
   refine drawM [A.length] (.pur 0 (.pur 1 (.pur 2 (.pur 3 (.pur 4 (.pur 5 (.pur 7 (.pur 8 (.pur 9 (.pur 11 (.pur 12 (.pur 13 (.eff 6 (.eff 10 (.eff 14 (.pur 15 (.pur 16 (.pur 17 (.eff 18 .nil))))))))))))))))))) mo (by kernel_rfl) ?_
   simp only [go_sem,hA0,hAn]
   refine varsX34 (m := 0) n.Ins (by omega) hal ?_
   simp only [go_sem,hA0,hAn]
   refine varsX34 (m := 0) n.Outs (by omega) hal ?_
   simp only [go_sem,hA0,hAn]
   refine varsX34 (m := 0) n.Vars (by omega) hal ?_
   simp only [go_sem,hA0,hAn]
   refine loop_ghost (ghost_cell (t := 85) (cs := [.lst 2 (p.Enums.map DEnum.enc) none,.lst 5 (p.Nodes.map DNode.enc) none,.i (i: Int),.s ⟨#[]⟩,.i ((0: Nat): Int),.s n.Name,.lst 5 ((n.Ins.map (varNm p (i: Int))).map DVar.enc) (some (A.length + 1)),.lst 5 ((n.Outs.map (varNm p (i: Int))).map DVar.enc) (some (A.length + 2)),.lst 5 ((n.Vars.map (varNm p (i: Int))).map DVar.enc) (some (A.length + 3)),.raw (.slice none 0 0)]) A.length 9 53 10 (by rw [at_app0]; rfl) (by rfl)) ?_
   simp only [go_sem,hA0,hAn]
   refine loop_fr [8,9,10,53,54,55,56,57,58,59,60,61,62,63,64,65,66,67,68,69,70,71,72,73,74,75,76,77,78,79,80,81,82,83,84,85,86,87,88,89,90,91,92,93,94,95,96,97,98] (fun mm C hh => ∃ (k: Nat) (fs: ByteArray) (m: Nat) (B: List Blk),k ≤ n.Eqs.length ∧ mm = n.Eqs.length - k ∧ C = [(8,.raw (.int .i64 (k: Nat)))] ∧
    hh = A ++ nB p (i: Int) fs m (.s n.Name) (.lst 5 ((n.Ins.map (varNm p (i: Int))).map DVar.enc) (some (A.length + 1))) (.lst 5 ((n.Outs.map (varNm p (i: Int))).map DVar.enc) (some (A.length + 2))) (.lst 5 ((eqsNm p (i: Int) (n.Vars.map (varNm p (i: Int)),[]) (n.Eqs.take k)).1.map DVar.enc) (some (A.length + 3))) (.lst 10 ((eqsNm p (i: Int) (n.Vars.map (varNm p (i: Int)),[]) (n.Eqs.take k)).2.map DPlain.enc) (some (A.length + 4))) ::
     .tok 45 5 n.Ins.length :: .tok 45 5 n.Outs.length :: .tok 45 5 (eqsNm p (i: Int) (n.Vars.map (varNm p (i: Int)),[]) (n.Eqs.take k)).1.length :: .tok 53 10 (eqsNm p (i: Int) (n.Vars.map (varNm p (i: Int)),[]) (n.Eqs.take k)).2.length :: B) n.Eqs.length _ ⟨0,_,_,_,by omega,by omega,rfl,by simp [eqsNm]; exact ⟨⟨rfl,rfl⟩,rfl⟩⟩ (.cons rfl .nil) ?_
   rintro mm C j2 hh ⟨k,fs,m,B,hk,rfl,rfl,rfl⟩
   simp only [go_sem,hA0,hAn]
   intro _
   refine brK_dec (fun hlt2 => ?_) (fun hge2 => ?_)
   ·
    obtain ⟨q,hq⟩: ∃ q,n.Eqs[k]? = some q := ⟨_,List.getElem?_eq_getElem (by omega)⟩
    have hqm := List.mem_of_getElem? hq
    have hw := hewn q hqm
    obtain ⟨s,rest,hqn⟩ := hw.fit.names
    have hsz: s.size ≤ 100 := hw.ok.2.2 s (by rw [hqn]; simp)
    have hnl := hw.ok.1
    rw [hqn,List.length_cons] at hnl
    have hfit := hw.fit.fits
    have hnx2 := eqsNm_next p (i: Int) (st := (n.Vars.map (varNm p (i: Int)),[])) hq
    have hel1 := hel k hk
    have hfr := fr_le hw.right
    have hpl60: (parts q.E).length ≤ 60 := by
     have := hw.right
     unfold rightE at this
     simp only [Bool.and_eq_true,decide_eq_true_eq] at this
     exact this.1.1
    have hon := rowN_len p.Enums n s
    rw [← rowOn_w hn] at hon
    generalize eqsNm p (i: Int) (n.Vars.map (varNm p (i: Int)),[]) (n.Eqs.take k) = st at hnx2 hel1 ⊢
    rw [List.length_map] at hel1
    have hrow := row46 p (i: Int) s hal
    have hP := fun (A: List Blk) (r: List Blk) (y z: Blk) (c5 c6 c7: AV) K => apartN (p := p) (k := i) (n := n) (hPl q.E hw.fit.right hw.ok.2.1) (A := A) (r := r) (y := y) (z := z) (c5 := c5) (c6 := c6) (c7 := c7) (fst := s) (on := rowOn p (i: Int) s) (st := ⟨st.1,st.2,0⟩) (K := K) hw.fit.right (s := s) (rest := rest) (by omega) (by omega) (by rw [rowOn_w hn]; rw [hqn] at hfit; exact hfit) ⟨by omega,by dsimp only; omega,by dsimp only; omega,by dsimp only; omega⟩
    have hst: eqNm p (i: Int) st q = ((plN p i s q.E (rowOn p (i: Int) s) ⟨st.1,st.2,0⟩).2.vars,(plN p i s q.E (rowOn p (i: Int) s) ⟨st.1,st.2,0⟩).2.eqs ++ [{ (plN p i s q.E (rowOn p (i: Int) s) ⟨st.1,st.2,0⟩).1 with Names := s :: rest,On := rowOn p (i: Int) s }]) := by
     unfold eqNm eqPl
     rw [hqn]
     rfl
    rw [hst] at hnx2
    clear hst
    generalize plN p i s q.E (rowOn p (i: Int) s) ⟨st.1,st.2,0⟩ = R at hP hnx2
    obtain ⟨pq,st1⟩ := R
    dsimp only at hP hnx2
    have hro: rowOn p (i: Int) s = (rowF p (i: Int) s).1 := rfl
    rw [hro] at hP hnx2
    clear hro hon
    generalize rowF p (i: Int) s = rr at hrow hP hnx2
    obtain ⟨rl,rok⟩ := rr
    dsimp only at hP hnx2
    simp only [go_sem,hA0,hAn]
    refine elemHave (x := q) (by omega) (by simpa using hq) ?_
    simp only [go_sem,hA0,hAn]
    refine elemHave (x := s) (by omega) (by rw [hqn]; rfl) ?_
    simp only [go_sem,hA0,hAn]
    refine drawK mo (by kernel_rfl) ?_
    simp only [go_sem,hA0,hAn]
    refine pcK_of hrow ?_
    simp only [go_sem,hA0,hAn]
    refine drawM [A.length] (.pur 0 (.pur 1 (.pur 2 (.pur 3 (.pur 4 (.pur 5 (.pur 6 (.pur 7 (.pur 8 (.pur 9 (.pur 10 (.pur 11 (.pur 12 (.pur 13 (.eff 14 .nil))))))))))))))) mo (by kernel_rfl) ?_
    simp only [go_sem,hA0,hAn]
    refine elemHave (x := q) (by omega) (by simpa using hq) ?_
    simp only [go_sem,hA0,hAn]
    refine elemHave (x := q) (by omega) (by simpa using hq) ?_
    simp only [go_sem,hA0,hAn]
    refine ACall.weakA (args := [.ptr A.length 0,q.E.enc,.lst 1 ((s :: rest).map AV.s) none,.lst 2 (rl.map DCond.enc) none]) ⟨.refl _,.refl _,by rw [hqn]; exact .refl _,.refl _,trivial⟩ ?_
    refine hP A _ _ _ _ _ _ _ fun r2 => ?_
    simp only [go_sem,hA0,hAn]
    exact loopFr _ (by omega) ⟨k + 1,_,_,_,by omega,rfl,rfl,by rw [hnx2]⟩ (.next rfl (by omega) .nil) rfl
   ·
    rw [List.take_of_length_le (by omega)]
    have hfN: flowNm p (i: Int) n = ⟨n.Name,n.Ins.map (varNm p (i: Int)),n.Outs.map (varNm p (i: Int)),(eqsNm p (i: Int) (n.Vars.map (varNm p (i: Int)),[]) n.Eqs).1,(eqsNm p (i: Int) (n.Vars.map (varNm p (i: Int)),[]) n.Eqs).2⟩ := rfl
    rw [hfN] at hnx
    clear hA0 hAn hAl
    generalize eqsNm p (i: Int) (n.Vars.map (varNm p (i: Int)),[]) n.Eqs = S at hnx ⊢
    subst hA
    simp only [go_sem]
    refine drawZ mo (by kernel_rfl) rfl ?_
    simp only [List.dropLast_cons_cons,List.dropLast_singleton,List.getLast_cons_cons,List.getLast_singleton]
    simp only [go_sem]
    refine And.intro (by first | omega | (simp; done) | (simp; omega)) ?_
    exact loopFr _ (by omega) ⟨i + 1,fl ++ [AV.agg [.s n.Name,.lst 5 ((n.Ins.map (varNm p (i: Int))).map DVar.enc) (some _),.lst 5 ((n.Outs.map (varNm p (i: Int))).map DVar.enc) (some _),.lst 5 (S.1.map DVar.enc) (some _),.lst 10 (S.2.map DPlain.enc) (some _)]],_,by omega,rfl,(by rw [List.length_append,hfl]; rfl),
     (fun e he => by
      rcases List.mem_append.1 he with he | he
      ·
       exact hfc e he
      ·
       rw [List.mem_singleton.1 he]; rfl),(by
      rw [hnx,List.map_append,flat_append,flat_append]
      refine weakL_both hfw ?_
      simp only [List.map_cons,List.map_nil,flat,List.flatMap_cons,List.flatMap_nil,DFlow.enc_cells,cells_agg,List.append_nil]
      exact ⟨.refl _,.tok _ _ _,.tok _ _ _,.tok _ _ _,.tok _ _ _,trivial⟩),rfl,(by rw [List.length_append]; rfl)⟩ (.next rfl (by omega) .nil) rfl
  ·
   simp only [go_sem]
   refine ⟨_,rfl,false,?_⟩
   show Weak _ (.tup [DFlows.enc _,.b true])
   rw [DFlows.enc_eq]
   refine Weak.tups2 ⟨Weak.aggs ⟨.refl _,?_,trivial⟩,.refl _,trivial⟩
   rw [List.take_of_length_le (by omega)] at hfw
   exact Weak.lsts (by rw [List.length_map]; show fl.length = N.length; omega) (fun e he => by obtain ⟨x,_,rfl⟩ := List.mem_map.1 he; rw [DFlow.enc_cells]; rfl) hfw
 ·
  rw [norm_no h0]
  generalize startF p = F at hc h0
  simp only [go_sem]
  refine PCall.call hc ?_
  simp only [go_sem]
  rw [fault_z]
  simp only [go_sem]
  refine brK_dec (fun _ => ?_) (fun h => absurd (by rw [Classical.not_not.1 h]) h0)
  ·
   simp only [go_sem]
   refine ⟨_,rfl,false,?_⟩
   show Weak _ (.tup [DFlows.enc _,.b false])
   rw [DFlows.enc_eq]
   exact Weak.tups2 ⟨Weak.aggs ⟨.nil _,.nil _,trivial⟩,.refl _,trivial⟩
abbrev lvX: Ex := .mk 3 0 ⟨#[120]⟩ 0 [] []
abbrev lvP: Ex := .mk 10 0 ⟨#[]⟩ 0 [] [lvX]
abbrev lvS: Ex := .mk 6 0 ⟨#[]⟩ 3 [] [lvP,.mk 1 1 ⟨#[]⟩ 0 [] []]
abbrev lvE: Ex := .mk 9 0 ⟨#[]⟩ 0 [] [.mk 1 0 ⟨#[]⟩ 0 [] [],lvS]
abbrev lvIn: DDecl := ⟨⟨#[120]⟩,⟨1,0,0⟩,⟨#[]⟩,⟨#[]⟩⟩
abbrev lvOut: DDecl := ⟨⟨#[121]⟩,⟨1,0,0⟩,⟨#[]⟩,⟨#[]⟩⟩
abbrev lvQ: DEq := ⟨[⟨#[121]⟩],lvE⟩
abbrev lvN: DNode := ⟨⟨#[102]⟩,[lvIn],[lvOut],[],[lvQ]⟩
abbrev lvG: DProg := ⟨[],[lvN]⟩
theorem lv_parts: parts lvE = [lvE,.mk 1 0 ⟨#[]⟩ 0 [] [],lvS,lvP,lvX,.mk 1 1 ⟨#[]⟩ 0 [] []] := by simp [parts,partsL]
theorem lv_ok: okE lvE := by
 constructor
 ·
  rw [lv_parts]; decide
 ·
  rw [lv_parts]; intro x hx
  simp only [List.mem_cons,List.not_mem_nil,or_false] at hx
  rcases hx with rfl | rfl | rfl | rfl | rfl | rfl <;> exact ⟨by decide,fun a ha => by simp [Ex.arms] at ha⟩
theorem lvG_ok: okProg lvG := by
 refine ⟨⟨by decide,by simp⟩,by decide,fun n hn => ?_⟩
 rw [List.mem_singleton.1 hn]
 refine ⟨⟨by decide,fun d hd => ?_⟩,⟨by decide,fun d hd => ?_⟩,⟨by decide,by simp⟩,by decide,by decide,fun q hq => ?_⟩
 ·
  rw [List.mem_singleton.1 hd]; decide
 ·
  rw [List.mem_singleton.1 hd]; decide
 ·
  rw [List.mem_singleton.1 hq]
  exact ⟨by decide,lv_ok,fun s hs => by rw [List.mem_singleton.1 hs]; decide⟩
theorem lv120: lowF ⟨#[120]⟩ = true := by decide +kernel
theorem lv121: lowF ⟨#[121]⟩ = true := by decide +kernel
theorem lv102: lowF ⟨#[102]⟩ = true := by decide +kernel
theorem lv_right: rightE lvE = true := by
 unfold rightE
 rw [lv_parts]
 simp [partE,numbersE,namedE,armsE,subsE,Ex.kind,Ex.op,Ex.n,Ex.name,Ex.arms,Ex.subs,lv120,depthE,depthL]
theorem lv_check: checkF lvG = 0 := by
 have h1: enumsF [] = 0 := by
  unfold enumsF greatE rightEn
  simp [onceB_yes]
 have h2: nodeF 0 lvN = true := by
  unfold nodeF bareN eqF declaredF bareF rightTyF
  simp [allV,lv120,lv121,lv102,lv_right]
 have h3: onceN lvN = true := by
  unfold onceN
  exact onceB_yes (by simp [allV])
 have h4: onceB [(⟨#[102]⟩: ByteArray)] = true := onceB_yes (by simp)
 have h5: greatF lvN = false := by decide +kernel
 unfold checkF
 simp [h1,h2,h3,h4,h5]
theorem lv_d1: decl lvN ⟨#[120]⟩ = (lvIn,true) := by simp [decl,allV,declF]
theorem lv_d2: decl lvN ⟨#[121]⟩ = (lvOut,true) := by simp [decl,allV,declF]
theorem lv_scope: scopeF lvG = ⟨0,0,0⟩ := by
 unfold scopeF
 rw [if_pos lv_check]
 have h1: (allV lvN).all (clockedF [] lvN) = true := by simp [allV,clockedF]
 have h2: (parts lvE).all (leadsF lvG 0 lvN) = true := by
  rw [lv_parts]
  simp [leadsF,isF,lv_d1,Ex.kind,Ex.arms,Ex.name]
 have h3: namesErr lvN [] [⟨#[121]⟩] = 0 := by simp [namesErr,isF,lv_d2,inF,memB]
 have h4: eqErr lvG 0 lvN [] lvQ = 0 := by
  unfold eqErr
  rw [if_pos h3,if_pos h2]
 have h5: allDef lvN = true := by simp [allDef,memB]
 have h1a: clockedF [] lvN lvIn = true := by simp [clockedF]
 have h1b: clockedF [] lvN lvOut = true := by simp [clockedF]
 simp [nodesFault,nodeFault,h1,h1a,h1b,allV,eqsErr,h4,h5]
theorem lv_ofX: ofT lvG lvN lvX = some tyI := by
 rw [ofT_eq]
 simp [headP,Ex.kind,Ex.name,lv_d1,opt]
abbrev lvL (m: Int): Ex := .mk 1 m ⟨#[]⟩ 0 [] []
theorem lv_rightL (m: Int) (hm: 0 ≤ m): (rightE (lvL m) && constE (lvL m)) = true := by
 have hp: parts (lvL m) = [lvL m] := by simp [parts,partsL]
 unfold rightE
 rw [hp]
 simp [partE,numbersE,namedE,armsE,subsE,Ex.kind,Ex.op,Ex.n,Ex.name,Ex.arms,Ex.subs,depthE,depthL,constE,litE,hm]
theorem lv_constL (m: Int) (hm: 0 ≤ m): constT [] (lvL m) = ([m],tyI,true) := by
 unfold constT
 rw [if_pos (lv_rightL m hm)]
 simp [Ex.kind,cellsT,litT,sameT,Ex.n]
theorem lv_ofL (m: Int) (hm: 0 ≤ m): ofT lvG lvN (lvL m) = some tyI := by
 rw [ofT_eq]
 simp [headP,Ex.kind,lv_constL m hm,opt]
theorem lv_ofP: ofT lvG lvN lvP = some tyI := by
 rw [ofT_eq,ofL_map]
 simp [headP,Ex.kind,Ex.subs,lv_ofX,allS,flowT,opt]
theorem lv_ofS: ofT lvG lvN lvS = some tyI := by
 rw [ofT_eq,ofL_map]
 simp [headP,Ex.kind,Ex.subs,lv_ofP,lv_ofL,allS,plainT,binT,Ex.op,opt]
theorem lv_types: typesF lvG = ⟨0,0,0⟩ := by
 have h1: (allV lvN).all (clkTy lvG lvN) = true := by simp [allV,clkTy]
 have h2: toldP lvG lvN lvE = ([tyI],true) := by
  unfold toldP
  rw [if_neg (by decide),ofL_map]
  simp [headP,Ex.kind,Ex.subs,lv_ofS,lv_ofL,allS,flowT]
 have h3: eqTy lvG lvN lvQ = true := by
  unfold eqTy
  rw [h2]
  simp [lv_d2]
  exact eqB_eq rfl
 have h1a: clkTy lvG lvN lvIn = true := by simp [clkTy]
 have h1b: clkTy lvG lvN lvOut = true := by simp [clkTy]
 unfold typesF
 rw [lv_scope,if_pos rfl]
 simp [firstF,nodeTy,h1,h1a,h1b,allV,firstE,h3]
theorem lv_clk (s: ByteArray) (d: DDecl) (h: decl lvN s = (d,true)) (hd: d.On = ⟨#[]⟩): rowN [] lvN s = ([],true) := by
 have: clock lvN s = ([],true) := by
  unfold clock
  rw [clk_succ,h,if_pos rfl,if_pos hd]
 unfold rowN
 rw [this,if_pos rfl]
 simp [rowL]
theorem lv_fits: fitsF (rowN [] lvN) [] lvE [] = true := by
 have hx: fitsF (rowN [] lvN) [] lvX [] = true := by
  rw [fitsF_eq]
  simp [Ex.kind,Ex.name,lv_clk _ _ lv_d1 rfl]
  try exact eqB_eq rfl
 have hn: ∀ m,fitsF (rowN [] lvN) [] (lvL m) [] = true := fun m => by
  rw [fitsF_eq]
  simp [Ex.kind,fitsL,Ex.subs]
 have hp: fitsF (rowN [] lvN) [] lvP [] = true := by
  rw [fitsF_eq]
  simp [Ex.kind,fitsL,Ex.subs,hx]
 have hs: fitsF (rowN [] lvN) [] lvS [] = true := by
  rw [fitsF_eq]
  simp [Ex.kind,fitsL,Ex.subs,hp,hn]
 rw [fitsF_eq]
 simp [Ex.kind,fitsL,Ex.subs,hs,hn]
theorem lv_clock: clockF lvG = ⟨0,0,0⟩ := by
 have h1: rowsOk [] lvN = true := by simp [rowsOk,allV,lv_clk _ _ lv_d1 rfl,lv_clk _ _ lv_d2 rfl]
 have h2: eqCk [] lvN lvQ = true := by
  unfold eqCk
  simp [lv_clk _ _ lv_d2 rfl,lv_fits,eqB_eq]
 unfold clockF
 rw [lv_types,if_pos rfl]
 simp [firstF,nodeCk,h1,firstE,h2]
theorem lv_reads: readsF lvE = [] := by simp [readsF,readsL,mineK]
theorem lv_cause: causeF lvG = ⟨0,0,0⟩ := by
 have hc: clock lvN ⟨#[121]⟩ = ([],true) := by
  unfold clock
  rw [clk_succ,lv_d2,if_pos rfl,if_pos rfl]
 have h1: hangsC lvN = [[]] := by simp [hangsF,lv_reads,hc]
 have h2: orderF (namesC lvN) (hangsC lvN) = ([0],true) := by
  rw [h1]
  decide +kernel
 have h3: nodeCa 0 lvN = ⟨0,0,0⟩ := by
  unfold nodeCa
  rw [h2,if_pos rfl]
 unfold causeF
 rw [lv_clock,if_pos rfl]
 simp [firstF,h3]
theorem lv_start: (startF lvG).Err = 0 := by
 have h1: lt lvE = (false,true) := by simp [lt,ltL,ltH,ltK]
 have h2: eqSt lvQ = true := by unfold eqSt; rw [show lvQ.E = lvE from rfl,h1]; rfl
 have h3: nodeSt 0 lvN = ⟨0,0,0⟩ := by simp [nodeSt,firstE,h2]
 unfold startF
 rw [lv_cause,if_pos rfl]
 simp [firstF,h3]
abbrev lvA (j: Nat): DAtom := ⟨nmN ⟨#[121]⟩ j,0⟩
theorem lv_row: rowOn lvG 0 ⟨#[121]⟩ = [] := by
 unfold rowOn rowF
 simp [nodeAt,lv_clk _ _ lv_d2 rfl]
theorem lv_map: (flowNm lvG 0 lvN).Eqs.map (fun q => (q.Names,q.Args)) = [([nmN ⟨#[121]⟩ 1],[noAtom]),([nmN ⟨#[121]⟩ 2],[⟨⟨#[120]⟩,0⟩]),([nmN ⟨#[121]⟩ 3],[lvA 2,⟨⟨#[]⟩,1⟩]),([⟨#[121]⟩],[lvA 1,noAtom,lvA 3])] := by
 simp [flowNm,eqsNm,eqNm,eqPl,lv_row,plainN_eq,frstN,argsN,eachN_cons,eachN_nil,atomN,leafK,leafA,headN,freshN,onN,Ex.kind,Ex.subs,Ex.name,Ex.n,Ex.op,Ex.arms,plain0]
theorem lv_eqs: ∃ q0 q1 q2 q3: DPlain,(flowNm lvG 0 lvN).Eqs = [q0,q1,q2,q3] ∧ q0.Names = [nmN ⟨#[121]⟩ 1] ∧ q2.Names = [nmN ⟨#[121]⟩ 3] ∧ q3.Args = [lvA 1,noAtom,lvA 3] := by
 have h := lv_map
 generalize (flowNm lvG 0 lvN).Eqs = l at h
 rcases l with _ | ⟨a,_ | ⟨b,_ | ⟨c,_ | ⟨d,_ | ⟨x,l⟩⟩⟩⟩⟩ <;> simp only [List.map_cons,List.map_nil,List.cons.injEq,Prod.mk.injEq,and_true,reduceCtorEq,and_false] at h
 exact ⟨a,b,c,d,rfl,h.1.1,h.2.2.1.1,h.2.2.2.2⟩
def okArgs (q: DPlain) (i: Nat) (acc: List ByteArray): Prop := acc = (if q.Kind = 5 then [] else (q.Args.take i).map DAtom.Var)
theorem okArgs.zero {q: DPlain}: okArgs q 0 [] := by simp [okArgs]
theorem okArgs.next {q: DPlain} {i: Nat} {acc: List ByteArray} {x: DAtom} (h: okArgs q i acc) (hk: ¬ q.Kind = 5) (hx: q.Args[((i: Nat): Int).toNat]? = some x): okArgs q (i + 1) (acc ++ [x.Var]) := by
 unfold okArgs at h ⊢
 rw [if_neg hk] at h ⊢
 rw [take_mapS hx,h]
theorem okArgs.done {q: DPlain} {i: Nat} {acc: List ByteArray} (h: okArgs q i acc) (hi: i ≤ q.Args.length) (he: ¬ (i: Int) < q.Args.length ∨ ¬ q.Kind ≠ 5): acc = argsP q := by
 unfold okArgs at h
 unfold argsP
 rw [h]
 by_cases e: q.Kind = 5
 ·
  rw [if_pos e,if_pos e]
 ·
  rw [if_neg e,if_neg e,List.take_of_length_le (by omega)]
def okOn (q: DPlain) (i: Nat) (acc: List ByteArray): Prop := acc = argsP q ++ ((if q.Reset = true then [q.Every.Var] else []) ++ (q.On.take i).map DCond.Var)
theorem okOn.next {q: DPlain} {i: Nat} {acc: List ByteArray} {x: DCond} (h: okOn q i acc) (hx: q.On[((i: Nat): Int).toNat]? = some x): okOn q (i + 1) (acc ++ [x.Var]) := by
 unfold okOn at h ⊢
 rw [take_mapS hx,h]
 simp [List.append_assoc]
theorem okOn.done {q: DPlain} {i: Nat} {acc: List ByteArray} (h: okOn q i acc) (hi: ¬ (i: Int) < q.On.length): acc = rawP q := by
 rw [h,List.take_of_length_le (by omega)]
 rfl
def okF (l: List ByteArray) (k: Nat) (out: List ByteArray): Prop := out = (l.take k).filter (fun s => decide (¬ s = ⟨#[]⟩)) ∧ out.length ≤ k
theorem okF.zero {l: List ByteArray}: okF l 0 [] := ⟨by simp,by simp⟩
theorem okF.next {l: List ByteArray} {k: Nat} {out: List ByteArray} {x: ByteArray} (h: okF l k out) (hx: l[((k: Nat): Int).toNat]? = some x) (hn: ¬ x = ⟨#[]⟩): okF l (k + 1) (out ++ [x]) :=
 ⟨by rw [take_filtT hx (by simpa using hn),h.1],by have := h.2; simp; omega⟩
theorem okF.skip {l: List ByteArray} {k: Nat} {out: List ByteArray} {x: ByteArray} (h: okF l k out) (hx: l[((k: Nat): Int).toNat]? = some x) (hn: ¬ ¬ x = ⟨#[]⟩): okF l (k + 1) out :=
 ⟨by rw [take_filtF hx (by simpa using hn),h.1],by have := h.2; omega⟩
theorem okF.done {l: List ByteArray} {k: Nat} {out: List ByteArray} {q: DPlain} (h: okF l k out) (hk: ¬ (k: Int) < l.length) (hl: l = rawP q): readsP q = out := by
 rw [h.1,List.take_of_length_le (by omega),hl]
 rfl
def addF (acc: List ByteArray) (m: ByteArray): List ByteArray := if m = ⟨#[]⟩ then acc else acc ++ [m]
theorem addF_filt (l: List ByteArray) (m: ByteArray): (l ++ [m]).filter (fun s => decide (¬ s = ⟨#[]⟩)) = addF (l.filter (fun s => decide (¬ s = ⟨#[]⟩))) m := by
 unfold addF
 rw [List.filter_append]
 by_cases e: m = ⟨#[]⟩
 ·
  simp [e]
 ·
  simp [e]
theorem addF_le (l: List ByteArray) (m: ByteArray): (addF l m).length ≤ l.length + 1 := by unfold addF; split <;> simp
def okN (q: DPlain) (i: Nat) (acc: List ByteArray): Prop := acc = (if q.Kind = 5 then [] else (q.Args.take i).map DAtom.Var).filter (fun s => decide (¬ s = ⟨#[]⟩)) ∧ acc.length ≤ i
theorem okN.zero {q: DPlain}: okN q 0 [] := ⟨by simp,by simp⟩
theorem okN.next {q: DPlain} {i: Nat} {acc: List ByteArray} {x: DAtom} (h: okN q i acc) (hk: ¬ q.Kind = 5) (hx: q.Args[((i: Nat): Int).toNat]? = some x): okN q (i + 1) (addF acc x.Var) := by
 obtain ⟨h1,h2⟩ := h
 refine ⟨?_,by have := addF_le acc x.Var; omega⟩
 rw [if_neg hk] at h1 ⊢
 rw [take_mapS hx,addF_filt,h1]
theorem okN.skip {q: DPlain} {i: Nat} {acc: List ByteArray} (h: okN q i acc) (hk: ¬ q.Kind ≠ 5): okN q (i + 1) acc := by
 obtain ⟨h1,h2⟩ := h
 have hk': q.Kind = 5 := by omega
 refine ⟨?_,by omega⟩
 rw [if_pos hk'] at h1 ⊢
 exact h1
theorem okN.done {q: DPlain} {i: Nat} {acc: List ByteArray} (h: okN q i acc) (hi: ¬ (i: Int) < q.Args.length): acc = (argsP q).filter (fun s => decide (¬ s = ⟨#[]⟩)) := by
 rw [h.1,List.take_of_length_le (by omega)]
 rfl
def okM (q: DPlain) (j: Nat) (acc: List ByteArray): Prop := acc = (argsP q ++ ((if q.Reset = true then [q.Every.Var] else []) ++ (q.On.take j).map DCond.Var)).filter (fun s => decide (¬ s = ⟨#[]⟩)) ∧ acc.length ≤ q.Args.length + 1 + j
theorem okM.next {q: DPlain} {i: Nat} {acc: List ByteArray} {x: DCond} (h: okM q i acc) (hx: q.On[((i: Nat): Int).toNat]? = some x): okM q (i + 1) (addF acc x.Var) := by
 refine ⟨?_,by have := addF_le acc x.Var; have := h.2; omega⟩
 rw [take_mapS hx,h.1,← addF_filt]
 simp [List.append_assoc]
theorem okM.done {q: DPlain} {i: Nat} {acc: List ByteArray} (h: okM q i acc) (hi: ¬ (i: Int) < q.On.length): readsP q = acc := by
 rw [h.1,List.take_of_length_le (by omega)]
 rfl
theorem ext_DPlain {x y: DPlain} (h0: x.Kind = y.Kind) (h1: x.Names = y.Names) (h2: x.Op = y.Op) (h3: x.Args = y.Args) (h4: x.Init = y.Init) (h5: x.Node = y.Node) (h6: x.Reset = y.Reset) (h7: x.Every = y.Every) (h8: x.On = y.On): x = y := by cases x; cases y; simp_all
theorem ext_DVar {x y: DVar} (h0: x.Name = y.Name) (h1: x.Ty = y.Ty) (h2: x.On = y.On): x = y := by cases x; cases y; simp_all
theorem ext_DFlow {x y: DFlow} (h0: x.Name = y.Name) (h1: x.Ins = y.Ins) (h2: x.Outs = y.Outs) (h3: x.Vars = y.Vars) (h4: x.Eqs = y.Eqs): x = y := by cases x; cases y; simp_all
theorem sameAtoms (l m: List DAtom): PCall Tryz.prog 30 [.lst 2 (l.map (DAtom.enc)) none,.lst 2 (m.map (DAtom.enc)) none] (.b (eqB l m)) := by
 refine pcall_of_vc tabOK Tryz.func30 (by kernel_rfl) rfl pureL pureI (n := 26) rfl (rs := [.tmp 4]) rfl ?_
 repeat' first
  | exact finB rfl
  | exact finI rfl
  | exact finP rfl
  | exact absurd rfl (by assumption)
  | simp only [go_sem]
  | (intro _)
  | refine brK_dec (fun _ => ?_) (fun _ => ?_)
  | refine brK_any ?_ ?_
  | refine gK_dec (fun _ => ?_) (fun _ => ?_)
  | refine gK_any ?_ ?_
  | refine gqK_dec (fun _ => ?_) (fun _ => ?_)
  | refine ⟨by omega,?_⟩
  | refine elemHave (by omega) (by assumption) ?_
  | refine elemMap (by omega) (by omega) (fun x hx => ?_)
  | refine drawK mo (by kernel_rfl) ?_
  | (rw [eqB_ne (len_ne (l := l) (m := m) (by omega))]; exact ⟨_,rfl,false,.refl _⟩)
  | (rw [eqB_ne (at_ne (l := l) (m := m) (i := i) (by assumption) (by assumption) (by assumption))]; exact ⟨_,rfl,false,.refl _⟩)
  | (rw [eqB_eq (take_eq_full (l := l) (m := m) (i := i) (by omega) hpi (by omega))]; exact ⟨_,rfl,false,.refl _⟩)
  | exact loopFrH _ (by omega) ⟨i + 1,by omega,rfl,take_eq_step hpi (by assumption) (by assumption) (by assumption),rfl⟩ (.next rfl (by omega) .nil) rfl
  | (refine loop_frH [4,5,11,12,13,14,15,16,17,18,19,20,21,22,23,24,25] (fun mm_ CC_ => ∃ (i: Nat),i ≤ l.length ∧ mm_ = l.length - i ∧ (l.take i = m.take i) ∧ CC_ = [(5,.raw (.int .i64 ((i: Nat): Int)))]) (l.length) _ ⟨0,by omega,by omega,rfl,rfl⟩ (.cons rfl .nil) ?_; rintro mm_ CC_ ji ⟨i,hi,rfl,hpi,rfl⟩)
theorem sameConds (l m: List DCond): PCall Tryz.prog 21 [.lst 2 (l.map (DCond.enc)) none,.lst 2 (m.map (DCond.enc)) none] (.b (eqB l m)) := by
 refine pcall_of_vc tabOK Tryz.func21 (by kernel_rfl) rfl pureL pureI (n := 26) rfl (rs := [.tmp 4]) rfl ?_
 repeat' first
  | exact finB rfl
  | exact finI rfl
  | exact finP rfl
  | exact absurd rfl (by assumption)
  | simp only [go_sem]
  | (intro _)
  | refine brK_dec (fun _ => ?_) (fun _ => ?_)
  | refine brK_any ?_ ?_
  | refine gK_dec (fun _ => ?_) (fun _ => ?_)
  | refine gK_any ?_ ?_
  | refine gqK_dec (fun _ => ?_) (fun _ => ?_)
  | refine ⟨by omega,?_⟩
  | refine elemHave (by omega) (by assumption) ?_
  | refine elemMap (by omega) (by omega) (fun x hx => ?_)
  | refine drawK mo (by kernel_rfl) ?_
  | (rw [eqB_ne (len_ne (l := l) (m := m) (by omega))]; exact ⟨_,rfl,false,.refl _⟩)
  | (rw [eqB_ne (at_ne (l := l) (m := m) (i := i) (by assumption) (by assumption) (by assumption))]; exact ⟨_,rfl,false,.refl _⟩)
  | (rw [eqB_eq (take_eq_full (l := l) (m := m) (i := i) (by omega) hpi (by omega))]; exact ⟨_,rfl,false,.refl _⟩)
  | exact loopFrH _ (by omega) ⟨i + 1,by omega,rfl,take_eq_step hpi (by assumption) (by assumption) (by assumption),rfl⟩ (.next rfl (by omega) .nil) rfl
  | (refine loop_frH [4,5,11,12,13,14,15,16,17,18,19,20,21,22,23,24,25] (fun mm_ CC_ => ∃ (i: Nat),i ≤ l.length ∧ mm_ = l.length - i ∧ (l.take i = m.take i) ∧ CC_ = [(5,.raw (.int .i64 ((i: Nat): Int)))]) (l.length) _ ⟨0,by omega,by omega,rfl,rfl⟩ (.cons rfl .nil) ?_; rintro mm_ CC_ ji ⟨i,hi,rfl,hpi,rfl⟩)
theorem sameVals (l m: List Int): PCall Tryz.prog 109 [.lst 1 (l.map (AV.i)) none,.lst 1 (m.map (AV.i)) none] (.b (eqB l m)) := by
 refine pcall_of_vc tabOK Tryz.func109 (by kernel_rfl) rfl pureL pureI (n := 26) rfl (rs := [.tmp 4]) rfl ?_
 repeat' first
  | exact finB rfl
  | exact finI rfl
  | exact finP rfl
  | exact absurd rfl (by assumption)
  | simp only [go_sem]
  | (intro _)
  | refine brK_dec (fun _ => ?_) (fun _ => ?_)
  | refine brK_any ?_ ?_
  | refine gK_dec (fun _ => ?_) (fun _ => ?_)
  | refine gK_any ?_ ?_
  | refine gqK_dec (fun _ => ?_) (fun _ => ?_)
  | refine ⟨by omega,?_⟩
  | refine elemHave (by omega) (by assumption) ?_
  | refine elemMap (by omega) (by omega) (fun x hx => ?_)
  | refine drawK mo (by kernel_rfl) ?_
  | (rw [eqB_ne (len_ne (l := l) (m := m) (by omega))]; exact ⟨_,rfl,false,.refl _⟩)
  | (rw [eqB_ne (at_ne (l := l) (m := m) (i := i) (by assumption) (by assumption) (by assumption))]; exact ⟨_,rfl,false,.refl _⟩)
  | (rw [eqB_eq (take_eq_full (l := l) (m := m) (i := i) (by omega) hpi (by omega))]; exact ⟨_,rfl,false,.refl _⟩)
  | exact loopFrH _ (by omega) ⟨i + 1,by omega,rfl,take_eq_step hpi (by assumption) (by assumption) (by assumption),rfl⟩ (.next rfl (by omega) .nil) rfl
  | (refine loop_frH [4,5,11,12,13,14,15,16,17,18,19,20,21,22,23,24,25] (fun mm_ CC_ => ∃ (i: Nat),i ≤ l.length ∧ mm_ = l.length - i ∧ (l.take i = m.take i) ∧ CC_ = [(5,.raw (.int .i64 ((i: Nat): Int)))]) (l.length) _ ⟨0,by omega,by omega,rfl,rfl⟩ (.cons rfl .nil) ?_; rintro mm_ CC_ ji ⟨i,hi,rfl,hpi,rfl⟩)
theorem samePlain73 (x y: DPlain): PCall Tryz.prog 69 [x.enc,y.enc] (.b (eqB x y)) := by
 refine pcall_of_vc tabOK Tryz.func69 (by kernel_rfl) rfl pureL pureI (n := 66) rfl (rs := [.tmp 4]) rfl ?_
 repeat' first
  | exact finB rfl
  | exact finI rfl
  | exact finP rfl
  | exact absurd rfl (by assumption)
  | simp only [go_sem]
  | (intro _)
  | refine brK_dec (fun _ => ?_) (fun _ => ?_)
  | refine brK_split (fun hb_ => ?_) (fun hb_ => ?_)
  | refine gK_dec (fun _ => ?_) (fun _ => ?_)
  | refine gK_split (fun hb_ => ?_) (fun hb_ => ?_)
  | refine gqK_dec (fun _ => ?_) (fun _ => ?_)
  | refine ⟨by omega,?_⟩
  | refine elemHave (by omega) (by assumption) ?_
  | refine elemMap (by omega) (by omega) (fun x hx => ?_)
  | refine drawK mo (by kernel_rfl) ?_
  | (rw [eqB_ne (by rintro rfl; first | contradiction | simp at hb_)]; exact ⟨_,rfl,false,.refl _⟩)
  | (rw [eqB_eq (ext_DPlain (by first | assumption | exact Classical.not_not.1 (by assumption) | exact eq_of_beq hb_) (by first | assumption | exact Classical.not_not.1 (by assumption) | exact eq_of_beq hb_) (by first | assumption | exact Classical.not_not.1 (by assumption) | exact eq_of_beq hb_) (by first | assumption | exact Classical.not_not.1 (by assumption) | exact eq_of_beq hb_) (by first | assumption | exact Classical.not_not.1 (by assumption) | exact eq_of_beq hb_) (by first | assumption | exact Classical.not_not.1 (by assumption) | exact eq_of_beq hb_) (by first | assumption | exact Classical.not_not.1 (by assumption) | exact eq_of_beq hb_) (by first | assumption | exact Classical.not_not.1 (by assumption) | exact eq_of_beq hb_) (by first | assumption | exact Classical.not_not.1 (by assumption) | exact eq_of_beq hb_))]; exact ⟨_,rfl,false,.refl _⟩)
  | (refine PCall.call (namesStr _ _) ?_; generalize he: eqB (α := List ByteArray) _ _ = b; cases b <;> first | replace he := eqB_t he | replace he := eqB_f he)
  | (refine PCall.call (sameAtoms _ _) ?_; generalize he: eqB (α := List DAtom) _ _ = b; cases b <;> first | replace he := eqB_t he | replace he := eqB_f he)
  | (refine PCall.call (sameVals _ _) ?_; generalize he: eqB (α := List Int) _ _ = b; cases b <;> first | replace he := eqB_t he | replace he := eqB_f he)
  | (refine PCall.call (sameConds _ _) ?_; generalize he: eqB (α := List DCond) _ _ = b; cases b <;> first | replace he := eqB_t he | replace he := eqB_f he)
theorem sameVars72 (l m: List DVar): PCall Tryz.prog 68 [.lst 5 (l.map DVar.enc) none,.lst 5 (m.map DVar.enc) none] (.b (eqB l m)) := by
 refine pcall_of_vc tabOK Tryz.func68 (by kernel_rfl) rfl pureL pureI (n := 55) rfl (rs := [.tmp 4]) rfl ?_
 repeat' first
  | exact finB rfl
  | exact finI rfl
  | exact finP rfl
  | exact absurd rfl (by assumption)
  | simp only [go_sem]
  | (intro _)
  | refine brK_dec (fun _ => ?_) (fun _ => ?_)
  | refine brK_split (fun hb_ => ?_) (fun hb_ => ?_)
  | refine gK_dec (fun _ => ?_) (fun _ => ?_)
  | refine gK_split (fun hb_ => ?_) (fun hb_ => ?_)
  | refine gqK_dec (fun _ => ?_) (fun _ => ?_)
  | refine ⟨by omega,?_⟩
  | refine elemHave (by omega) (by assumption) ?_
  | refine elemMap (by omega) (by omega) (fun x hx => ?_)
  | refine drawK mo (by kernel_rfl) ?_
  | (rw [eqB_ne (len_ne (by omega))]; exact ⟨_,rfl,false,.refl _⟩)
  | (rw [eqB_ne (at_ne' (l := l) (m := m) (i := i) (by assumption) (by assumption) (by rintro rfl; contradiction))]; exact ⟨_,rfl,false,.refl _⟩)
  | (rw [eqB_eq (take_eq_full (i := i) (by omega) hpi (by omega))]; exact ⟨_,rfl,false,.refl _⟩)
  | (refine pcK_of (sameConds _ _) ?_; generalize he: eqB (α := List DCond) _ _ = b; cases b <;> first | replace he := eqB_t he | replace he := eqB_f he)
  | exact loopFrH _ (by omega) ⟨i + 1,by omega,rfl,take_eq_step' hpi (by assumption) (by assumption) (ext_DVar (by first | assumption | exact Classical.not_not.1 (by assumption) | exact eq_of_beq hb_) (by first | assumption | exact Classical.not_not.1 (by assumption) | exact eq_of_beq hb_) (by first | assumption | exact Classical.not_not.1 (by assumption) | exact eq_of_beq hb_)),rfl⟩ (.next rfl (by omega) .nil) rfl
  | (refine loop_frH [4,5,11,12,13,14,15,16,17,18,19,20,21,22,23,24,25,26,27,28,29,30,31,32,33,34,35,36,37,38,39,40,41,42,43,44,45,46,47,48,49,50,51,52,53,54] (fun mm_ CC_ => ∃ (i: Nat),i ≤ l.length ∧ mm_ = l.length - i ∧ (l.take i = m.take i) ∧ CC_ = [(5,.raw (.int .i64 ((i: Nat): Int)))]) (l.length) _ ⟨0,by omega,by omega,rfl,rfl⟩ (.cons rfl .nil) ?_; rintro mm_ CC_ ji ⟨i,hi,rfl,hpi,rfl⟩)
theorem sameFlow34 (a b: DFlow): PCall Tryz.prog 38 [a.enc,b.enc] (.b (eqB a b)) := by
 refine pcall_of_vc tabOK Tryz.func38 (by kernel_rfl) rfl pureL pureI (n := 63) rfl (rs := [.tmp 4]) rfl ?_
 repeat' first
  | exact finB rfl
  | exact finI rfl
  | exact finP rfl
  | exact absurd rfl (by assumption)
  | simp only [go_sem]
  | (intro _)
  | refine brK_dec (fun _ => ?_) (fun _ => ?_)
  | refine brK_split (fun hb_ => ?_) (fun hb_ => ?_)
  | refine gK_dec (fun _ => ?_) (fun _ => ?_)
  | refine gK_split (fun hb_ => ?_) (fun hb_ => ?_)
  | refine gqK_dec (fun _ => ?_) (fun _ => ?_)
  | refine ⟨by omega,?_⟩
  | refine elemHave (by omega) (by assumption) ?_
  | refine elemMap (by omega) (by omega) (fun x hx => ?_)
  | refine drawK mo (by kernel_rfl) ?_
  | (rw [eqB_ne (by rintro rfl; first | contradiction | simp at hb_)]; exact ⟨_,rfl,false,.refl _⟩)
  | (rw [eqB_ne (fun h => len_ne (by omega) (congrArg DFlow.Eqs h))]; exact ⟨_,rfl,false,.refl _⟩)
  | (rw [eqB_ne (fun h => at_ne' (l := a.Eqs) (m := b.Eqs) (i := i) (by assumption) (by assumption) (by assumption) (congrArg DFlow.Eqs h))]; exact ⟨_,rfl,false,.refl _⟩)
  | (rw [eqB_eq (ext_DFlow (by first | assumption | exact Classical.not_not.1 (by assumption) | exact eq_of_beq hb_) (by first | assumption | exact Classical.not_not.1 (by assumption) | exact eq_of_beq hb_) (by first | assumption | exact Classical.not_not.1 (by assumption) | exact eq_of_beq hb_) (by first | assumption | exact Classical.not_not.1 (by assumption) | exact eq_of_beq hb_) (take_eq_full (i := i) (by omega) hpi (by omega)))]; exact ⟨_,rfl,false,.refl _⟩)
  | (refine PCall.call (sameVars72 _ _) ?_; generalize he: eqB (α := List DVar) _ _ = b; cases b <;> first | replace he := eqB_t he | replace he := eqB_f he)
  | (refine pcK_of (samePlain73 _ _) ?_; generalize he: eqB (α := DPlain) _ _ = b; cases b <;> first | replace he := eqB_t he | replace he := eqB_f he)
  | exact loopFrH _ (by omega) ⟨i + 1,by omega,rfl,take_eq_step' hpi (by assumption) (by assumption) (by assumption),rfl⟩ (.next rfl (by omega) .nil) rfl
  | (refine loop_frH [4,5,44,45,46,47,48,49,50,51,52,53,54,55,56,57,58,59,60,61,62] (fun mm_ CC_ => ∃ (i: Nat),i ≤ a.Eqs.length ∧ mm_ = a.Eqs.length - i ∧ (a.Eqs.take i = b.Eqs.take i) ∧ CC_ = [(5,.raw (.int .i64 ((i: Nat): Int)))]) (a.Eqs.length) _ ⟨0,by omega,by omega,rfl,rfl⟩ (.cons rfl .nil) ?_; rintro mm_ CC_ ji ⟨i,hi,rfl,hpi,rfl⟩)
theorem ext_DEnum {x y: DEnum} (h0: x.Name = y.Name) (h1: x.Ctors = y.Ctors): x = y := by cases x; cases y; simp_all
theorem enums78 (l m: List DEnum): PCall Tryz.prog 37 [.lst 2 (l.map DEnum.enc) none,.lst 2 (m.map DEnum.enc) none] (.b (eqB l m)) := by
 refine pcall_of_vc tabOK Tryz.func37 (by kernel_rfl) rfl pureL pureI (n := 42) rfl (rs := [.tmp 4]) rfl ?_
 repeat' first
  | exact finB rfl
  | exact finI rfl
  | exact finP rfl
  | exact absurd rfl (by assumption)
  | simp only [go_sem]
  | (intro _)
  | refine brK_dec (fun _ => ?_) (fun _ => ?_)
  | refine brK_any ?_ ?_
  | refine gK_dec (fun _ => ?_) (fun _ => ?_)
  | refine gK_any ?_ ?_
  | refine gqK_dec (fun _ => ?_) (fun _ => ?_)
  | refine ⟨by omega,?_⟩
  | refine elemHave (by omega) (by assumption) ?_
  | refine elemMap (by omega) (by omega) (fun x hx => ?_)
  | refine drawK mo (by kernel_rfl) ?_
  | (rw [eqB_ne (by rintro rfl; contradiction)]; exact ⟨_,rfl,false,.refl _⟩)
  | (rw [eqB_ne (at_ne' (l := l) (m := m) (i := i) (by assumption) (by assumption) (by rintro rfl; contradiction))]; exact ⟨_,rfl,false,.refl _⟩)
  | (rw [eqB_eq (take_eq_full (i := i) (by omega) hpi (by omega))]; exact ⟨_,rfl,false,.refl _⟩)
  | (refine pcK_of (namesStr _ _) ?_; generalize he: eqB (α := List ByteArray) _ _ = b; cases b <;> first | replace he := eqB_t he | replace he := eqB_f he)
  | exact loopFrH _ (by omega) ⟨i + 1,by omega,rfl,take_eq_step' hpi (by assumption) (by assumption) (ext_DEnum (by first | assumption | exact Classical.not_not.1 (by assumption)) (by first | assumption | exact Classical.not_not.1 (by assumption))),rfl⟩ (.next rfl (by omega) .nil) rfl
  | (refine loop_frH [4,5,11,12,13,14,15,16,17,18,19,20,21,22,23,24,25,26,27,28,29,30,31,32,33,34,35,36,37,38,39,40,41] (fun mm_ CC_ => ∃ (i: Nat),i ≤ l.length ∧ mm_ = l.length - i ∧ (l.take i = m.take i) ∧ CC_ = [(5,.raw (.int .i64 ((i: Nat): Int)))]) (l.length) _ ⟨0,by omega,by omega,rfl,rfl⟩ (.cons rfl .nil) ?_; rintro mm_ CC_ ji ⟨i,hi,rfl,hpi,rfl⟩)
theorem ext_DFlows {x y: DFlows} (h0: x.Enums = y.Enums) (h1: x.Flows = y.Flows): x = y := by cases x; cases y; simp_all
theorem equalAt (l m: List DAtom): PCall Tryz.prog 111 [.lst 2 (l.map (DAtom.enc)) none,.lst 2 (m.map (DAtom.enc)) none] (.b (eqB l m)) := by
 refine pcall_of_vc tabOK Tryz.func111 (by kernel_rfl) rfl pureL pureI (n := 26) rfl (rs := [.tmp 4]) rfl ?_
 repeat' first
  | exact finB rfl
  | exact finI rfl
  | exact finP rfl
  | exact absurd rfl (by assumption)
  | simp only [go_sem]
  | (intro _)
  | refine brK_dec (fun _ => ?_) (fun _ => ?_)
  | refine brK_any ?_ ?_
  | refine gK_dec (fun _ => ?_) (fun _ => ?_)
  | refine gK_any ?_ ?_
  | refine gqK_dec (fun _ => ?_) (fun _ => ?_)
  | refine ⟨by omega,?_⟩
  | refine elemHave (by omega) (by assumption) ?_
  | refine elemMap (by omega) (by omega) (fun x hx => ?_)
  | refine drawK mo (by kernel_rfl) ?_
  | (rw [eqB_ne (len_ne (l := l) (m := m) (by omega))]; exact ⟨_,rfl,false,.refl _⟩)
  | (rw [eqB_ne (at_ne (l := l) (m := m) (i := i) (by assumption) (by assumption) (by assumption))]; exact ⟨_,rfl,false,.refl _⟩)
  | (rw [eqB_eq (take_eq_full (l := l) (m := m) (i := i) (by omega) hpi (by omega))]; exact ⟨_,rfl,false,.refl _⟩)
  | exact loopFrH _ (by omega) ⟨i + 1,by omega,rfl,take_eq_step hpi (by assumption) (by assumption) (by assumption),rfl⟩ (.next rfl (by omega) .nil) rfl
  | (refine loop_frH [4,5,13,14,15,16,17,18,19,20,21,22,23,24,25] (fun mm_ CC_ => ∃ (i: Nat),i ≤ l.length ∧ mm_ = l.length - i ∧ (l.take i = m.take i) ∧ CC_ = [(13,.raw (.int .i64 ((i: Nat): Int)))]) (l.length) _ ⟨0,by omega,by omega,rfl,rfl⟩ (.cons rfl .nil) ?_; rintro mm_ CC_ ji ⟨i,hi,rfl,hpi,rfl⟩)
theorem equalVal (l m: List Int): PCall Tryz.prog 112 [.lst 1 (l.map (AV.i)) none,.lst 1 (m.map (AV.i)) none] (.b (eqB l m)) := by
 refine pcall_of_vc tabOK Tryz.func112 (by kernel_rfl) rfl pureL pureI (n := 26) rfl (rs := [.tmp 4]) rfl ?_
 repeat' first
  | exact finB rfl
  | exact finI rfl
  | exact finP rfl
  | exact absurd rfl (by assumption)
  | simp only [go_sem]
  | (intro _)
  | refine brK_dec (fun _ => ?_) (fun _ => ?_)
  | refine brK_any ?_ ?_
  | refine gK_dec (fun _ => ?_) (fun _ => ?_)
  | refine gK_any ?_ ?_
  | refine gqK_dec (fun _ => ?_) (fun _ => ?_)
  | refine ⟨by omega,?_⟩
  | refine elemHave (by omega) (by assumption) ?_
  | refine elemMap (by omega) (by omega) (fun x hx => ?_)
  | refine drawK mo (by kernel_rfl) ?_
  | (rw [eqB_ne (len_ne (l := l) (m := m) (by omega))]; exact ⟨_,rfl,false,.refl _⟩)
  | (rw [eqB_ne (at_ne (l := l) (m := m) (i := i) (by assumption) (by assumption) (by assumption))]; exact ⟨_,rfl,false,.refl _⟩)
  | (rw [eqB_eq (take_eq_full (l := l) (m := m) (i := i) (by omega) hpi (by omega))]; exact ⟨_,rfl,false,.refl _⟩)
  | exact loopFrH _ (by omega) ⟨i + 1,by omega,rfl,take_eq_step hpi (by assumption) (by assumption) (by assumption),rfl⟩ (.next rfl (by omega) .nil) rfl
  | (refine loop_frH [4,5,13,14,15,16,17,18,19,20,21,22,23,24,25] (fun mm_ CC_ => ∃ (i: Nat),i ≤ l.length ∧ mm_ = l.length - i ∧ (l.take i = m.take i) ∧ CC_ = [(13,.raw (.int .i64 ((i: Nat): Int)))]) (l.length) _ ⟨0,by omega,by omega,rfl,rfl⟩ (.cons rfl .nil) ?_; rintro mm_ CC_ ji ⟨i,hi,rfl,hpi,rfl⟩)
theorem equalVar (l m: List DVar) {g: Nat} (hp: ∀ x ∈ l,∀ y ∈ m,PCall Tryz.prog g [DVar.enc x,DVar.enc y] (.b (eqB x y))): PCall Tryz.prog 71 [.lst 5 (l.map (DVar.enc)) none,.lst 5 (m.map (DVar.enc)) none,.fn (.func g) [] []] (.b (eqB l m)) := by
 refine pcall_of_vc tabOK Tryz.func71 (by kernel_rfl) rfl pureL pureI (n := 32) rfl (rs := [.tmp 6]) rfl ?_
 repeat' first
  | exact finB rfl
  | exact finI rfl
  | exact finP rfl
  | exact absurd rfl (by assumption)
  | simp only [go_sem]
  | (intro _)
  | refine brK_dec (fun _ => ?_) (fun _ => ?_)
  | refine brK_any ?_ ?_
  | refine gK_dec (fun _ => ?_) (fun _ => ?_)
  | refine gK_any ?_ ?_
  | refine gqK_dec (fun _ => ?_) (fun _ => ?_)
  | refine ⟨by omega,?_⟩
  | refine elemHave (by omega) (by assumption) ?_
  | refine elemMap (by omega) (by omega) (fun x hx => ?_)
  | refine drawK mo (by kernel_rfl) ?_
  | (rw [eqB_ne (len_ne (l := l) (m := m) (by omega))]; exact ⟨_,rfl,false,.refl _⟩)
  | (rw [eqB_ne (at_ne' (l := l) (m := m) (i := i) (by assumption) (by assumption) (by assumption))]; exact ⟨_,rfl,false,.refl _⟩)
  | (rw [eqB_eq (take_eq_full (l := l) (m := m) (i := i) (by omega) hpi (by omega))]; exact ⟨_,rfl,false,.refl _⟩)
  | (refine PCall.call (hp _ (List.mem_of_getElem? (by assumption)) _ (List.mem_of_getElem? (by assumption))) ?_; generalize he: eqB (α := DVar) _ _ = b; cases b <;> first | replace he := eqB_t he | replace he := eqB_f he)
  | exact loopFrX _ (by omega) _ ⟨i + 1,by omega,rfl,take_eq_step' hpi (by assumption) (by assumption) (by assumption),rfl⟩ (.next rfl (by omega) .nil) rfl (by first | rfl | (simp only [List.append_assoc,List.cons_append,List.nil_append]; rfl))
  | (refine loop_frX [6,7,8,9,17,18,19,20,21,22,23,24,25,26,27,28,29,30,31] (fun mm_ CC_ => ∃ (i: Nat),i ≤ l.length ∧ mm_ = l.length - i ∧ (l.take i = m.take i) ∧ CC_ = [(17,.raw (.int .i64 ((i: Nat): Int)))]) (l.length) _ ⟨0,by omega,by omega,rfl,rfl⟩ (.cons rfl .nil) ?_; rintro mm_ CC_ ji ri ⟨i,hi,rfl,hpi,rfl⟩)
theorem equalPl (l m: List DPlain) {g: Nat} (hp: ∀ x ∈ l,∀ y ∈ m,PCall Tryz.prog g [DPlain.enc x,DPlain.enc y] (.b (eqB x y))): PCall Tryz.prog 73 [.lst 10 (l.map (DPlain.enc)) none,.lst 10 (m.map (DPlain.enc)) none,.fn (.func g) [] []] (.b (eqB l m)) := by
 refine pcall_of_vc tabOK Tryz.func73 (by kernel_rfl) rfl pureL pureI (n := 32) rfl (rs := [.tmp 6]) rfl ?_
 repeat' first
  | exact finB rfl
  | exact finI rfl
  | exact finP rfl
  | exact absurd rfl (by assumption)
  | simp only [go_sem]
  | (intro _)
  | refine brK_dec (fun _ => ?_) (fun _ => ?_)
  | refine brK_any ?_ ?_
  | refine gK_dec (fun _ => ?_) (fun _ => ?_)
  | refine gK_any ?_ ?_
  | refine gqK_dec (fun _ => ?_) (fun _ => ?_)
  | refine ⟨by omega,?_⟩
  | refine elemHave (by omega) (by assumption) ?_
  | refine elemMap (by omega) (by omega) (fun x hx => ?_)
  | refine drawK mo (by kernel_rfl) ?_
  | (rw [eqB_ne (len_ne (l := l) (m := m) (by omega))]; exact ⟨_,rfl,false,.refl _⟩)
  | (rw [eqB_ne (at_ne' (l := l) (m := m) (i := i) (by assumption) (by assumption) (by assumption))]; exact ⟨_,rfl,false,.refl _⟩)
  | (rw [eqB_eq (take_eq_full (l := l) (m := m) (i := i) (by omega) hpi (by omega))]; exact ⟨_,rfl,false,.refl _⟩)
  | (refine PCall.call (hp _ (List.mem_of_getElem? (by assumption)) _ (List.mem_of_getElem? (by assumption))) ?_; generalize he: eqB (α := DPlain) _ _ = b; cases b <;> first | replace he := eqB_t he | replace he := eqB_f he)
  | exact loopFrX _ (by omega) _ ⟨i + 1,by omega,rfl,take_eq_step' hpi (by assumption) (by assumption) (by assumption),rfl⟩ (.next rfl (by omega) .nil) rfl (by first | rfl | (simp only [List.append_assoc,List.cons_append,List.nil_append]; rfl))
  | (refine loop_frX [6,7,8,9,17,18,19,20,21,22,23,24,25,26,27,28,29,30,31] (fun mm_ CC_ => ∃ (i: Nat),i ≤ l.length ∧ mm_ = l.length - i ∧ (l.take i = m.take i) ∧ CC_ = [(17,.raw (.int .i64 ((i: Nat): Int)))]) (l.length) _ ⟨0,by omega,by omega,rfl,rfl⟩ (.cons rfl .nil) ?_; rintro mm_ CC_ ji ri ⟨i,hi,rfl,hpi,rfl⟩)
theorem equalFl (l m: List DFlow) {g: Nat} (hp: ∀ x ∈ l,∀ y ∈ m,PCall Tryz.prog g [DFlow.enc x,DFlow.enc y] (.b (eqB x y))): PCall Tryz.prog 41 [.lst 5 (l.map (DFlow.enc)) none,.lst 5 (m.map (DFlow.enc)) none,.fn (.func g) [] []] (.b (eqB l m)) := by
 refine pcall_of_vc tabOK Tryz.func41 (by kernel_rfl) rfl pureL pureI (n := 32) rfl (rs := [.tmp 6]) rfl ?_
 repeat' first
  | exact finB rfl
  | exact finI rfl
  | exact finP rfl
  | exact absurd rfl (by assumption)
  | simp only [go_sem]
  | (intro _)
  | refine brK_dec (fun _ => ?_) (fun _ => ?_)
  | refine brK_any ?_ ?_
  | refine gK_dec (fun _ => ?_) (fun _ => ?_)
  | refine gK_any ?_ ?_
  | refine gqK_dec (fun _ => ?_) (fun _ => ?_)
  | refine ⟨by omega,?_⟩
  | refine elemHave (by omega) (by assumption) ?_
  | refine elemMap (by omega) (by omega) (fun x hx => ?_)
  | refine drawK mo (by kernel_rfl) ?_
  | (rw [eqB_ne (len_ne (l := l) (m := m) (by omega))]; exact ⟨_,rfl,false,.refl _⟩)
  | (rw [eqB_ne (at_ne' (l := l) (m := m) (i := i) (by assumption) (by assumption) (by assumption))]; exact ⟨_,rfl,false,.refl _⟩)
  | (rw [eqB_eq (take_eq_full (l := l) (m := m) (i := i) (by omega) hpi (by omega))]; exact ⟨_,rfl,false,.refl _⟩)
  | (refine PCall.call (hp _ (List.mem_of_getElem? (by assumption)) _ (List.mem_of_getElem? (by assumption))) ?_; generalize he: eqB (α := DFlow) _ _ = b; cases b <;> first | replace he := eqB_t he | replace he := eqB_f he)
  | exact loopFrX _ (by omega) _ ⟨i + 1,by omega,rfl,take_eq_step' hpi (by assumption) (by assumption) (by assumption),rfl⟩ (.next rfl (by omega) .nil) rfl (by first | rfl | (simp only [List.append_assoc,List.cons_append,List.nil_append]; rfl))
  | (refine loop_frX [6,7,8,9,17,18,19,20,21,22,23,24,25,26,27,28,29,30,31] (fun mm_ CC_ => ∃ (i: Nat),i ≤ l.length ∧ mm_ = l.length - i ∧ (l.take i = m.take i) ∧ CC_ = [(17,.raw (.int .i64 ((i: Nat): Int)))]) (l.length) _ ⟨0,by omega,by omega,rfl,rfl⟩ (.cons rfl .nil) ?_; rintro mm_ CC_ ji ri ⟨i,hi,rfl,hpi,rfl⟩)
theorem sameEnum40 (x y: DEnum): PCall Tryz.prog 40 [x.enc,y.enc] (.b (eqB x y)) := by
 refine pcall_of_vc tabOK Tryz.func40 (by kernel_rfl) rfl pureL pureI (n := 17) rfl (rs := [.tmp 4]) rfl ?_
 repeat' first
  | exact finB rfl
  | exact finI rfl
  | exact finP rfl
  | exact absurd rfl (by assumption)
  | simp only [go_sem]
  | (intro _)
  | refine brK_dec (fun _ => ?_) (fun _ => ?_)
  | refine brK_split (fun hb_ => ?_) (fun hb_ => ?_)
  | refine gK_dec (fun _ => ?_) (fun _ => ?_)
  | refine gK_split (fun hb_ => ?_) (fun hb_ => ?_)
  | refine gqK_dec (fun _ => ?_) (fun _ => ?_)
  | refine ⟨by omega,?_⟩
  | refine elemHave (by omega) (by assumption) ?_
  | refine elemMap (by omega) (by omega) (fun x hx => ?_)
  | refine drawK mo (by kernel_rfl) ?_
  | (rw [eqB_ne (by rintro rfl; first | contradiction | simp at hb_)]; exact ⟨_,rfl,false,.refl _⟩)
  | (rw [eqB_eq (ext_DEnum (by first | assumption | exact Classical.not_not.1 (by assumption) | exact eq_of_beq hb_) (by first | assumption | exact Classical.not_not.1 (by assumption) | exact eq_of_beq hb_))]; exact ⟨_,rfl,false,.refl _⟩)
  | (refine PCall.call (equalStr _ _) ?_; generalize he: eqB (α := List ByteArray) _ _ = b; cases b <;> first | replace he := eqB_t he | replace he := eqB_f he)
theorem sameVar72 (x y: DVar): PCall Tryz.prog 72 [x.enc,y.enc] (.b (eqB x y)) := by
 refine pcall_of_vc tabOK Tryz.func72 (by kernel_rfl) rfl pureL pureI (n := 24) rfl (rs := [.tmp 4]) rfl ?_
 repeat' first
  | exact finB rfl
  | exact finI rfl
  | exact finP rfl
  | exact absurd rfl (by assumption)
  | simp only [go_sem]
  | (intro _)
  | refine brK_dec (fun _ => ?_) (fun _ => ?_)
  | refine brK_split (fun hb_ => ?_) (fun hb_ => ?_)
  | refine gK_dec (fun _ => ?_) (fun _ => ?_)
  | refine gK_split (fun hb_ => ?_) (fun hb_ => ?_)
  | refine gqK_dec (fun _ => ?_) (fun _ => ?_)
  | refine ⟨by omega,?_⟩
  | refine elemHave (by omega) (by assumption) ?_
  | refine elemMap (by omega) (by omega) (fun x hx => ?_)
  | refine drawK mo (by kernel_rfl) ?_
  | (rw [eqB_ne (by rintro rfl; first | contradiction | simp at hb_)]; exact ⟨_,rfl,false,.refl _⟩)
  | (rw [eqB_eq (ext_DVar (by first | assumption | exact Classical.not_not.1 (by assumption) | exact eq_of_beq hb_) (by first | assumption | exact Classical.not_not.1 (by assumption) | exact eq_of_beq hb_) (by first | assumption | exact Classical.not_not.1 (by assumption) | exact eq_of_beq hb_))]; exact ⟨_,rfl,false,.refl _⟩)
  | (refine PCall.call (equalCs _ _) ?_; generalize he: eqB (α := List DCond) _ _ = b; cases b <;> first | replace he := eqB_t he | replace he := eqB_f he)
theorem samePlain74 (x y: DPlain): PCall Tryz.prog 74 [x.enc,y.enc] (.b (eqB x y)) := by
 refine pcall_of_vc tabOK Tryz.func74 (by kernel_rfl) rfl pureL pureI (n := 70) rfl (rs := [.tmp 4]) rfl ?_
 repeat' first
  | exact finB rfl
  | exact finI rfl
  | exact finP rfl
  | exact absurd rfl (by assumption)
  | simp only [go_sem]
  | (intro _)
  | refine brK_dec (fun _ => ?_) (fun _ => ?_)
  | refine brK_split (fun hb_ => ?_) (fun hb_ => ?_)
  | refine gK_dec (fun _ => ?_) (fun _ => ?_)
  | refine gK_split (fun hb_ => ?_) (fun hb_ => ?_)
  | refine gqK_dec (fun _ => ?_) (fun _ => ?_)
  | refine ⟨by omega,?_⟩
  | refine elemHave (by omega) (by assumption) ?_
  | refine elemMap (by omega) (by omega) (fun x hx => ?_)
  | refine drawK mo (by kernel_rfl) ?_
  | (rw [eqB_ne (by rintro rfl; first | contradiction | simp at hb_)]; exact ⟨_,rfl,false,.refl _⟩)
  | (rw [eqB_eq (ext_DPlain (by first | assumption | exact Classical.not_not.1 (by assumption) | exact eq_of_beq hb_) (by first | assumption | exact Classical.not_not.1 (by assumption) | exact eq_of_beq hb_) (by first | assumption | exact Classical.not_not.1 (by assumption) | exact eq_of_beq hb_) (by first | assumption | exact Classical.not_not.1 (by assumption) | exact eq_of_beq hb_) (by first | assumption | exact Classical.not_not.1 (by assumption) | exact eq_of_beq hb_) (by first | assumption | exact Classical.not_not.1 (by assumption) | exact eq_of_beq hb_) (by first | assumption | exact Classical.not_not.1 (by assumption) | exact eq_of_beq hb_) (by first | assumption | exact Classical.not_not.1 (by assumption) | exact eq_of_beq hb_) (by first | assumption | exact Classical.not_not.1 (by assumption) | exact eq_of_beq hb_))]; exact ⟨_,rfl,false,.refl _⟩)
  | (refine PCall.call (equalStr _ _) ?_; generalize he: eqB (α := List ByteArray) _ _ = b; cases b <;> first | replace he := eqB_t he | replace he := eqB_f he)
  | (refine PCall.call (equalAt _ _) ?_; generalize he: eqB (α := List DAtom) _ _ = b; cases b <;> first | replace he := eqB_t he | replace he := eqB_f he)
  | (refine PCall.call (equalVal _ _) ?_; generalize he: eqB (α := List Int) _ _ = b; cases b <;> first | replace he := eqB_t he | replace he := eqB_f he)
  | (refine PCall.call (equalCs _ _) ?_; generalize he: eqB (α := List DCond) _ _ = b; cases b <;> first | replace he := eqB_t he | replace he := eqB_f he)
theorem sameFlow42 (x y: DFlow): PCall Tryz.prog 42 [x.enc,y.enc] (.b (eqB x y)) := by
 refine pcall_of_vc tabOK Tryz.func42 (by kernel_rfl) rfl pureL pureI (n := 40) rfl (rs := [.tmp 4]) rfl ?_
 repeat' first
  | exact finB rfl
  | exact finI rfl
  | exact finP rfl
  | exact absurd rfl (by assumption)
  | simp only [go_sem]
  | (intro _)
  | refine brK_dec (fun _ => ?_) (fun _ => ?_)
  | refine brK_split (fun hb_ => ?_) (fun hb_ => ?_)
  | refine gK_dec (fun _ => ?_) (fun _ => ?_)
  | refine gK_split (fun hb_ => ?_) (fun hb_ => ?_)
  | refine gqK_dec (fun _ => ?_) (fun _ => ?_)
  | refine ⟨by omega,?_⟩
  | refine elemHave (by omega) (by assumption) ?_
  | refine elemMap (by omega) (by omega) (fun x hx => ?_)
  | refine drawK mo (by kernel_rfl) ?_
  | (rw [eqB_ne (by rintro rfl; first | contradiction | simp at hb_)]; exact ⟨_,rfl,false,.refl _⟩)
  | (rw [eqB_eq (ext_DFlow (by first | assumption | exact Classical.not_not.1 (by assumption) | exact eq_of_beq hb_) (by first | assumption | exact Classical.not_not.1 (by assumption) | exact eq_of_beq hb_) (by first | assumption | exact Classical.not_not.1 (by assumption) | exact eq_of_beq hb_) (by first | assumption | exact Classical.not_not.1 (by assumption) | exact eq_of_beq hb_) (by first | assumption | exact Classical.not_not.1 (by assumption) | exact eq_of_beq hb_))]; exact ⟨_,rfl,false,.refl _⟩)
  | (refine PCall.call (equalVar _ _ (fun x _ y _ => sameVar72 x y)) ?_; generalize he: eqB (α := List DVar) _ _ = b; cases b <;> first | replace he := eqB_t he | replace he := eqB_f he)
  | (refine PCall.call (equalPl _ _ (fun x _ y _ => samePlain74 x y)) ?_; generalize he: eqB (α := List DPlain) _ _ = b; cases b <;> first | replace he := eqB_t he | replace he := eqB_f he)
theorem same13 (x y: DFlows): PCall Tryz.prog 13 [x.enc,y.enc] (.b (eqB x y)) := by
 refine pcall_of_vc tabOK Tryz.func13 (by kernel_rfl) rfl pureL pureI (n := 17) rfl (rs := [.tmp 4]) rfl ?_
 repeat' first
  | exact finB rfl
  | exact finI rfl
  | exact finP rfl
  | exact absurd rfl (by assumption)
  | simp only [go_sem]
  | (intro _)
  | refine brK_dec (fun _ => ?_) (fun _ => ?_)
  | refine brK_split (fun hb_ => ?_) (fun hb_ => ?_)
  | refine gK_dec (fun _ => ?_) (fun _ => ?_)
  | refine gK_split (fun hb_ => ?_) (fun hb_ => ?_)
  | refine gqK_dec (fun _ => ?_) (fun _ => ?_)
  | refine ⟨by omega,?_⟩
  | refine elemHave (by omega) (by assumption) ?_
  | refine elemMap (by omega) (by omega) (fun x hx => ?_)
  | refine drawK mo (by kernel_rfl) ?_
  | (rw [eqB_ne (by rintro rfl; first | contradiction | simp at hb_)]; exact ⟨_,rfl,false,.refl _⟩)
  | (rw [eqB_eq (ext_DFlows (by first | assumption | exact Classical.not_not.1 (by assumption) | exact eq_of_beq hb_) (by first | assumption | exact Classical.not_not.1 (by assumption) | exact eq_of_beq hb_))]; exact ⟨_,rfl,false,.refl _⟩)
  | (refine PCall.call (equalEnum _ _ (fun x _ y _ => sameEnum40 x y)) ?_; generalize he: eqB (α := List DEnum) _ _ = b; cases b <;> first | replace he := eqB_t he | replace he := eqB_f he)
  | (refine PCall.call (equalFl _ _ (fun x _ y _ => sameFlow42 x y)) ?_; generalize he: eqB (α := List DFlow) _ _ = b; cases b <;> first | replace he := eqB_t he | replace he := eqB_f he)
theorem same12 (a b: DFlows): PCall Tryz.prog 12 [a.enc,b.enc] (.b (eqB a b)) := by
 refine pcall_of_vc tabOK Tryz.func12 (by kernel_rfl) rfl pureL pureI (n := 40) rfl (rs := [.tmp 4]) rfl ?_
 repeat' first
  | exact finB rfl
  | exact finI rfl
  | exact finP rfl
  | exact absurd rfl (by assumption)
  | simp only [go_sem]
  | (intro _)
  | refine brK_dec (fun _ => ?_) (fun _ => ?_)
  | refine brK_split (fun hb_ => ?_) (fun hb_ => ?_)
  | refine gK_dec (fun _ => ?_) (fun _ => ?_)
  | refine gK_split (fun hb_ => ?_) (fun hb_ => ?_)
  | refine gqK_dec (fun _ => ?_) (fun _ => ?_)
  | refine ⟨by omega,?_⟩
  | refine elemHave (by omega) (by assumption) ?_
  | ((fail_if_success (clear hq)); refine elemMap (by omega) (by omega) (fun q hq => ?_))
  | refine elemMap (by omega) (by omega) (fun x hx => ?_)
  | refine drawK mo (by kernel_rfl) ?_
  | (rw [eqB_ne (by rintro rfl; first | contradiction | simp at hb_)]; exact ⟨_,rfl,false,.refl _⟩)
  | (rw [eqB_ne (fun h => len_ne (by omega) (congrArg DFlows.Flows h))]; exact ⟨_,rfl,false,.refl _⟩)
  | (rw [eqB_ne (fun h => at_ne' (l := a.Flows) (m := b.Flows) (i := i) (by assumption) (by assumption) (by assumption) (congrArg DFlows.Flows h))]; exact ⟨_,rfl,false,.refl _⟩)
  | (rw [eqB_eq (ext_DFlows (by first | assumption | exact Classical.not_not.1 (by assumption) | exact eq_of_beq hb_) (take_eq_full (i := i) (by omega) hpi (by omega)))]; exact ⟨_,rfl,false,.refl _⟩)
  | (refine PCall.call (enums78 _ _) ?_; generalize he: eqB (α := List DEnum) _ _ = b; cases b <;> first | replace he := eqB_t he | replace he := eqB_f he)
  | (refine pcK_of (sameFlow34 _ _) ?_; generalize he: eqB (α := DFlow) _ _ = b; cases b <;> first | replace he := eqB_t he | replace he := eqB_f he)
  | exact loopFrH _ (by omega) ⟨i + 1,by omega,rfl,take_eq_step' hpi (by assumption) (by assumption) (by assumption),rfl⟩ (.next rfl (by omega) .nil) rfl
  | (refine loop_frH [4,5,21,22,23,24,25,26,27,28,29,30,31,32,33,34,35,36,37,38,39] (fun mm_ CC_ => ∃ (i: Nat),i ≤ a.Flows.length ∧ mm_ = a.Flows.length - i ∧ (a.Flows.take i = b.Flows.take i) ∧ CC_ = [(5,.raw (.int .i64 ((i: Nat): Int)))]) (a.Flows.length) _ ⟨0,by omega,by omega,rfl,rfl⟩ (.cons rfl .nil) ?_; rintro mm_ CC_ ji ⟨i,hi,rfl,hpi,rfl⟩)
theorem weak_tkN {sz: Nat} {es ds: List AV} {k: Nat} (h: es = ds): Weak (.lst sz es (some k)) (.lst sz ds none) := h ▸ .tok _ _ _
theorem live21: PCall Tryz.prog 9 [] (.b true) := by
 have hf := flows10 lvG lvG_ok
 rw [norm_ok lv_start] at hf
 refine pcall_of_vc tabOK Tryz.func9 (by kernel_rfl) rfl pureL pureI (n := 84) rfl (rs := [.tmp 0]) rfl ?_
 simp only [go_sem]
 refine PCall.callW hf ⟨?_,trivial⟩ ?_
 ·
  rw [DProg.enc_eq]
  refine Weak.aggs ⟨.nil _,?_,trivial⟩
  refine Weak.lsts (by simp) (by intro e he; obtain ⟨x,_,rfl⟩ := List.mem_map.1 he; rw [DNode.enc_cells]; rfl) ?_
  show WeakL _ (flat [lvN.enc])
  rw [DNode.enc_eq]
  refine ⟨.refl _,weak_tkN (by simp [DDecl.enc_eq]),weak_tkN (by simp [DDecl.enc_eq]),.nil _,?_,trivial⟩
  refine Weak.lsts (by simp) (by intro e he; obtain ⟨x,_,rfl⟩ := List.mem_map.1 he; rw [DEq.enc_cells]; rfl) ?_
  show WeakL _ (flat [lvQ.enc])
  rw [DEq.enc_eq]
  refine ⟨weak_tkN (by simp),.refl _,.refl _,.refl _,.refl _,.nil _,?_,trivial⟩
  repeat' first | exact trivial | exact .nil _ | exact .refl _ | exact .tok _ _ _ | refine ⟨?_,?_⟩ | refine weak_ex ?_ ?_ | refine weak_subs rfl ?_ | simp only [flat_nil,flat_agg,flat_ex,flat_ex0,enc_cells,List.cons_append,List.nil_append,Ex.kind,Ex.n,Ex.name,Ex.op,Ex.arms,Ex.subs]
 obtain ⟨q0,q1,q2,q3,he,e0,e2,e3⟩ := lv_eqs
 have hn1: (⟨#[121,46,49]⟩: ByteArray) = nmN ⟨#[121]⟩ 1 := by decide +kernel
 have hn3: (⟨#[121,46,51]⟩: ByteArray) = nmN ⟨#[121]⟩ 3 := by decide +kernel
 have hns: nodesNm lvG 0 lvG.Nodes = [flowNm lvG 0 lvN] := rfl
 rw [hns]
 generalize flowNm lvG 0 lvN = f at he
 repeat' first
  | simp only [go_sem,he,e0,e2,e3]
  | (intro _)
  | refine gK_dec (fun _ => ?_) (fun _ => ?_)
  | refine brK_dec (fun _ => ?_) (fun _ => ?_)
  | (exfalso; omega)
  | refine elemK _ (by omega) rfl ?_
  | (refine PCall.callW (namesStr [nmN ⟨#[121]⟩ 1] [nmN ⟨#[121]⟩ 1]) ⟨.refl _,weak_tkN (by rw [← hn1]; rfl),trivial⟩ ?_; rw [eqB_eq rfl])
  | (refine PCall.callW (namesStr [nmN ⟨#[121]⟩ 3] [nmN ⟨#[121]⟩ 3]) ⟨.refl _,weak_tkN (by rw [← hn3]; rfl),trivial⟩ ?_; rw [eqB_eq rfl])
  | (refine PCall.callW (sameAtoms [lvA 1,noAtom,lvA 3] [lvA 1,noAtom,lvA 3]) ⟨by simp only [List.map_cons,List.map_nil]; exact .refl _,weak_tkN (by simp only [List.map_cons,List.map_nil,DAtom.enc_eq,← hn1,← hn3]),trivial⟩ ?_; rw [eqB_eq rfl])
  | exact finBq rfl rfl
theorem pure_zeroFs: Weak (.agg [.raw (.slice none 0 0),.raw (.slice none 0 0)]) (⟨[],[]⟩: DFlows).enc := by
 rw [DFlows.enc_eq]
 exact Weak.aggs ⟨.nil _,.nil _,trivial⟩
theorem law_flows21 (p: DProg): PCall Tryz.prog 3 [p.enc] (.b true) := by
 refine pcall_of_vc tabOK Tryz.func3 (by kernel_rfl) rfl (by first | exact pureL | exact pureI) (.raw _) (n := 46) rfl (rs := [.tmp 2]) rfl ?_
 simp only [go_sem]
 refine PCallE.call (small_p p) ?_
 rintro _ ⟨b,rfl,hb⟩
 cases b with
 | false =>
  simp only [go_sem]
  refine PCall.call live21 ?_
  simp only [go_sem]
  exact finBq rfl rfl
 | true =>
 have h1 := flows10 p (hb rfl)
 have h2 := flowsX11 p (hb rfl)
 generalize normF p = R at h1 h2
 obtain ⟨f,ok⟩ := R
 simp only [go_sem]
 refine PCall.call h1 ?_
 simp only [go_sem]
 refine PCall.call h2 ?_
 simp only [go_sem]
 refine drawK mo (by kernel_rfl) ?_
 have hs1 := same12 f f
 have hs2 := same13 f f
 have hs3 := same13 f ⟨[],[]⟩
 have hs4 := same12 f ⟨[],[]⟩
 rw [eqB_eq rfl] at hs1 hs2
 generalize eqB f (⟨[],[]⟩: DFlows) = e at hs3 hs4
 cases ok <;> cases e <;> (repeat' first
  | simp only [go_sem]
  | simp only [beq_self_eq_true]
  | refine pcK_of hs1 ?_
  | refine pcK_of hs2 ?_
  | refine pcK_ofW hs3 ⟨.refl _,pure_zeroFs,trivial⟩ ?_
  | refine pcK_ofW hs4 ⟨.refl _,pure_zeroFs,trivial⟩ ?_
  | refine pcK_of live21 ?_
  | refine gqK_dec (fun _ => ?_) (fun _ => ?_)
  | exact finBq rfl rfl
  | (exfalso; simp at *; done))
end Go.Proofs.YtpamokpmlplopaaGreatDoor
