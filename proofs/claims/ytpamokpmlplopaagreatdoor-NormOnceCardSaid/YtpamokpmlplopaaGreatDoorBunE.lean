/-
  NmW1, NmW1b, NmW2, NmW3, NmW4, NmW5, NmZ, NmW6, NmW7, NmW8, NmW9, NmP, NmV, Sched1, Sched2, Sched3, Sched4, Sched5, Sched8, Law12, Same2, NmEq, NmL, NmSz, NmO, NmO2, ScOnceA, Law17, CkRow, NmO3, NmVar, NmOL, NmOL2: put together.
-/
import Derived.Test.YtpamokpmlplopaaGreatDoorBunA
import Derived.Test.YtpamokpmlplopaaGreatDoorBunB
import Derived.Test.YtpamokpmlplopaaGreatDoorBunC
import Derived.Test.YtpamokpmlplopaaGreatDoorBunD
namespace Go.Proofs.YtpamokpmlplopaaGreatDoor
open Go.Abs
set_option maxRecDepth 20000
set_option linter.unusedSimpArgs false
set_option linter.unusedVariables false
set_option maxHeartbeats 1000000
attribute [local irreducible] vc vcOps vcStep vcGuard prK hrK gK gsK brK callK ElemK SeqK BlockK ScopeK OpsK CallK LoopK LoopGo finPost ACall PCall PCallE BCall vqOps vqStep vqGuard qrK heK pcK gqK gqsK QOpsK qcallK DrawK
theorem MonoH_same (a : Blk) (x y : List Blk) : MonoH (a :: x) (a :: y) = MonoH x y := by cases a <;> simp [MonoH]
attribute [go_sem] MonoH_same
/-- The taken-apart node's struct. -/
abbrev apB (p : DProg) (k : Int) (nx c4 c5 c6 c7 c8 : AV) : Blk := .cells 114 [.lst 2 (p.Enums.map DEnum.enc) none, .lst 5 (p.Nodes.map DNode.enc) none, .i k, nx, c4, c5, c6, c7, c8]
section
variable {a0 a1 a2 : Blk} {r : List Blk} {p : DProg} {k : Int} {nx c4 c5 c6 c7 c8 : AV} {K : AV → List Blk → Prop}

theorem value132 (arm : ByteArray) (hK : K (.i (vaN p arm)) (a0 :: a1 :: a2 :: apB p k nx c4 c5 c6 c7 c8 :: r)) : ACall Tryz.prog 132 [.ptr 3 0, .s arm] (a0 :: a1 :: a2 :: apB p k nx c4 c5 c6 c7 c8 :: r) K := by
  refine acall_of_vc tabOK Tryz.func132 (by kernel_rfl) rfl (n := 20) rfl (rs := [.tmp 4]) rfl ?_
  simp only [go_sem]
  refine PCall.call (arm146 p.Enums arm) ?_
  unfold vaN at hK
  generalize armF p.Enums arm = q at hK
  obtain ⟨t, v, ok⟩ := q
  simp only [go_sem]
  exact finH0 (h := a0 :: a1 :: a2 :: apB p k nx c4 c5 c6 c7 c8 :: r) _ rfl (.raw _) hK

theorem row60 (s : ByteArray) (hl : ∀ n ∈ p.Nodes, (allV n).length ≤ 4294967296) (hK : K (.lst 2 ((rowOn p k s).map DCond.enc) none) (a0 :: a1 :: a2 :: apB p k nx c4 c5 c6 c7 c8 :: r)) : ACall Tryz.prog 60 [.ptr 3 0, .s s] (a0 :: a1 :: a2 :: apB p k nx c4 c5 c6 c7 c8 :: r) K := by
  refine acall_of_vc tabOK Tryz.func60 (by kernel_rfl) rfl (n := 21) rfl (rs := [.tmp 4]) rfl ?_
  simp only [go_sem]
  refine drawK mo (by kernel_rfl) ?_
  simp only [go_sem]
  refine pcK_of (row45 p k s hl) ?_
  unfold rowOn at hK
  generalize rowF p k s = q at hK
  obtain ⟨l, ok⟩ := q
  simp only [go_sem]
  exact finH1 rfl (DCond.pures _) hK

theorem ty97 (e : Ex) (hty : ∀ n ∈ p.Nodes, tyOK p n) (hp : ∀ y ∈ parts e, partE y = true) (hok : okE e) (hK : K (tyN p k e).enc (a0 :: a1 :: a2 :: apB p k nx c4 c5 c6 c7 c8 :: r)) : ACall Tryz.prog 97 [.ptr 3 0, e.enc] (a0 :: a1 :: a2 :: apB p k nx c4 c5 c6 c7 c8 :: r) K := by
  refine acall_of_vc tabOK Tryz.func97 (by kernel_rfl) rfl (n := 21) rfl (rs := [.cell 4 42]) rfl ?_
  simp only [go_sem]
  refine drawC [r.length + 5] mo (by kernel_rfl) ?_
  simp only [go_sem]
  refine pcK_of (OfPk p k e hty hp hok) ?_
  unfold tyN at hK
  generalize ofN p k e = q at hK
  obtain ⟨t, ok⟩ := q
  simp only [go_sem]
  refine finH0 (h := a0 :: a1 :: a2 :: apB p k nx c4 c5 c6 c7 c8 :: r) _ ?_ (DTy.pure t) hK
  simp only [go_sem]
end

def kindN (k : Int) : Int := if k = 5 then 2 else if k = 6 then 3 else if k = 7 then 4 else if k = 14 then 8 else if k = 15 then 9 else if k = 16 then 10 else 0
theorem kind91 (e : Ex) : PCall Tryz.prog 91 [e.enc] (.i (kindN e.kind)) := by
  refine pcall_of_vc tabOK Tryz.func91 (by kernel_rfl) rfl pureL pureI (n := 17) rfl (rs := [.tmp 2]) rfl ?_
  unfold kindN
  repeat' first
    | simp only [go_sem]
    | refine brK_dec (fun _ => ?_) (fun _ => ?_)
    | (simp only [*, if_true, if_false]; exact ⟨_, rfl, false, .refl _⟩)
theorem finKw {T : TypeId → TI} {s : List AV} {h : List Blk} {rs : List ResultVar} {K : AV → List Blk → Prop} {x r : AV} (hl : resAV T s h rs = some [x]) (hw : Weak x r) (hK : K r h) : FinK T rs K s h := ⟨_, hl, r, hw, hK⟩

theorem delay95 {h : List Blk} {K : AV → List Blk → Prop} {k : Nat} (init : List Int) (args : List DAtom) (hK : ∀ r, K ({ plain0 5 0 args with Init := init } : DPlain).enc (h ++ r)) : ACall Tryz.prog 95 [.ptr k 0, .lst 1 (init.map AV.i) none, .lst 2 (args.map DAtom.enc) none] h K := by
  refine acallK_of_vc tabOK Tryz.func95 (by kernel_rfl) rfl (n := 10) rfl (rs := [.cell 6 53]) rfl ?_
  simp only [go_sem]
  refine finKw (r := ({ plain0 5 0 args with Init := init } : DPlain).enc) (by simp only [go_sem]; rfl) ?_ (hK _)
  rw [DPlain.enc_eq]
  exact Weak.aggs ⟨.refl _, .nil _, .refl _, .refl _, .refl _, .refl _, .refl _, .refl _, .refl _, .nil _, trivial⟩

theorem names59 {h : List Blk} {K : AV → List Blk → Prop} (first : ByteArray) (hK : K (.fn (.func 88) [] [.ptr (h.length + 1) 0, .ptr h.length 0]) (h ++ [.cells 9 [.s first], .cells 3 [.i 0]])) : ACall Tryz.prog 59 [.s first] h K := by
  refine acallK_of_vc tabOK Tryz.func59 (by kernel_rfl) rfl (n := 5) rfl (rs := [.tmp 2]) rfl ?_
  simp only [go_sem]
  refine finK (r := .fn (.func 88) [] [.ptr (h.length + 1) 0, .ptr h.length 0]) ?_ ?_
  · simp [resAV]
    rfl
  · simpa using hK
end Go.Proofs.YtpamokpmlplopaaGreatDoor

namespace Go.Proofs.YtpamokpmlplopaaGreatDoor
open Go.Abs
set_option maxRecDepth 20000
set_option linter.unusedSimpArgs false
set_option linter.unusedVariables false
set_option maxHeartbeats 1000000
attribute [local irreducible] vc vcOps vcStep vcGuard prK hrK gK gsK brK callK ElemK SeqK BlockK ScopeK OpsK CallK LoopK LoopGo finPost ACall PCall PCallE BCall vqOps vqStep vqGuard qrK heK pcK gqK gqsK QOpsK qcallK DrawK
/-- The heap at an equation: the node's struct, what it has laid, the fresh names' first and number. -/
abbrev HN (a0 a1 a2 y z : Blk) (B : List Blk) (p : DProg) (k : Int) (c4 c5 c6 : AV) (st : NmSt) (fst : ByteArray) (r : List Blk) : List Blk :=
  a0 :: a1 :: a2 :: apB p k (.fn (.func 88) [] [.ptr (B.length + 9) 0, .ptr (B.length + 8) 0]) c4 c5 c6 (.lst 5 (st.vars.map DVar.enc) (some 6)) (.lst 10 (st.eqs.map DPlain.enc) (some 7)) :: y :: z :: .tok 45 5 st.vars.length :: .tok 53 10 st.eqs.length :: (B ++ .cells 9 [.s fst] :: .cells 3 [.i (st.k : Int)] :: r)
theorem ACall.weakA {P : Program} {f : FuncId} {azs args : List AV} {h : List Blk} {K : AV → List Blk → Prop} (hw : WeakL azs args) (hc : ACall P f args h K) : ACall P f azs h K := by
  unfold ACall at hc ⊢
  exact fun S φ w vs hr ha => hc S φ w vs hr (ha.weak hw)
section
variable {a0 a1 a2 y z tv : Blk} {B r : List Blk} {p : DProg} {k : Int} {nx c4 c5 c6 c7 : AV} {fst : ByteArray} {K : AV → List Blk → Prop}

theorem emit61 (q : DPlain) (names : List ByteArray) (on : List DCond) (es : List DPlain) (hl : es.length ≤ 1000000)
    (hK : ∀ r', K (.tup []) (a0 :: a1 :: a2 :: apB p k nx c4 c5 c6 c7 (.lst 10 ((es ++ [{ q with Names := names, On := on }]).map DPlain.enc) (some 7)) :: y :: z :: tv :: .tok 53 10 (es ++ [{ q with Names := names, On := on }]).length :: (r ++ r'))) :
    ACall Tryz.prog 61 [.ptr 3 0, q.enc, .lst 1 (names.map AV.s) none, .lst 2 (on.map DCond.enc) none] (a0 :: a1 :: a2 :: apB p k nx c4 c5 c6 c7 (.lst 10 (es.map DPlain.enc) (some 7)) :: y :: z :: tv :: .tok 53 10 es.length :: r) K := by
  refine acallK_of_vc tabOK Tryz.func61 (by kernel_rfl) rfl (n := 24) rfl (rs := []) rfl ?_
  simp only [go_sem]
  refine drawZ mo (by kernel_rfl) rfl ?_
  simp only [List.dropLast_cons_cons, List.dropLast_singleton, List.getLast_cons_cons, List.getLast_singleton]
  simp only [go_sem]
  refine And.intro (by first | omega | (simp <;> omega)) ?_
  refine ⟨[], rfl, .tup [], .refl _, ?_⟩
  simp only [List.map_append, List.map_cons, List.map_nil, DPlain.enc_eq, List.length_append, List.length_cons, List.length_nil, Nat.zero_add] at hK
  exact hK _

theorem names88 {st : NmSt} (hs : fst.size ≤ 1000) (hk : st.k + 1 < 100) (hK : K (.s (nmN fst (st.k + 1))) (HN a0 a1 a2 y z B p k c4 c5 c6 { st with k := st.k + 1 } fst r)) :
    ACall Tryz.prog 88 [.ptr (B.length + 9) 0, .ptr (B.length + 8) 0] (HN a0 a1 a2 y z B p k c4 c5 c6 st fst r) K := by
  obtain ⟨j, hj⟩ : ∃ j, j = st.k + 1 := ⟨_, rfl⟩
  rw [← hj] at hk hK
  have hw : IntKind.i64.wrap ((st.k : Int) + 1) = (j : Int) := by rw [wrap_in _ (by omega) (by omega)]; omega
  have hd := digN_size j (by omega)
  have he : (⟨#[46]⟩ : ByteArray).size = 1 := rfl
  have hz : (fst ++ ⟨#[46]⟩).size = fst.size + 1 := by rw [ByteArray.size_append, he]
  have hi := itoaN j (by omega)
  refine acallK_of_vc tabOK Tryz.func88 (by kernel_rfl) rfl (n := 10) rfl (rs := [.tmp 2]) rfl ?_
  simp only [go_sem, hw]
  refine drawK mo (by kernel_rfl) ?_
  repeat' first
    | simp only [go_sem, hw]
    | (refine pcK_of hi ?_)
    | refine And.intro (by first | omega | (simp <;> omega)) ?_
  exact finK (r := .s (nmN fst j)) rfl (by simpa using hK)

theorem fresh133 {st : NmSt} (q : DPlain) (t : DTy) (on : List DCond) (hs : fst.size ≤ 1000) (hk : st.k + 1 < 100) (hv : st.vars.length ≤ 1000000) (hl : st.eqs.length ≤ 1000000)
    (hK : ∀ r', K (freshN (nmN fst) q t on st).1.enc (HN a0 a1 a2 y z B p k c4 c5 c6 (freshN (nmN fst) q t on st).2 fst (r ++ r'))) :
    ACall Tryz.prog 133 [.ptr 3 0, q.enc, t.enc, .lst 2 (on.map DCond.enc) none] (HN a0 a1 a2 y z B p k c4 c5 c6 st fst r) K := by
  refine acallK_of_vc tabOK Tryz.func133 (by kernel_rfl) rfl (n := 38) rfl (rs := [.cell 8 51]) rfl ?_
  simp only [go_sem]
  refine names88 hs hk ?_
  simp only [go_sem]
  refine drawZ mo (by kernel_rfl) rfl ?_
  simp only [List.dropLast_cons_cons, List.dropLast_singleton, List.getLast_cons_cons, List.getLast_singleton]
  simp only [go_sem]
  refine And.intro (by first | omega | (simp <;> omega)) ?_
  refine ACall.weakA (args := [.ptr 3 0, q.enc, .lst 1 ([nmN fst (st.k + 1)].map AV.s) none, .lst 2 (on.map DCond.enc) none]) ⟨.refl _, .refl _, .tok _ _ _, .refl _, trivial⟩ ?_
  refine emit61 q [nmN fst (st.k + 1)] on st.eqs hl (fun r' => ?_)
  simp only [go_sem]
  refine finKw (r := (⟨nmN fst (st.k + 1), 0⟩ : DAtom).enc) (by simp only [go_sem]; rfl) (by rw [DAtom.enc_eq]; exact .refl _) ?_
  simp only [HN, freshN, List.map_append, List.map_cons, List.map_nil, DVar.enc_eq, List.length_append, List.length_cons, List.length_nil, Nat.zero_add] at hK
  simp only [List.map_append, List.map_cons, List.map_nil, List.length_append, List.length_cons, List.length_nil, Nat.zero_add]
  exact hK _
end
end Go.Proofs.YtpamokpmlplopaaGreatDoor

namespace Go.Proofs.YtpamokpmlplopaaGreatDoor
open Go.Abs
set_option maxRecDepth 20000
set_option linter.unusedSimpArgs false
set_option linter.unusedVariables false
set_option maxHeartbeats 1000000
attribute [local irreducible] vc vcOps vcStep vcGuard prK hrK gK gsK brK callK ElemK SeqK BlockK ScopeK OpsK CallK LoopK LoopGo finPost ACall PCall PCallE BCall vqOps vqStep vqGuard qrK heK pcK gqK gqsK QOpsK qcallK DrawK
section
variable (p : DProg) (k : Nat) (n : DNode)
noncomputable abbrev plN (fst : ByteArray) (e : Ex) (on : List DCond) (st : NmSt) : DPlain × NmSt := plainN (nmN fst) (tyN p (k : Int)) (cnN p) (vaN p) (fiN p) e on st
noncomputable abbrev atN (fst : ByteArray) (e : Ex) (on : List DCond) (st : NmSt) : DAtom × NmSt := atomN (nmN fst) (tyN p (k : Int)) (cnN p) (vaN p) (fiN p) e on st
noncomputable abbrev eaN (fst : ByteArray) (l : List Ex) (on : List DCond) (st : NmSt) : List DAtom × NmSt := eachN (nmN fst) (tyN p (k : Int)) (cnN p) (vaN p) (fiN p) l on st
def bnd (on : List DCond) (st : NmSt) (m fr : Nat) : Prop := on.length + m ≤ 1000 ∧ st.k + fr ≤ 98 ∧ st.vars.length + fr ≤ 100000 ∧ st.eqs.length + fr ≤ 100000
def PlainK (e : Ex) : Prop := ∀ (a0 a1 a2 y z : Blk) (B r : List Blk) (c4 c5 c6 : AV) (fst : ByteArray) (on : List DCond) (st : NmSt) (K : AV → List Blk → Prop), fst.size ≤ 1000 → fitsF (rowN p.Enums n) p.Enums e on = true → bnd on st (parts e).length (frN e) →
  (∀ r', K (plN p k fst e on st).1.enc (HN a0 a1 a2 y z B p (k : Int) c4 c5 c6 (plN p k fst e on st).2 fst (r ++ r'))) → ACall Tryz.prog 62 [.ptr 3 0, e.enc, .lst 2 (on.map DCond.enc) none] (HN a0 a1 a2 y z B p (k : Int) c4 c5 c6 st fst r) K
def AtomK (e : Ex) : Prop := ∀ (a0 a1 a2 y z : Blk) (B r : List Blk) (c4 c5 c6 : AV) (fst : ByteArray) (on : List DCond) (st : NmSt) (K : AV → List Blk → Prop), fst.size ≤ 1000 → fitsF (rowN p.Enums n) p.Enums e on = true → bnd on st (parts e).length (gN e) →
  (∀ r', K (atN p k fst e on st).1.enc (HN a0 a1 a2 y z B p (k : Int) c4 c5 c6 (atN p k fst e on st).2 fst (r ++ r'))) → ACall Tryz.prog 93 [.ptr 3 0, e.enc, .lst 2 (on.map DCond.enc) none] (HN a0 a1 a2 y z B p (k : Int) c4 c5 c6 st fst r) K
def EachK (l : List Ex) : Prop := ∀ (a0 a1 a2 y z : Blk) (B r : List Blk) (c4 c5 c6 : AV) (fst : ByteArray) (on : List DCond) (st : NmSt) (K : AV → List Blk → Prop), fst.size ≤ 1000 → fitsL (rowN p.Enums n) p.Enums l on = true → bnd on st (partsL l).length (frL l) →
  (∀ r', K (.lst 2 ((eaN p k fst l on st).1.map DAtom.enc) none) (HN a0 a1 a2 y z B p (k : Int) c4 c5 c6 (eaN p k fst l on st).2 fst (r ++ r'))) → ACall Tryz.prog 92 [.lst 6 (l.map Ex.enc) none, .lst 2 (on.map DCond.enc) none, .fn (.func 93) [.ptr 3 0] []] (HN a0 a1 a2 y z B p (k : Int) c4 c5 c6 st fst r) K
end
section
variable {p : DProg} {k : Nat} {n : DNode}
theorem finKe {T : TypeId → TI} {s : List AV} {h : List Blk} {rs : List ResultVar} {K : AV → List Blk → Prop} {x : AV} (r : AV) (hl : resAV T s h rs = some [x]) (e : x = r) (hK : K r h) : FinK T rs K s h := by
  subst e
  exact finK hl hK
theorem atom_leaf {e : Ex} (hl : leafK e.kind = true) : AtomK p k n e := by
  intro a0 a1 a2 y z B r c4 c5 c6 fst on st K hs hf hb hK
  have hk : e.kind = 1 ∨ e.kind = 2 ∨ e.kind = 3 ∨ e.kind = 4 := by unfold leafK at hl; exact of_decide_eq_true hl
  have hat : atN p k fst e on st = (leafA (vaN p) e, st) := by unfold atN atomN; rw [if_pos hl]
  rw [hat] at hK
  unfold leafA at hK
  refine acallK_of_vc tabOK Tryz.func93 (by kernel_rfl) rfl (n := 39) rfl (rs := [.cell 6 51]) rfl ?_
  by_cases h3 : e.kind = 3
  · rw [if_pos h3] at hK
    repeat' first
      | simp only [go_sem]
      | refine brK_dec (fun _ => ?_) (fun _ => ?_)
      | (exfalso; omega)
      | exact finKe (⟨e.name, 0⟩ : DAtom).enc (by simp only [go_sem]; rfl) (by rw [DAtom.enc_eq]) (by simpa using hK _)
  · rw [if_neg h3] at hK
    by_cases h4 : e.kind = 4
    · rw [if_pos h4] at hK
      repeat' first
        | simp only [go_sem]
        | refine brK_dec (fun _ => ?_) (fun _ => ?_)
        | (exfalso; omega)
        | refine value132 _ ?_
        | exact finKe (⟨⟨#[]⟩, vaN p e.name⟩ : DAtom).enc (by simp only [go_sem]; rfl) (by rw [DAtom.enc_eq]) (by simpa using hK _)
    · rw [if_neg h4] at hK
      repeat' first
        | simp only [go_sem]
        | refine brK_dec (fun _ => ?_) (fun _ => ?_)
        | (exfalso; omega)
        | exact finKe (⟨⟨#[]⟩, e.n⟩ : DAtom).enc (by simp only [go_sem]; rfl) (by rw [DAtom.enc_eq]) (by simpa using hK _)
theorem atom_of (hty : ∀ n ∈ p.Nodes, tyOK p n) {e : Ex} (hp : ∀ y ∈ parts e, partE y = true) (hok : okE e) (h : PlainK p k n e) : AtomK p k n e := by
  by_cases hl : leafK e.kind = true
  · exact atom_leaf hl
  intro a0 a1 a2 y z B r c4 c5 c6 fst on st K hs hf hb hK
  have hk : ¬ e.kind = 1 ∧ ¬ e.kind = 2 ∧ ¬ e.kind = 3 ∧ ¬ e.kind = 4 := by
    unfold leafK at hl
    simp only [decide_eq_true_eq, not_or] at hl
    exact hl
  have hat : atN p k fst e on st = freshN (nmN fst) (plN p k fst e on st).1 (tyN p (k : Int) e) on (plN p k fst e on st).2 := by unfold atN atomN; rw [if_neg hl]
  rw [hat] at hK
  have hg : gN e = frN e + 1 := by unfold gN; rw [if_neg hl]
  rw [hg] at hb
  obtain ⟨b1, b2, b3, b4⟩ := hb
  have g : grewN st (plN p k fst e on st).2 (frN e) := plain_grew (nmN fst) (tyN p (k : Int)) (cnN p) (vaN p) (fiN p) e hp on st
  have h1 := fun (r : List Blk) (K : AV → List Blk → Prop) => h a0 a1 a2 y z B r c4 c5 c6 fst on st K hs hf ⟨b1, by omega, by omega, by omega⟩
  generalize plN p k fst e on st = R at h1 hK g
  obtain ⟨q, st1⟩ := R
  obtain ⟨g1, g2, g3⟩ := g
  dsimp only at h1 hK g1 g2 g3
  refine acallK_of_vc tabOK Tryz.func93 (by kernel_rfl) rfl (n := 39) rfl (rs := [.cell 6 51]) rfl ?_
  repeat' first
    | simp only [go_sem]
    | refine brK_dec (fun _ => ?_) (fun _ => ?_)
    | (exfalso; omega)
  refine h1 _ _ fun r1 => ?_
  simp only [go_sem]
  refine drawM [3, B.length + 9, B.length + (r.length + 3) + 8] (.pur 0 (.pur 1 (.pur 2 (.pur 3 (.pur 5 (.eff 4 (.eff 6 (.eff 7 .nil)))))))) mo (by kernel_rfl) ?_
  simp only [go_sem]
  refine ty97 e hty hp hok ?_
  simp only [go_sem]
  refine fresh133 q (tyN p (k : Int) e) on hs (by omega) (by omega) (by omega) fun r2 => ?_
  simp only [go_sem]
  refine finKw (r := (freshN (nmN fst) q (tyN p (k : Int) e) on st1).1.enc) (by simp only [go_sem]; rfl) (by rw [DAtom.enc_eq]; exact .refl _) ?_
  exact hK _
end
end Go.Proofs.YtpamokpmlplopaaGreatDoor

namespace Go.Proofs.YtpamokpmlplopaaGreatDoor
open Go.Abs
set_option maxRecDepth 20000
set_option linter.unusedSimpArgs false
set_option linter.unusedVariables false
set_option maxHeartbeats 1000000
attribute [local irreducible] vc vcOps vcStep vcGuard prK hrK gK gsK brK callK ElemK SeqK BlockK ScopeK OpsK CallK LoopK LoopGo finPost ACall PCall PCallE BCall vqOps vqStep vqGuard qrK heK pcK gqK gqsK QOpsK qcallK DrawK
theorem partsL_in {l : List Ex} {x : Ex} (h : x ∈ l) : (parts x).length ≤ (partsL l).length := by
  induction l with
  | nil => cases h
  | cons a l ih =>
    rw [partsL, List.length_append]
    rcases List.mem_cons.1 h with rfl | h
    · omega
    · have := ih h
      omega
theorem frL_at {l : List Ex} {i : Nat} {x : Ex} (h : l[i]? = some x) : frL (l.take i) + gN x ≤ frL l := by
  have e : l = l.take i ++ x :: l.drop (i + 1) := by
    have hi := (List.getElem?_eq_some_iff.1 h).1
    have hx := (List.getElem?_eq_some_iff.1 h).2
    rw [← hx, ← List.drop_eq_getElem_cons hi, List.take_append_drop]
  have : frL l = frL (l.take i) + (gN x + frL (l.drop (i + 1))) := by
    conv => lhs; rw [e]
    rw [frL_append, frL_cons]
  omega
section
variable {p : DProg} {k : Nat} {n : DNode}
theorem eaN_next {fst : ByteArray} {l : List Ex} {on : List DCond} {st : NmSt} {i : Nat} {x : Ex} (h : l[i]? = some x) :
    eaN p k fst (l.take (i + 1)) on st = ((eaN p k fst (l.take i) on st).1 ++ [(atN p k fst x on (eaN p k fst (l.take i) on st).2).1], (atN p k fst x on (eaN p k fst (l.take i) on st).2).2) := by
  rw [List.take_add_one, h]
  unfold eaN atN
  rw [eachN_append]
  show (_ ++ (eachN _ _ _ _ _ [x] _ _).1, (eachN _ _ _ _ _ [x] _ _).2) = _
  rw [eachN_cons, eachN_nil]

theorem each_of {l : List Ex} (hl : l.length ≤ 1000) (hx : ∀ x ∈ l, AtomK p k n x) (hp : ∀ x ∈ l, ∀ y ∈ parts x, partE y = true) : EachK p k n l := by
  intro a0 a1 a2 y z B r c4 c5 c6 fst on st K hs hf hb hK
  obtain ⟨b1, b2, b3, b4⟩ := hb
  have hlen : ∀ i, (eaN p k fst (l.take i) on st).1.length = (l.take i).length := fun i => eachN_len _ _ _ _ _ _ _ _
  refine acallK_of_vc tabOK Tryz.func92 (by kernel_rfl) rfl (n := 25) rfl (rs := [.tmp 6]) rfl ?_
  simp only [go_sem]
  intro _
  refine loop_ghost (ghost_tok 7 51 2 rfl) ?_
  simp only [go_sem]
  refine loop_fr [7, 9, 12, 13, 14, 15, 16, 17, 18, 19, 20, 21, 22, 23] (fun m C hh => ∃ (i : Nat) (r' : List Blk), i ≤ l.length ∧ m = l.length - i ∧
    C = [(12, .raw (.int .i64 (i : Nat))), (7, .lst 2 ((eaN p k fst (l.take i) on st).1.map DAtom.enc) (some (B.length + (r.length + 1 + 1) + 1 + 1 + 1 + 1 + 1 + 1 + 1 + 1)))] ∧
    hh = HN a0 a1 a2 y z B p (k : Int) c4 c5 c6 (eaN p k fst (l.take i) on st).2 fst (r ++ .tok 51 2 (eaN p k fst (l.take i) on st).1.length :: r')) l.length _ ⟨0, [], by omega, by omega, rfl, by rw [List.take_zero]; unfold eaN; rw [eachN_nil]; rfl⟩ (.cons rfl (.cons (by rw [List.take_zero]; unfold eaN; rw [eachN_nil]; rfl) .nil)) ?_
  rintro m C j hh ⟨i, r', hi, rfl, rfl, rfl⟩
  simp only [go_sem]
  refine brK_dec (fun hlt => ?_) (fun hge => ?_)
  · obtain ⟨x, hq⟩ : ∃ x, l[i]? = some x := ⟨_, List.getElem?_eq_getElem (by omega)⟩
    have hxm := List.mem_of_getElem? hq
    have hfx : fitsF (rowN p.Enums n) p.Enums x on = true := by
      rw [fitsL_all, List.all_eq_true] at hf
      exact hf x hxm
    have g : grewN st (eaN p k fst (l.take i) on st).2 (frL (l.take i)) := each_grew (nmN fst) (tyN p (k : Int)) (cnN p) (vaN p) (fiN p) (fun y hy => hp y (List.mem_of_mem_take hy)) on st
    have hfr := frL_at hq
    have hpl := partsL_in hxm
    have hll := hlen i
    have hnx := eaN_next (p := p) (k := k) (fst := fst) (on := on) (st := st) hq
    have h1 := fun st1 (h : grewN st st1 (frL (l.take i))) r K => hx x hxm a0 a1 a2 y z B r c4 c5 c6 fst on st1 K hs hfx ⟨by omega, by have := h.1; omega, by have := h.2.1; omega, by have := h.2.2; omega⟩
    generalize eaN p k fst (l.take i) on st = R at g hll hnx ⊢
    obtain ⟨as1, st1⟩ := R
    dsimp only at g hll hnx
    have h1 := h1 st1 g
    simp only [go_sem]
    refine elemHave (x := x) (by omega) (by simpa using hq) ?_
    simp only [go_sem]
    refine h1 _ _ fun r2 => ?_
    generalize atN p k fst x on st1 = A at hnx ⊢
    obtain ⟨a, st2⟩ := A
    dsimp only at hnx ⊢
    simp only [go_sem]
    rw [List.length_take] at hll
    refine And.intro (by first | omega | (simp <;> omega)) ?_
    refine loopFr _ (by omega) ⟨i + 1, _, by omega, rfl, rfl, by rw [hnx]; simp; rfl⟩ (.next rfl (by omega) (.cons (by rw [hnx]; simp) .nil)) rfl
  · rw [List.take_of_length_le (by omega)]
    simp only [go_sem]
    refine ⟨_, rfl, _, .tok _ _ _, ?_⟩
    exact hK _
end
end Go.Proofs.YtpamokpmlplopaaGreatDoor

namespace Go.Proofs.YtpamokpmlplopaaGreatDoor
open Go.Abs
set_option maxRecDepth 20000
set_option linter.unusedSimpArgs false
set_option linter.unusedVariables false
set_option maxHeartbeats 1000000
attribute [local irreducible] vc vcOps vcStep vcGuard prK hrK gK gsK brK callK ElemK SeqK BlockK ScopeK OpsK CallK LoopK LoopGo finPost ACall PCall PCallE BCall vqOps vqStep vqGuard qrK heK pcK gqK gqsK QOpsK qcallK DrawK
section
variable (p : DProg) (k : Nat) (n : DNode)
def PlF (f : Nat) (e : Ex) : Prop := ∀ (a0 a1 a2 y z : Blk) (B r : List Blk) (c4 c5 c6 : AV) (fst : ByteArray) (on : List DCond) (st : NmSt) (K : AV → List Blk → Prop), fst.size ≤ 1000 → fitsF (rowN p.Enums n) p.Enums e on = true → bnd on st (parts e).length (frN e) →
  (∀ r', K (plN p k fst e on st).1.enc (HN a0 a1 a2 y z B p (k : Int) c4 c5 c6 (plN p k fst e on st).2 fst (r ++ r'))) → ACall Tryz.prog f [.ptr 3 0, e.enc, .lst 2 (on.map DCond.enc) none] (HN a0 a1 a2 y z B p (k : Int) c4 c5 c6 st fst r) K
end
section
variable {p : DProg} {k : Nat} {n : DNode}
theorem plN_9 {fst : ByteArray} {e : Ex} {on : List DCond} {st : NmSt} (h : e.kind = 9) : plN p k fst e on st =
    (plain0 4 0 ((freshN (nmN fst) { plain0 5 0 [noAtom] with Init := [1] } tyB on st).1 :: (eaN p k fst e.subs on (freshN (nmN fst) { plain0 5 0 [noAtom] with Init := [1] } tyB on st).2).1),
      (eaN p k fst e.subs on (freshN (nmN fst) { plain0 5 0 [noAtom] with Init := [1] } tyB on st).2).2) := by
  unfold plN
  rw [plainN_eq]
  simp [frstN, argsN, onN, headN, h]

theorem arrow98 {e : Ex} (h9 : e.kind = 9) (hE : EachK p k n e.subs) : PlF p k n 98 e := by
  intro a0 a1 a2 y z B r c4 c5 c6 fst on st K hs hf hb hK
  obtain ⟨b1, b2, b3, b4⟩ := hb
  rw [frN_eq, if_pos h9, if_neg (by omega)] at b2 b3 b4
  rw [parts_lenC] at b1
  have hfL : fitsL (rowN p.Enums n) p.Enums e.subs on = true := by rw [fitsF_eq] at hf; simpa [h9] using hf
  rw [plN_9 h9] at hK
  refine acallK_of_vc tabOK Tryz.func98 (by kernel_rfl) rfl (n := 29) rfl (rs := [.cell 6 53]) rfl ?_
  simp only [go_sem]
  refine ACall.weakA (args := [.ptr 3 0, .lst 1 ([(1 : Int)].map AV.i) none, .lst 2 ([noAtom].map DAtom.enc) none]) ⟨.refl _, .tok _ _ _, by rw [List.map_cons, List.map_nil, DAtom.enc_eq]; exact .tok _ _ _, trivial⟩ ?_
  refine delay95 [1] [noAtom] fun r1 => ?_
  generalize hq : ({ plain0 5 0 [noAtom] with Init := [1] } : DPlain) = q at hK ⊢
  simp only [go_sem]
  refine ACall.weakA (args := [.ptr 3 0, q.enc, tyB.enc, .lst 2 (on.map DCond.enc) none]) ⟨.refl _, .refl _, by rw [DTy.enc_eq]; exact .refl _, .refl _, trivial⟩ ?_
  refine fresh133 q tyB on hs (by omega) (by omega) (by omega) fun r2 => ?_
  have g := grewN.fresh (nmN fst) q tyB on st
  generalize freshN (nmN fst) q tyB on st = F at hK g ⊢
  obtain ⟨f, st1⟩ := F
  obtain ⟨g1, g2, g3⟩ := g
  dsimp only at hK g1 g2 g3 ⊢
  simp only [go_sem]
  refine hE a0 a1 a2 y z B _ c4 c5 c6 fst on st1 _ hs hfL ⟨by omega, by omega, by omega, by omega⟩ fun r3 => ?_
  have hlen : (eaN p k fst e.subs on st1).1.length = e.subs.length := eachN_len _ _ _ _ _ _ _ _
  have hsl : e.subs.length ≤ (partsL e.subs).length := by
    generalize e.subs = l
    induction l with
    | nil => simp
    | cons x l ih => rw [partsL, List.length_append, parts_lenC, List.length_cons]; omega
  generalize eaN p k fst e.subs on st1 = G at hK hlen ⊢
  obtain ⟨ats, st2⟩ := G
  dsimp only at hK hlen ⊢
  simp only [go_sem]
  refine And.intro (by first | omega | (simp <;> omega)) ?_
  refine finKw (r := (plain0 4 0 (f :: ats)).enc) (by simp only [go_sem]; rfl) ?_ (hK _)
  rw [DPlain.enc_eq]
  exact Weak.aggs ⟨.refl _, .nil _, .refl _, .tok _ _ _, .nil _, .refl _, .refl _, .refl _, .refl _, .nil _, trivial⟩
end
end Go.Proofs.YtpamokpmlplopaaGreatDoor

namespace Go.Proofs.YtpamokpmlplopaaGreatDoor
open Go.Abs
set_option maxRecDepth 20000
set_option linter.unusedSimpArgs false
set_option linter.unusedVariables false
set_option maxHeartbeats 1000000
attribute [local irreducible] vc vcOps vcStep vcGuard prK hrK gK gsK brK callK ElemK SeqK BlockK ScopeK OpsK CallK LoopK LoopGo finPost ACall PCall PCallE BCall vqOps vqStep vqGuard qrK heK pcK gqK gqsK QOpsK qcallK DrawK
section
variable (p : DProg) (k : Nat) (n : DNode)
noncomputable abbrev meN (fst : ByteArray) (m : ByteArray) (cs : List ByteArray) (l : List Ex) (on : List DCond) (st : NmSt) : List DAtom × NmSt := mergeN (nmN fst) (tyN p (k : Int)) (cnN p) (vaN p) (fiN p) m cs l on st
end
section
variable {p : DProg} {k : Nat} {n : DNode}
theorem plN_12 {fst : ByteArray} {e : Ex} {on : List DCond} {st : NmSt} (h : e.kind = 12) : plN p k fst e on st =
    (plain0 6 0 (⟨e.name, 0⟩ :: (meN p k fst e.name e.arms e.subs on st).1), (meN p k fst e.name e.arms e.subs on st).2) := by
  unfold plN
  rw [plainN_eq]
  simp [frstN, argsN, headN, h]
theorem meN_nil {fst m : ByteArray} {on : List DCond} {st : NmSt} : meN p k fst m [] [] on st = ([], st) := by unfold meN; rw [mergeN]
theorem meN_snoc {fst m c : ByteArray} {x : Ex} {on : List DCond} : ∀ {cs : List ByteArray} {l : List Ex} {st : NmSt}, cs.length = l.length →
    meN p k fst m (cs ++ [c]) (l ++ [x]) on st = ((meN p k fst m cs l on st).1 ++ [(atN p k fst x (on ++ [⟨m, vaN p c⟩]) (meN p k fst m cs l on st).2).1], (atN p k fst x (on ++ [⟨m, vaN p c⟩]) (meN p k fst m cs l on st).2).2)
  | [], [], st, _ => by
    rw [meN_nil]
    show meN p k fst m [c] [x] on st = _
    unfold meN
    rw [mergeN_cons, mergeN]
    rfl
  | d :: cs, y :: l, st, h => by
    have ih := meN_snoc (fst := fst) (m := m) (c := c) (x := x) (on := on) (cs := cs) (l := l) (st := (atN p k fst y (on ++ [⟨m, vaN p d⟩]) st).2) (by simpa using h)
    unfold meN at ih ⊢
    rw [List.cons_append, List.cons_append, mergeN_cons, mergeN_cons, ih]
    rfl
theorem meN_next {fst m c : ByteArray} {cs : List ByteArray} {l : List Ex} {on : List DCond} {st : NmSt} {i : Nat} {x : Ex} (hl : cs.length = l.length) (hc : cs[i]? = some c) (h : l[i]? = some x) :
    meN p k fst m (cs.take (i + 1)) (l.take (i + 1)) on st = ((meN p k fst m (cs.take i) (l.take i) on st).1 ++ [(atN p k fst x (on ++ [⟨m, vaN p c⟩]) (meN p k fst m (cs.take i) (l.take i) on st).2).1], (atN p k fst x (on ++ [⟨m, vaN p c⟩]) (meN p k fst m (cs.take i) (l.take i) on st).2).2) := by
  rw [List.take_add_one, List.take_add_one, h, hc]
  exact meN_snoc (by rw [List.length_take, List.length_take, hl])
theorem meN_len {fst m : ByteArray} {on : List DCond} : ∀ {cs : List ByteArray} {l : List Ex} {st : NmSt}, cs.length = l.length → (meN p k fst m cs l on st).1.length = l.length
  | [], [], st, _ => by rw [meN_nil]; rfl
  | d :: cs, y :: l, st, h => by
    have ih := meN_len (fst := fst) (m := m) (on := on) (cs := cs) (l := l) (st := (atN p k fst y (on ++ [⟨m, vaN p d⟩]) st).2) (by simpa using h)
    unfold meN at ih ⊢
    rw [mergeN_cons]
    simpa using ih

theorem merge99 {e : Ex} (h12 : e.kind = 12) (hal : e.arms.length = e.subs.length) (hp : ∀ x ∈ e.subs, ∀ y ∈ parts x, partE y = true) (hx : ∀ x ∈ e.subs, AtomK p k n x) : PlF p k n 99 e := by
  intro a0 a1 a2 y z B r c4 c5 c6 fst on st K hs hf hb hK
  obtain ⟨b1, b2, b3, b4⟩ := hb
  rw [frN_eq, if_neg (by omega), if_neg (by omega), Nat.zero_add] at b2 b3 b4
  rw [parts_lenC] at b1
  have hfM : fitsM (rowN p.Enums n) p.Enums e.name e.arms e.subs on = true := by rw [fitsF_eq] at hf; simp [h12] at hf; exact hf.2
  rw [plN_12 h12] at hK
  refine acallK_of_vc tabOK Tryz.func99 (by kernel_rfl) rfl (n := 47) rfl (rs := [.cell 6 53]) rfl ?_
  simp only [go_sem]
  intro _
  have hlen : ∀ i, (meN p k fst e.name (e.arms.take i) (e.subs.take i) on st).1.length = (e.subs.take i).length := fun i => meN_len (by rw [List.length_take, List.length_take, hal])
  have hsl : e.subs.length ≤ (partsL e.subs).length := by
    generalize e.subs = l
    induction l with
    | nil => simp
    | cons x l ih => rw [partsL, List.length_append, parts_lenC, List.length_cons]; omega
  refine loop_fr [7, 8, 9, 10, 18, 19, 20, 21, 22, 23, 24, 25, 26, 27, 28, 29, 30, 31, 32, 33, 34, 35, 36, 37, 38, 39, 40, 41, 42, 43, 44] (fun mm C hh => ∃ (i : Nat) (r' : List Blk), i ≤ e.arms.length ∧ mm = e.arms.length - i ∧
    C = [(18, .raw (.int .i64 (i : Nat))), (7, .lst 2 (((⟨e.name, 0⟩ : DAtom) :: (meN p k fst e.name (e.arms.take i) (e.subs.take i) on st).1).map DAtom.enc) (some (B.length + (r.length + 2 + 1 + 1) + 1 + 1 + 1 + 1 + 1 + 1 + 1 + 1)))] ∧
    hh = HN a0 a1 a2 y z B p (k : Int) c4 c5 c6 (meN p k fst e.name (e.arms.take i) (e.subs.take i) on st).2 fst (r ++ .cells 72 [.i e.kind, .i e.n, .s e.name, .i e.op, .lst 1 (e.arms.map AV.s) none, .lst 6 (e.subs.map Ex.enc) none] :: .cells 53 [.i 0, .raw (.slice none 0 0), .i 0, .raw (.slice none 0 0), .raw (.slice none 0 0), .i 0, .b false, .s ⟨#[]⟩, .i 0, .raw (.slice none 0 0)] :: .tok 51 2 ((meN p k fst e.name (e.arms.take i) (e.subs.take i) on st).1.length + 1) :: r')) e.arms.length _
    ⟨0, [], by omega, by omega, rfl, by rw [List.take_zero, List.take_zero, meN_nil]; rfl⟩ (.cons rfl (.cons (by rw [List.take_zero, List.take_zero, meN_nil, List.map_cons, DAtom.enc_eq]; rfl) .nil)) ?_
  rintro mm C j hh ⟨i, r', hi, rfl, rfl, rfl⟩
  simp only [go_sem]
  refine brK_dec (fun hlt => ?_) (fun hge => ?_)
  · obtain ⟨c, hcq⟩ : ∃ c, e.arms[i]? = some c := ⟨_, List.getElem?_eq_getElem (by omega)⟩
    obtain ⟨x, hq⟩ : ∃ x, e.subs[i]? = some x := ⟨_, List.getElem?_eq_getElem (by omega)⟩
    have hxm := List.mem_of_getElem? hq
    have hfx : fitsF (rowN p.Enums n) p.Enums x (on ++ [⟨e.name, vaN p c⟩]) = true := (fitsM_at hfM hcq hq).2
    have g : grewN st (meN p k fst e.name (e.arms.take i) (e.subs.take i) on st).2 (frL (e.subs.take i)) :=
      merge_grew_of (nmN fst) (tyN p (k : Int)) (cnN p) (vaN p) (fiN p) (fun y hy => plain_grew (nmN fst) (tyN p (k : Int)) (cnN p) (vaN p) (fiN p) y (hp y (List.mem_of_mem_take hy))) e.name _ (by rw [List.length_take, List.length_take, hal]) on st
    have hfr := frL_at hq
    have hpl := partsL_in hxm
    have hll := hlen i
    have hnx := meN_next (p := p) (k := k) (fst := fst) (m := e.name) (on := on) (st := st) hal hcq hq
    have h1 := fun st1 (h : grewN st st1 (frL (e.subs.take i))) r K => hx x hxm a0 a1 a2 y z B r c4 c5 c6 fst (on ++ [⟨e.name, vaN p c⟩]) st1 K hs hfx ⟨by rw [List.length_append, List.length_singleton]; omega, by have := h.1; omega, by have := h.2.1; omega, by have := h.2.2; omega⟩
    generalize meN p k fst e.name (e.arms.take i) (e.subs.take i) on st = R at g hll hnx ⊢
    obtain ⟨as1, st1⟩ := R
    dsimp only at g hll hnx
    have h1 := h1 st1 g
    rw [List.length_take] at hll
    generalize atN p k fst x (on ++ [⟨e.name, vaN p c⟩]) st1 = A at hnx h1
    obtain ⟨a, st2⟩ := A
    dsimp only at hnx h1
    simp only [go_sem]
    refine elemHave (x := c) (by omega) (by simpa using hcq) ?_
    simp only [go_sem]
    refine drawM [] (.pur 0 (.pur 1 (.pur 2 (.pur 3 (.two 4 (.pur 5 (.eff 6 (.eff 7 .nil))) 6 (.eff 4 (.pur 5 (.eff 7 .nil)))))))) mo (by kernel_rfl) ?_
    simp only [go_sem]
    refine And.intro ?_ ?_
    all_goals
      refine value132 c ?_
      simp only [go_sem]
      refine drawM [3, B.length + 9] (.pur 0 (.pur 1 (.pur 2 (.pur 3 (.pur 4 (.pur 5 (.pur 6 (.pur 7 (.pur 9 (.two 8 (.eff 10 (.eff 11 (.eff 12 (.eff 13 (.eff 14 (.pur 15 .nil)))))) 10 (.eff 8 (.eff 11 (.eff 12 (.eff 13 (.eff 14 (.pur 15 .nil)))))))))))))))) mo (by kernel_rfl) ?_
      simp only [go_sem]
      refine elemHave (x := x) (by omega) (by simpa using hq) ?_
      repeat' first
        | simp only [go_sem]
        | refine cloneC on (by omega) ?_
        | (refine ACall.weakA (args := [.ptr 3 0, x.enc, .lst 2 ((on ++ [(⟨e.name, vaN p c⟩ : DCond)]).map DCond.enc) none]) ⟨.refl _, .refl _, by rw [List.map_append, List.map_cons, List.map_nil, DCond.enc_eq]; exact .tok _ _ _, trivial⟩ ?_; refine h1 _ _ fun r2 => ?_)
        | refine And.intro (by first | omega | (simp; done) | (simp; omega)) ?_
        | refine And.intro ?_ ?_
        | exact loopFr _ (by omega) ⟨i + 1, _, by omega, rfl, rfl, by rw [hnx]; simp; rfl⟩ (.next rfl (by omega) (.cons (by rw [hnx]; simp) .nil)) rfl
  · rw [List.take_of_length_le (by omega), List.take_of_length_le (by omega)]
    simp only [go_sem]
    refine finKw (r := (plain0 6 0 (⟨e.name, 0⟩ :: (meN p k fst e.name e.arms e.subs on st).1)).enc) (by simp only [go_sem]; rfl) ?_ (hK _)
    rw [DPlain.enc_eq]
    exact Weak.aggs ⟨.refl _, .nil _, .refl _, .tok _ _ _, .nil _, .refl _, .refl _, .refl _, .refl _, .nil _, trivial⟩
end
end Go.Proofs.YtpamokpmlplopaaGreatDoor

namespace Go.Proofs.YtpamokpmlplopaaGreatDoor
open Go.Abs
set_option maxRecDepth 20000
set_option linter.unusedSimpArgs false
set_option linter.unusedVariables false
set_option maxHeartbeats 1000000
attribute [local irreducible] vc vcOps vcStep vcGuard prK hrK gK gsK brK callK ElemK SeqK BlockK ScopeK OpsK CallK LoopK LoopGo finPost ACall PCall PCallE BCall vqOps vqStep vqGuard qrK heK pcK gqK gqsK QOpsK qcallK DrawK
theorem cellsZ_le (t : DTy) : 1 ≤ cellsZ t ∧ cellsZ t ≤ 8 := by
  unfold cellsZ
  split
  · omega
  · split <;> omega
theorem cells137 (t : DTy) : PCall Tryz.prog 137 [t.enc] (.i ((cellsZ t : Nat) : Int)) := by
  refine pcall_of_vc tabOK Tryz.func137 (by kernel_rfl) rfl pureL pureI (n := 7) rfl (rs := [.tmp 2]) rfl ?_
  simp only [go_sem]
  refine finIq rfl ?_
  unfold cellsZ
  split <;> split <;> omega
theorem zero96 (t : DTy) : PCall Tryz.prog 96 [t.enc] (.lst 1 ((List.replicate (cellsZ t) (0 : Int)).map AV.i) none) := by
  have h := cellsZ_le t
  have hc := cells137 t
  generalize cellsZ t = n at h hc
  refine pcall_of_vc tabOK Tryz.func96 (by kernel_rfl) rfl pureL pureI (n := 6) rfl (rs := [.tmp 2]) rfl ?_
  simp only [go_sem]
  refine PCall.call hc ?_
  simp only [go_sem]
  refine And.intro (by omega) ?_
  refine ⟨_, rfl, true, ?_⟩
  show Weak (frz [.cells 42 [.i t.Kind, .i t.Enum, .i t.Len], .cells 2 (List.replicate n (.raw (.int .i64 0)))] (.sl 1 1 0 n)) _
  have e : frz [.cells 42 [.i t.Kind, .i t.Enum, .i t.Len], .cells 2 (List.replicate n (.raw (.int .i64 0)))] (.sl 1 1 0 n) = .lst 1 ((List.replicate n (0 : Int)).map AV.i) none := by
    simp [frz, AV.one, AV.cells, Value.oneCell']
  rw [e]
  exact .refl _

end Go.Proofs.YtpamokpmlplopaaGreatDoor

namespace Go.Proofs.YtpamokpmlplopaaGreatDoor
open Go.Abs
set_option maxRecDepth 20000
set_option linter.unusedSimpArgs false
set_option linter.unusedVariables false
set_option maxHeartbeats 1000000
attribute [local irreducible] vc vcOps vcStep vcGuard prK hrK gK gsK brK callK ElemK SeqK BlockK ScopeK OpsK CallK LoopK LoopGo finPost ACall PCall PCallE BCall vqOps vqStep vqGuard qrK heK pcK gqK gqsK QOpsK qcallK DrawK
section
variable {p : DProg} {k : Nat} {n : DNode}
theorem plN_13 {fst : ByteArray} {e : Ex} {on : List DCond} {st : NmSt} (h : e.kind = 13) : plN p k fst e on st =
    (if e.n = 1 then { plain0 7 0 ((eaN p k fst e.subs on st).1.take ((eaN p k fst e.subs on st).1.length - 1)) with Node := findF p e.name, Reset := true, Every := (eaN p k fst e.subs on st).1.getLastD noAtom } else { plain0 7 0 (eaN p k fst e.subs on st).1 with Node := findF p e.name }, (eaN p k fst e.subs on st).2) := by
  unfold plN
  rw [plainN_eq]
  simp [frstN, argsN, onN, headN, h, fiN]
theorem subs_le2 (l : List Ex) : l.length ≤ (partsL l).length := by
  induction l with
  | nil => simp
  | cons x l ih => rw [partsL, List.length_append, parts_lenC, List.length_cons]; omega

theorem call100 {e : Ex} (h13 : e.kind = 13) (hn : e.n = 0 ∨ e.n = 1) (hsn : e.n ≤ e.subs.length) (hp : ∀ x ∈ e.subs, ∀ y ∈ parts x, partE y = true) (hx : ∀ x ∈ e.subs, AtomK p k n x) : PlF p k n 100 e := by
  intro a0 a1 a2 y z B r c4 c5 c6 fst on st K hs hf hb hK
  obtain ⟨b1, b2, b3, b4⟩ := hb
  rw [frN_eq, if_neg (by omega), if_neg (by omega), Nat.zero_add] at b2 b3 b4
  rw [parts_lenC] at b1
  have hsl := subs_le2 e.subs
  have hfL : fitsL (rowN p.Enums n) p.Enums e.subs on = true := by rw [fitsF_eq] at hf; simpa [h13] using hf
  rw [plN_13 h13] at hK
  obtain ⟨m, hm⟩ : ∃ m : Nat, (m : Int) = (e.subs.length : Int) - e.n := ⟨((e.subs.length : Int) - e.n).toNat, by omega⟩
  have hw : IntKind.i64.wrap ((e.subs.length : Int) - e.n) = (m : Int) := by rw [hm, wrap_in _ (by omega) (by omega)]
  have hE : EachK p k n (e.subs.take m) := each_of (by rw [List.length_take]; omega) (fun x h => hx x (List.mem_of_mem_take h)) (fun x h => hp x (List.mem_of_mem_take h))
  have hfT : fitsL (rowN p.Enums n) p.Enums (e.subs.take m) on = true := by
    rw [fitsL_all, List.all_eq_true] at hfL ⊢
    exact fun x h => hfL x (List.mem_of_mem_take h)
  have hfr : frL (e.subs.take m) ≤ frL e.subs := by
    have : frL e.subs = frL (e.subs.take m) + frL (e.subs.drop m) := by rw [← frL_append, List.take_append_drop]
    omega
  have hpr : (partsL (e.subs.take m)).length ≤ (partsL e.subs).length := by
    have : partsL e.subs = partsL (e.subs.take m) ++ partsL (e.subs.drop m) := by
      conv => lhs; rw [← List.take_append_drop m e.subs]
      generalize e.subs.take m = l
      generalize e.subs.drop m = l2
      induction l with
      | nil => rfl
      | cons x l ih => rw [List.cons_append, partsL, partsL, ih, List.append_assoc]
    rw [this, List.length_append]
    omega
  have hE1 := fun r K => hE a0 a1 a2 y z B r c4 c5 c6 fst on st K hs hfT ⟨by omega, by omega, by omega, by omega⟩
  have g : grewN st (eaN p k fst (e.subs.take m) on st).2 (frL (e.subs.take m)) := each_grew (nmN fst) (tyN p (k : Int)) (cnN p) (vaN p) (fiN p) (fun y hy => hp y (List.mem_of_mem_take hy)) on st
  have hll : (eaN p k fst (e.subs.take m) on st).1.length = m := by
    unfold eaN
    rw [eachN_len, List.length_take]
    omega
  rcases hn with hn | hn
  · have hme : m = e.subs.length := by omega
    rw [if_neg (by omega)] at hK
    have hst : e.subs.take m = e.subs := List.take_of_length_le (by omega)
    rw [hst] at hE1 hll
    generalize eaN p k fst e.subs on st = G at hE1 hK hll
    obtain ⟨ats, st1⟩ := G
    dsimp only at hE1 hK hll
    refine acallK_of_vc tabOK Tryz.func100 (by kernel_rfl) rfl (n := 45) rfl (rs := [.cell 6 53]) rfl ?_
    simp only [go_sem, hw]
    intro _
    refine drawM [3, B.length + 9] (.pur 0 (.pur 1 (.pur 2 (.pur 4 (.pur 5 (.pur 7 (.pur 8 (.pur 9 (.pur 10 (.pur 11 (.pur 12 (.pur 13 (.two 3 (.pur 6 (.two 14 (.pur 15 (.eff 16 (.eff 17 .nil))) 16 (.eff 14 (.pur 15 (.eff 17 .nil))))) 16 (.eff 3 (.pur 6 (.eff 14 (.pur 15 (.eff 17 .nil)))))))))))))))))) mo (by kernel_rfl) ?_
    repeat' first
      | simp only [go_sem, Int.toNat_natCast]
      | refine pcK_of (find23 p e.name) ?_
      | (rw [hst]; refine hE1 _ _ fun r1 => ?_)
      | refine brK_dec (fun _ => ?_) (fun _ => ?_)
      | (exfalso; omega)
      | refine And.intro (by first | omega | (simp; done) | (simp; omega)) ?_
      | refine And.intro ?_ ?_
      | exact finKw (r := ({ plain0 7 0 ats with Node := findF p e.name } : DPlain).enc) (by simp only [go_sem]; rfl) (by rw [DPlain.enc_eq]; exact Weak.aggs ⟨.refl _, .nil _, .refl _, .refl _, .nil _, .refl _, .refl _, .refl _, .refl _, .nil _, trivial⟩) (hK _)
  · obtain ⟨x, hq⟩ : ∃ x, e.subs[m]? = some x := ⟨_, List.getElem?_eq_getElem (by omega)⟩
    have hxm := List.mem_of_getElem? hq
    have hfx : fitsF (rowN p.Enums n) p.Enums x on = true := by
      rw [fitsL_all, List.all_eq_true] at hfL
      exact hfL x hxm
    have hfr2 := frL_at hq
    have hpl := partsL_in hxm
    have hnx := eaN_next (p := p) (k := k) (fst := fst) (on := on) (st := st) hq
    rw [List.take_of_length_le (i := m + 1) (by omega)] at hnx
    rw [if_pos hn, hnx] at hK
    have h1 := fun st1 (h : grewN st st1 (frL (e.subs.take m))) r K => hx x hxm a0 a1 a2 y z B r c4 c5 c6 fst on st1 K hs hfx ⟨by omega, by have := h.1; omega, by have := h.2.1; omega, by have := h.2.2; omega⟩
    generalize eaN p k fst (e.subs.take m) on st = G at hE1 hK hll g
    obtain ⟨ats, st1⟩ := G
    dsimp only at hE1 hK hll g
    have h1 := h1 st1 g
    generalize atN p k fst x on st1 = A at h1 hK
    obtain ⟨a, st2⟩ := A
    dsimp only at h1 hK
    have e1 : (ats ++ [a]).take ((ats ++ [a]).length - 1) = ats := by simp
    have e2 : (ats ++ [a]).getLastD noAtom = a := by simp
    rw [e1, e2] at hK
    refine acallK_of_vc tabOK Tryz.func100 (by kernel_rfl) rfl (n := 45) rfl (rs := [.cell 6 53]) rfl ?_
    simp only [go_sem, hw]
    intro _
    refine drawM [3, B.length + 9] (.pur 0 (.pur 1 (.pur 2 (.pur 4 (.pur 5 (.pur 7 (.pur 8 (.pur 9 (.pur 10 (.pur 11 (.pur 12 (.pur 13 (.two 3 (.pur 6 (.two 14 (.pur 15 (.eff 16 (.eff 17 .nil))) 16 (.eff 14 (.pur 15 (.eff 17 .nil))))) 16 (.eff 3 (.pur 6 (.eff 14 (.pur 15 (.eff 17 .nil)))))))))))))))))) mo (by kernel_rfl) ?_
    repeat' first
      | simp only [go_sem, Int.toNat_natCast]
      | refine pcK_of (find23 p e.name) ?_
      | (refine hE1 _ _ fun r1 => ?_)
      | refine brK_dec (fun _ => ?_) (fun _ => ?_)
      | (exfalso; omega)
      | refine elemHave (x := x) (by omega) (by simpa using hq) ?_
      | (refine h1 _ _ fun r2 => ?_)
      | refine And.intro (by first | omega | (simp; done) | (simp; omega)) ?_
      | refine And.intro ?_ ?_
      | exact finKw (r := ({ plain0 7 0 ats with Node := findF p e.name, Reset := true, Every := a } : DPlain).enc) (by simp only [go_sem]; rfl) (by rw [DPlain.enc_eq]; exact Weak.aggs ⟨.refl _, .nil _, .refl _, .refl _, .nil _, .refl _, .refl _, .refl _, .refl _, .nil _, trivial⟩) (hK _)
end
end Go.Proofs.YtpamokpmlplopaaGreatDoor

namespace Go.Proofs.YtpamokpmlplopaaGreatDoor
open Go.Abs
set_option maxRecDepth 20000
set_option linter.unusedSimpArgs false
set_option linter.unusedVariables false
set_option maxHeartbeats 1000000
attribute [local irreducible] vc vcOps vcStep vcGuard prK hrK gK gsK brK callK ElemK SeqK BlockK ScopeK OpsK CallK LoopK LoopGo finPost ACall PCall PCallE BCall vqOps vqStep vqGuard qrK heK pcK gqK gqsK QOpsK qcallK DrawK
section
variable {p : DProg} {k : Nat} {n : DNode}
theorem plN_k {fst : ByteArray} {e : Ex} {on : List DCond} {st : NmSt} (h : e.kind = 5 ∨ e.kind = 6 ∨ e.kind = 7 ∨ e.kind = 14 ∨ e.kind = 15 ∨ e.kind = 16) : plN p k fst e on st = (plain0 (kindN e.kind) e.op (eaN p k fst e.subs on st).1, (eaN p k fst e.subs on st).2) := by
  unfold plN
  rw [plainN_eq]
  rcases h with h | h | h | h | h | h <;> simp [frstN, argsN, onN, headN, kindN, h]
theorem plN_8 {fst : ByteArray} {e x : Ex} {on : List DCond} {st : NmSt} (h : e.kind = 8) (hx : e.subs[0]? = some x) : plN p k fst e on st = ({ plain0 5 0 (eaN p k fst (e.subs.drop 1) on st).1 with Init := (constT p.Enums x).1 }, (eaN p k fst (e.subs.drop 1) on st).2) := by
  have hd : e.subs.headD e = x := by
    match e.subs, hx with
    | y :: l, hx => simpa using hx
  unfold plN
  rw [plainN_eq]
  simp only [frstN, argsN, headN, h, hd, cnN]
  simp
theorem plN_10 {fst : ByteArray} {e : Ex} {on : List DCond} {st : NmSt} (h : e.kind = 10) : plN p k fst e on st = ({ plain0 5 0 (eaN p k fst e.subs on st).1 with Init := List.replicate (cellsZ (tyN p (k : Int) e)) 0 }, (eaN p k fst e.subs on st).2) := by
  unfold plN
  rw [plainN_eq]
  simp [frstN, argsN, onN, headN, h]
theorem plN_11 {fst : ByteArray} {e : Ex} {on : List DCond} {st : NmSt} (h : e.kind = 11) : plN p k fst e on st = (plain0 1 0 (eaN p k fst e.subs on.dropLast st).1, (eaN p k fst e.subs on.dropLast st).2) := by
  unfold plN
  rw [plainN_eq]
  simp [frstN, argsN, onN, headN, h]
theorem plN_leaf {fst : ByteArray} {e : Ex} {on : List DCond} {st : NmSt} (h : leafK e.kind = true) (hs : e.subs = []) : plN p k fst e on st = (plain0 1 0 [(atN p k fst e on st).1], (atN p k fst e on st).2) := by
  have h2 : e.kind = 1 ∨ e.kind = 2 ∨ e.kind = 3 ∨ e.kind = 4 := by unfold leafK at h; exact of_decide_eq_true h
  have hat : atN p k fst e on st = (leafA (vaN p) e, st) := by unfold atN atomN; rw [if_pos h]
  rw [hat]
  unfold plN
  rw [plainN_eq]
  rcases h2 with h2 | h2 | h2 | h2 <;> simp [frstN, argsN, onN, headN, h2, hs, eachN_nil]

theorem plain_all (hty : ∀ n ∈ p.Nodes, tyOK p n) (e : Ex) : (∀ y ∈ parts e, partE y = true) → okE e → PlF p k n 62 e := by
  induction e using Ex.ind with
  | _ e ih =>
  intro hp hok
  have hps : ∀ x ∈ e.subs, ∀ y ∈ parts x, partE y = true := fun x hx => sub_ok hp hx
  have hx : ∀ x ∈ e.subs, AtomK p k n x := fun x hx => atom_of hty (hps x hx) (sub_okE hok hx) (ih x hx (hps x hx) (sub_okE hok hx))
  have hsl := subs_le hok
  obtain ⟨hk, hlo, hhi, ha11, ha12, hn13⟩ := part_facts (hp e (self_parts e))
  have hE : EachK p k n e.subs := each_of (by omega) hx hps
  have hE8 : EachK p k n (e.subs.drop 1) := each_of (by rw [List.length_drop]; omega) (fun x h => hx x (List.mem_of_mem_drop h)) (fun x h => hps x (List.mem_of_mem_drop h))
  intro a0 a1 a2 y z B r c4 c5 c6 fst on st K hs hf hb hK
  have hb0 := hb
  obtain ⟨b1, b2, b3, b4⟩ := hb
  have b1' := b1
  rw [parts_lenC] at b1'
  have hk91 := kind91 e
  by_cases hA : e.kind = 5 ∨ e.kind = 6 ∨ e.kind = 7 ∨ e.kind = 14 ∨ e.kind = 15 ∨ e.kind = 16
  · have hfL : fitsL (rowN p.Enums n) p.Enums e.subs on = true := by rw [fitsF_eq] at hf; rcases hA with h | h | h | h | h | h <;> simpa [h] using hf
    rw [frN_eq, if_neg (by omega), if_neg (by omega), Nat.zero_add] at b2 b3 b4
    have hk0 : ¬ kindN e.kind = 0 := by unfold kindN; rcases hA with h | h | h | h | h | h <;> simp [h]
    rw [plN_k hA] at hK
    generalize kindN e.kind = kd at hk91 hk0 hK
    refine acallK_of_vc tabOK Tryz.func62 (by kernel_rfl) rfl (n := 104) rfl (rs := [.cell 6 53]) rfl ?_
    simp only [go_sem]
    refine PCall.call hk91 ?_
    simp only [go_sem]
    refine brK_dec (fun _ => ?_) (fun h => absurd h (by simpa using hk0))
    simp only [go_sem]
    refine drawM [3, B.length + 9, B.length + (r.length + 3) + 8] (.pur 0 (.pur 1 (.pur 2 (.pur 3 (.pur 4 (.pur 5 (.pur 6 (.pur 7 (.eff 8 (.pur 9 (.eff 10 .nil))))))))))) mo (by kernel_rfl) ?_
    simp only [go_sem]
    refine hE a0 a1 a2 y z B _ c4 c5 c6 fst on st _ hs hfL ⟨by omega, by omega, by omega, by omega⟩ fun r1 => ?_
    generalize eaN p k fst e.subs on st = G at hK ⊢
    obtain ⟨ats, st1⟩ := G
    dsimp only at hK ⊢
    simp only [go_sem]
    refine finKw (r := (plain0 kd e.op ats).enc) (by simp only [go_sem]; rfl) ?_ (hK _)
    rw [DPlain.enc_eq]
    exact Weak.aggs ⟨.refl _, .nil _, .refl _, .refl _, .nil _, .refl _, .refl _, .refl _, .refl _, .nil _, trivial⟩
  have hk0 : kindN e.kind = 0 := by
    unfold kindN
    rw [if_neg (by omega), if_neg (by omega), if_neg (by omega), if_neg (by omega), if_neg (by omega), if_neg (by omega)]
  rw [hk0] at hk91
  by_cases h8 : e.kind = 8
  · have h2 : (subsE e).1 = 2 ∧ (subsE e).2 = 2 := by simp [subsE, h8]
    have hfL : fitsL (rowN p.Enums n) p.Enums (e.subs.drop 1) on = true := by rw [fitsF_eq] at hf; simp [h8] at hf; rw [List.drop_one]; exact hf.2
    rw [frN_eq, if_neg (by omega), if_pos h8, Nat.zero_add] at b2 b3 b4
    obtain ⟨x0, hx0⟩ : ∃ x, e.subs[0]? = some x := ⟨_, List.getElem?_eq_getElem (by omega)⟩
    have hpr : (partsL (e.subs.drop 1)).length ≤ (partsL e.subs).length := by
      generalize e.subs = l
      cases l with
      | nil => simp
      | cons x l => rw [partsL, List.length_append]; simp
    have hc := constP p.Enums x0 (sub_okE hok (List.mem_of_getElem? hx0))
    rw [plN_8 h8 hx0] at hK
    generalize constT p.Enums x0 = cc at hc hK
    obtain ⟨cv, ct, cok⟩ := cc
    dsimp only at hK
    refine acallK_of_vc tabOK Tryz.func62 (by kernel_rfl) rfl (n := 104) rfl (rs := [.cell 6 53]) rfl ?_
    simp only [go_sem]
    refine PCall.call hk91 ?_
    simp only [go_sem]
    refine brK_dec (fun _ => ?_) (fun q => absurd h8 q)
    simp only [go_sem]
    refine drawK mo (by kernel_rfl) ?_
    simp only [go_sem]
    refine elemHave (x := x0) (by omega) (by simpa using hx0) ?_
    simp only [go_sem]
    refine pcK_of hc ?_
    simp only [go_sem]
    refine And.intro (by omega) ?_
    refine hE8 a0 a1 a2 y z B _ c4 c5 c6 fst on st _ hs hfL ⟨by omega, by omega, by omega, by omega⟩ fun r1 => ?_
    generalize eaN p k fst (e.subs.drop 1) on st = G at hK ⊢
    obtain ⟨ats, st1⟩ := G
    dsimp only at hK ⊢
    simp only [go_sem]
    refine delay95 cv ats fun r2 => ?_
    simp only [go_sem]
    exact finKw (r := ({ plain0 5 0 ats with Init := cv } : DPlain).enc) (by simp only [go_sem]; rfl) (by rw [DPlain.enc_eq]; exact .refl _) (hK _)
  by_cases h10 : e.kind = 10
  · have hfL : fitsL (rowN p.Enums n) p.Enums e.subs on = true := by rw [fitsF_eq] at hf; simpa [h10] using hf
    rw [frN_eq, if_neg (by omega), if_neg (by omega), Nat.zero_add] at b2 b3 b4
    rw [plN_10 h10] at hK
    have hz := zero96 (tyN p (k : Int) e)
    generalize hcv : List.replicate (cellsZ (tyN p (k : Int) e)) (0 : Int) = cv at hz hK
    refine acallK_of_vc tabOK Tryz.func62 (by kernel_rfl) rfl (n := 104) rfl (rs := [.cell 6 53]) rfl ?_
    simp only [go_sem]
    refine PCall.call hk91 ?_
    repeat' first
      | simp only [go_sem]
      | refine brK_dec (fun _ => ?_) (fun _ => ?_)
      | (exfalso; omega)
    refine drawM [3, B.length + 9, B.length + (r.length + 3) + 8] (.pur 0 (.pur 1 (.pur 2 (.pur 5 (.pur 6 (.pur 7 (.pur 8 (.pur 9 (.eff 3 (.pur 4 (.eff 10 (.eff 11 (.eff 12 .nil))))))))))))) mo (by kernel_rfl) ?_
    simp only [go_sem]
    refine ty97 e hty hp hok ?_
    simp only [go_sem]
    refine pcK_of hz ?_
    simp only [go_sem]
    refine hE a0 a1 a2 y z B _ c4 c5 c6 fst on st _ hs hfL ⟨by omega, by omega, by omega, by omega⟩ fun r1 => ?_
    generalize eaN p k fst e.subs on st = G at hK ⊢
    obtain ⟨ats, st1⟩ := G
    dsimp only at hK ⊢
    simp only [go_sem]
    refine delay95 cv ats fun r2 => ?_
    simp only [go_sem]
    exact finKw (r := ({ plain0 5 0 ats with Init := cv } : DPlain).enc) (by simp only [go_sem]; rfl) (by rw [DPlain.enc_eq]; exact .refl _) (hK _)
  by_cases h9 : e.kind = 9
  · have hC := arrow98 (p := p) (k := k) (n := n) h9 hE a0 a1 a2 y z B
    refine acallK_of_vc tabOK Tryz.func62 (by kernel_rfl) rfl (n := 104) rfl (rs := [.cell 6 53]) rfl ?_
    simp only [go_sem]
    refine PCall.call hk91 ?_
    repeat' first
      | simp only [go_sem]
      | refine brK_dec (fun _ => ?_) (fun _ => ?_)
      | (exfalso; omega)
    refine hC _ c4 c5 c6 fst on st _ hs hf hb0 fun r1 => ?_
    simp only [go_sem]
    exact finKw (r := (plN p k fst e on st).1.enc) (by simp only [go_sem]; rfl) (by rw [DPlain.enc_eq]; exact .refl _) (hK _)
  by_cases h11 : e.kind = 11
  · rw [fitsF_eq] at hf
    simp [h11] at hf
    obtain ⟨⟨⟨⟨⟨_, _⟩, hrow⟩, _⟩, hon⟩, hfL⟩ := hf
    have hon := eqB_t hon
    have hdl : on.dropLast = (rowN p.Enums n e.name).1 := by
      conv => lhs; rw [hon]
      simp
    rw [← hdl] at hfL
    obtain ⟨m, hm⟩ : ∃ m, on.length = m + 1 := ⟨on.length - 1, by
      have := congrArg List.length hon
      simp at this
      omega⟩
    have hw : IntKind.i64.wrap ((on.length : Int) - 1) = (m : Int) := by rw [hm, wrap_in _ (by omega) (by omega)]; omega
    have hdt : on.take m = on.dropLast := by rw [List.dropLast_eq_take, hm]; rfl
    rw [frN_eq, if_neg (by omega), if_neg (by omega), Nat.zero_add] at b2 b3 b4
    rw [plN_11 h11] at hK
    have hdll : on.dropLast.length ≤ on.length := by rw [List.length_dropLast]; omega
    have hE1 := fun r K => hE a0 a1 a2 y z B r c4 c5 c6 fst on.dropLast st K hs hfL ⟨by omega, by omega, by omega, by omega⟩
    rw [← hdt] at hE1 hK
    refine acallK_of_vc tabOK Tryz.func62 (by kernel_rfl) rfl (n := 104) rfl (rs := [.cell 6 53]) rfl ?_
    simp only [go_sem]
    refine PCall.call hk91 ?_
    repeat' first
      | simp only [go_sem]
      | refine brK_dec (fun _ => ?_) (fun _ => ?_)
      | (exfalso; omega)
    refine drawM [3, B.length + 9, B.length + (r.length + 3) + 8] (.pur 0 (.pur 1 (.pur 2 (.pur 3 (.pur 4 (.pur 5 (.pur 6 (.pur 7 (.pur 8 (.eff 9 (.pur 10 (.eff 11 .nil)))))))))))) mo (by kernel_rfl) ?_
    simp only [go_sem, hw, Int.toNat_natCast]
    refine And.intro (by omega) ?_
    refine hE1 _ _ fun r1 => ?_
    generalize eaN p k fst e.subs (on.take m) st = G at hK ⊢
    obtain ⟨ats, st1⟩ := G
    dsimp only at hK ⊢
    simp only [go_sem]
    refine finKw (r := (plain0 1 0 ats).enc) (by simp only [go_sem]; rfl) ?_ (hK _)
    rw [DPlain.enc_eq]
    exact Weak.aggs ⟨.refl _, .nil _, .refl _, .refl _, .nil _, .refl _, .refl _, .refl _, .refl _, .nil _, trivial⟩
  by_cases h12 : e.kind = 12
  · have hal : e.arms.length = e.subs.length := by
      have : (subsE e).1 = e.arms.length ∧ (subsE e).2 = e.arms.length := by simp [subsE, h12]
      omega
    have hC := merge99 (p := p) (k := k) (n := n) h12 hal hps hx a0 a1 a2 y z B
    refine acallK_of_vc tabOK Tryz.func62 (by kernel_rfl) rfl (n := 104) rfl (rs := [.cell 6 53]) rfl ?_
    simp only [go_sem]
    refine PCall.call hk91 ?_
    repeat' first
      | simp only [go_sem]
      | refine brK_dec (fun _ => ?_) (fun _ => ?_)
      | (exfalso; omega)
    refine hC _ c4 c5 c6 fst on st _ hs hf hb0 fun r1 => ?_
    simp only [go_sem]
    exact finKw (r := (plN p k fst e on st).1.enc) (by simp only [go_sem]; rfl) (by rw [DPlain.enc_eq]; exact .refl _) (hK _)
  by_cases h13 : e.kind = 13
  · have hsn : e.n ≤ e.subs.length := by
      have : (subsE e).1 = e.n := by simp [subsE, h13]
      omega
    have hC := call100 (p := p) (k := k) (n := n) h13 (hn13 h13) hsn hps hx a0 a1 a2 y z B
    refine acallK_of_vc tabOK Tryz.func62 (by kernel_rfl) rfl (n := 104) rfl (rs := [.cell 6 53]) rfl ?_
    simp only [go_sem]
    refine PCall.call hk91 ?_
    repeat' first
      | simp only [go_sem]
      | refine brK_dec (fun _ => ?_) (fun _ => ?_)
      | (exfalso; omega)
    refine hC _ c4 c5 c6 fst on st _ hs hf hb0 fun r1 => ?_
    simp only [go_sem]
    exact finKw (r := (plN p k fst e on st).1.enc) (by simp only [go_sem]; rfl) (by rw [DPlain.enc_eq]; exact .refl _) (hK _)
  by_cases h17 : e.kind = 17
  · rw [fitsF_eq] at hf
    simp [h17] at hf
  have hlf : leafK e.kind = true := by unfold leafK; exact decide_eq_true (by omega)
  have hsz : e.subs = [] := by
    have : (subsE e).2 = 0 := by
      unfold subsE
      rw [if_neg (by omega), if_neg (by omega), if_neg (by omega), if_neg (by omega), if_neg (by omega), if_neg (by omega)]
    exact List.length_eq_zero_iff.1 (by omega)
  have hA1 := atom_leaf (p := p) (k := k) (n := n) hlf a0 a1 a2 y z B
  have hg : gN e = 0 := by unfold gN; rw [if_pos hlf]
  rw [plN_leaf hlf hsz] at hK
  refine acallK_of_vc tabOK Tryz.func62 (by kernel_rfl) rfl (n := 104) rfl (rs := [.cell 6 53]) rfl ?_
  simp only [go_sem]
  refine PCall.call hk91 ?_
  repeat' first
    | simp only [go_sem]
    | refine brK_dec (fun _ => ?_) (fun _ => ?_)
    | (exfalso; omega)
  refine hA1 _ c4 c5 c6 fst on st _ hs hf ⟨by omega, by omega, by omega, by omega⟩ fun r1 => ?_
  generalize atN p k fst e on st = A at hK ⊢
  obtain ⟨a, st1⟩ := A
  dsimp only at hK ⊢
  simp only [go_sem]
  refine finKw (r := (plain0 1 0 [a]).enc) (by simp only [go_sem]; rfl) ?_ (hK _)
  rw [DPlain.enc_eq]
  exact Weak.aggs ⟨.refl _, .nil _, .refl _, .tok _ _ _, .nil _, .refl _, .refl _, .refl _, .refl _, .nil _, trivial⟩
end
end Go.Proofs.YtpamokpmlplopaaGreatDoor

namespace Go.Proofs.YtpamokpmlplopaaGreatDoor
open Go.Abs
set_option maxRecDepth 20000
set_option linter.unusedSimpArgs false
set_option linter.unusedVariables false
set_option maxHeartbeats 1000000
attribute [local irreducible] vc vcOps vcStep vcGuard prK hrK gK gsK brK callK ElemK SeqK BlockK ScopeK OpsK CallK LoopK LoopGo finPost ACall PCall PCallE BCall vqOps vqStep vqGuard qrK heK pcK gqK gqsK QOpsK qcallK DrawK
theorem finTh {T : TypeId → TI} {s : List AV} {rs : List ResultVar} {e : TypeId} {sz : Nat} {l l0 : List AV} {k n : Nat} {h junk : List Blk} {KK : AV → List Blk → Prop} (hl : resAV T s (h ++ junk) rs = some [.lst sz l0 (some k)]) (hll : l0 = l) (hkl : h.length ≤ k) (hk : (h ++ junk)[k]? = some (.tok e sz n)) (hn : n = l.length)
    (hb : ∀ c ∈ flat l, Go.Abs.Pure c) (hK : KK (.lst sz l (some h.length)) (h ++ [.tok e sz l.length])) : FinT T rs h e sz l KK s (h ++ junk) := by
  subst hll hn
  unfold FinT
  exact ⟨h, junk, k, hl, rfl, Chg.refl _ _, hkl, hk, fun c hc => Blw.pure (hb c hc), hK⟩
theorem lst_flat {sz : Nat} {l : List AV} (h : Go.Abs.Pure (.lst sz l none)) : ∀ c ∈ flat l, Go.Abs.Pure c := by cases h with | lst _ _ h => exact h
section
variable {a0 a1 a2 : Blk} {r : List Blk} {p : DProg} {k : Int} {nx c4 c5 c6 c7 c8 : AV} {K : AV → List Blk → Prop}

theorem vars58 (l : List DDecl) (hl : l.length ≤ 100000) (hn : ∀ n ∈ p.Nodes, (allV n).length ≤ 4294967296)
    (hK : K (.lst 5 ((l.map (varNm p k)).map DVar.enc) (some (r.length + 1 + 1 + 1 + 1))) (a0 :: a1 :: a2 :: apB p k nx c4 c5 c6 c7 c8 :: (r ++ [.tok 45 5 l.length]))) :
    ACall Tryz.prog 58 [.ptr 3 0, .lst 6 (l.map DDecl.enc) none] (a0 :: a1 :: a2 :: apB p k nx c4 c5 c6 c7 c8 :: r) K := by
  refine acallT_of_vc tabOK Tryz.func58 (by kernel_rfl) rfl (n := 28) rfl (rs := [.tmp 4]) rfl (e := 45) (sz := 5) (l := (l.map (varNm p k)).map DVar.enc) ?_
  simp only [go_sem]
  intro _
  refine loop_ghost (ghost_tok 5 45 5 rfl) ?_
  simp only [go_sem]
  refine loop_fr [5, 7, 10, 11, 12, 13, 14, 15, 16, 17, 18, 19, 20, 21, 22, 23, 24, 25, 26] (fun mm C hh => ∃ (i : Nat) (r' : List Blk), i ≤ l.length ∧ mm = l.length - i ∧ C = [(10, .raw (.int .i64 (i : Nat))), (5, .lst 5 (((l.take i).map (varNm p k)).map DVar.enc) (some (r.length + 1 + 1 + 1 + 1)))] ∧
    hh = a0 :: a1 :: a2 :: apB p k nx c4 c5 c6 c7 c8 :: (r ++ .tok 45 5 i :: r')) l.length _ ⟨0, [], by omega, by omega, rfl, rfl⟩ (.cons rfl (.cons rfl .nil)) ?_
  rintro mm C j hh ⟨i, r', hi, rfl, rfl, rfl⟩
  simp only [go_sem]
  refine brK_dec (fun hlt => ?_) (fun hge => ?_)
  · obtain ⟨d, hd⟩ : ∃ d, l[i]? = some d := ⟨_, List.getElem?_eq_getElem (by omega)⟩
    have hnx : ((l.take (i + 1)).map (varNm p k)).map DVar.enc = ((l.take i).map (varNm p k)).map DVar.enc ++ [(varNm p k d).enc] := by
      rw [List.take_add_one, hd]
      simp
    simp only [go_sem]
    refine elemHave (x := d) (by omega) (by simpa using hd) ?_
    simp only [go_sem]
    refine drawM [] (.pur 0 (.pur 1 (.pur 2 (.pur 3 (.pur 4 (.pur 5 (.pur 6 (.pur 7 (.eff 8 (.pur 9 (.eff 10 (.eff 11 (.pur 12 .nil))))))))))))) mo (by kernel_rfl) ?_
    simp only [go_sem]
    refine row60 d.Name hn ?_
    simp only [go_sem]
    refine And.intro (by first | omega | (simp; done) | (simp; omega)) ?_
    exact loopFr _ (by omega) ⟨i + 1, _, by omega, rfl, rfl, by simp; exact ⟨by omega, rfl⟩⟩ (.next rfl (by omega) (.cons (by rw [hnx, DVar.enc_eq]; rfl) .nil)) rfl
  · rw [List.take_of_length_le (by omega)]
    obtain rfl : i = l.length := by omega
    simp only [go_sem]
    refine finTh (h := a0 :: a1 :: a2 :: apB p k nx c4 c5 c6 c7 c8 :: r) (junk := .tok 45 5 l.length :: r') (k := r.length + 1 + 1 + 1 + 1) (n := l.length) rfl rfl (by simp) (by simp) (by simp) (lst_flat (DVar.pures _)) ?_
    simpa using hK
end
end Go.Proofs.YtpamokpmlplopaaGreatDoor

namespace Go.Proofs.YtpamokpmlplopaaGreatDoor
open Go.Abs
set_option maxRecDepth 20000
set_option linter.unusedSimpArgs false
set_option linter.unusedVariables false
set_option maxHeartbeats 1000000
attribute [local irreducible] vc vcOps vcStep vcGuard prK hrK gK gsK brK callK ElemK SeqK BlockK ScopeK OpsK CallK LoopK LoopGo finPost ACall PCall PCallE BCall vqOps vqStep vqGuard qrK heK pcK gqK gqsK QOpsK qcallK DrawK
theorem fr_le {e : Ex} (h : rightE e = true) : frN e ≤ 88 := by
  have hp := right_parts h
  unfold rightE at h
  simp only [Bool.and_eq_true, decide_eq_true_eq] at h
  obtain ⟨_, h2⟩ := gN_le e hp
  cases hl : leafK e.kind with
  | false => have := h2 hl; omega
  | true =>
    have hk : e.kind = 1 ∨ e.kind = 2 ∨ e.kind = 3 ∨ e.kind = 4 := by unfold leafK at hl; exact of_decide_eq_true hl
    obtain ⟨_, _, hhi, _⟩ := part_facts (hp e (self_parts e))
    have : (subsE e).2 = 0 := by
      unfold subsE
      rw [if_neg (by omega), if_neg (by omega), if_neg (by omega), if_neg (by omega), if_neg (by omega), if_neg (by omega)]
    have hs : e.subs = [] := List.length_eq_zero_iff.1 (by omega)
    rw [frN_eq, hs, if_neg (by omega), if_neg (by omega), frL]
    omega
/-- What a node's equations are, for the walk. -/
structure EqW (p : DProg) (k : Nat) (n : DNode) (q : DEq) : Prop where
  fit : EqFit p k n q
  right : rightE q.E = true
  ok : okEq q
theorem eqs_w {p : DProg} (h : (startF p).Err = 0) (hp : okProg p) {k : Nat} {n : DNode} (hn : p.Nodes[k]? = some n) : ∀ q ∈ n.Eqs, EqW p k n q := by
  obtain ⟨hck, hall⟩ := start_eqs h
  have hnm := List.mem_of_getElem? hn
  exact fun q hq => ⟨(hall k n hn).2.2 q hq, (eqs_right hck hnm hq).2, (hp.2.2 n hnm).2.2.2.2.2 q hq⟩
theorem eqs_len {p : DProg} {k : Nat} {n : DNode} (h : ∀ q ∈ n.Eqs, EqW p k n q) (v0 : List DVar) : ∀ i, i ≤ n.Eqs.length → (eqsNm p (k : Int) (v0, []) (n.Eqs.take i)).1.length ≤ v0.length + 90 * i ∧ (eqsNm p (k : Int) (v0, []) (n.Eqs.take i)).2.length ≤ 90 * i
  | 0, _ => by simp [eqsNm]
  | i + 1, hi => by
    obtain ⟨h1, h2⟩ := eqs_len h v0 i (by omega)
    obtain ⟨x, hx⟩ : ∃ x, n.Eqs[i]? = some x := ⟨_, List.getElem?_eq_getElem (by omega)⟩
    rw [eqsNm_next p (k : Int) hx]
    generalize eqsNm p (k : Int) (v0, []) (n.Eqs.take i) = st at h1 h2
    have hw := h x (List.mem_of_getElem? hx)
    obtain ⟨g1, g2, g3⟩ := plain_grew (nmN (x.Names.headD ⟨#[]⟩)) (tyN p (k : Int)) (cnN p) (vaN p) (fiN p) x.E hw.fit.right (rowOn p (k : Int) (x.Names.headD ⟨#[]⟩)) ⟨st.1, st.2, 0⟩
    have hf := fr_le hw.right
    unfold eqNm eqPl
    dsimp only at g2 g3 ⊢
    rw [List.length_append, List.length_singleton]
    omega
theorem rowOn_w {p : DProg} {k : Nat} {n : DNode} (hn : p.Nodes[k]? = some n) (s : ByteArray) : rowOn p (k : Int) s = (rowN p.Enums n s).1 := by unfold rowOn rowF; rw [nodeAt_nat, hn]

theorem of33 (p : DProg) (k : Nat) (n : DNode) (hn : p.Nodes[k]? = some n) (hs : (startF p).Err = 0) (hp : okProg p) : PCall Tryz.prog 33 [p.enc, .i (k : Int)] (flowNm p (k : Int) n).enc := by
  have hnm := List.mem_of_getElem? hn
  have hkl := (List.getElem?_eq_some_iff.1 hn).1
  have hpl := hp.2.1
  have hck := (start_eqs hs).1
  have hty := tyOK_of hp hck
  have hal : ∀ n ∈ p.Nodes, (allV n).length ≤ 4294967296 := fun n hn => by have := (hty n hn).1; omega
  have hno := hp.2.2 n hnm
  have hi20 := hno.1.1
  have ho20 := hno.2.1.1
  have hv20 := hno.2.2.1.1
  have he30 := hno.2.2.2.1
  have hew := eqs_w hs hp hn
  have hel := eqs_len hew (n.Vars.map (varNm p (k : Int)))
  have hplain := fun e => plain_all (p := p) (k := k) (n := n) hty e
  refine pcall_of_vc tabOK Tryz.func33 (by kernel_rfl) rfl (pure_cons (DProg.pure _) (pure_cons (.raw _) pure_nil)) (DFlow.pure _) (n := 74) rfl (rs := [.cell 4 37]) rfl ?_
  simp only [go_sem]
  refine elemHave (x := n) (by omega) (by simpa using hn) ?_
  simp only [go_sem]
  refine drawM [3] (.pur 0 (.pur 1 (.pur 2 (.pur 3 (.pur 4 (.pur 5 (.pur 7 (.pur 8 (.pur 9 (.pur 11 (.pur 12 (.pur 13 (.eff 6 (.eff 10 (.eff 14 (.pur 15 (.pur 16 (.pur 17 (.eff 18 .nil))))))))))))))))))) mo (by kernel_rfl) ?_
  simp only [go_sem]
  refine vars58 n.Ins (by omega) hal ?_
  simp only [go_sem]
  refine vars58 n.Outs (by omega) hal ?_
  simp only [go_sem]
  refine vars58 n.Vars (by omega) hal ?_
  simp only [go_sem]
  intro _
  refine loop_ghost (ghost_cell (t := 114) (cs := [.lst 2 (p.Enums.map DEnum.enc) none, .lst 5 (p.Nodes.map DNode.enc) none, .i (k : Int), .raw .nilFunc, .s n.Name, .lst 5 ((n.Ins.map (varNm p (k : Int))).map DVar.enc) (some 4), .lst 5 ((n.Outs.map (varNm p (k : Int))).map DVar.enc) (some 5), .lst 5 ((n.Vars.map (varNm p (k : Int))).map DVar.enc) (some 6), .raw (.slice none 0 0)]) 3 8 53 10 (by rfl) (by rfl)) ?_
  simp only [go_sem]
  refine loop_fr [8, 9, 40, 41, 42, 43, 44, 45, 46, 47, 48, 49, 50, 51, 52, 53, 54, 55, 56, 57, 58, 59, 60, 61, 62, 63, 64, 65, 66, 67, 68, 69] (fun mm C hh => ∃ (i : Nat) (B : List Blk) (nx : AV), i ≤ n.Eqs.length ∧ mm = n.Eqs.length - i ∧ C = [(40, .raw (.int .i64 (i : Nat)))] ∧
    hh = .cells 25 [.lst 2 (p.Enums.map DEnum.enc) none, .lst 5 (p.Nodes.map DNode.enc) none] :: .cells 37 [.s ⟨#[]⟩, .raw (.slice none 0 0), .raw (.slice none 0 0), .raw (.slice none 0 0), .raw (.slice none 0 0)] :: .cells 68 [.s n.Name, .lst 6 (n.Ins.map DDecl.enc) none, .lst 6 (n.Outs.map DDecl.enc) none, .lst 6 (n.Vars.map DDecl.enc) none, .lst 7 (n.Eqs.map DEq.enc) none] ::
      apB p (k : Int) nx (.s n.Name) (.lst 5 ((n.Ins.map (varNm p (k : Int))).map DVar.enc) (some 4)) (.lst 5 ((n.Outs.map (varNm p (k : Int))).map DVar.enc) (some 5)) (.lst 5 ((eqsNm p (k : Int) (n.Vars.map (varNm p (k : Int)), []) (n.Eqs.take i)).1.map DVar.enc) (some 6)) (.lst 10 ((eqsNm p (k : Int) (n.Vars.map (varNm p (k : Int)), []) (n.Eqs.take i)).2.map DPlain.enc) (some 7)) ::
      .tok 45 5 n.Ins.length :: .tok 45 5 n.Outs.length :: .tok 45 5 (eqsNm p (k : Int) (n.Vars.map (varNm p (k : Int)), []) (n.Eqs.take i)).1.length :: .tok 53 10 (eqsNm p (k : Int) (n.Vars.map (varNm p (k : Int)), []) (n.Eqs.take i)).2.length :: B) n.Eqs.length _ ⟨0, [], _, by omega, by omega, rfl, by simp [eqsNm]; rfl⟩ (.cons rfl .nil) ?_
  rintro mm C j hh ⟨i, B, nx, hi, rfl, rfl, rfl⟩
  simp only [go_sem]
  refine brK_dec (fun hlt => ?_) (fun hge => ?_)
  · obtain ⟨q, hq⟩ : ∃ q, n.Eqs[i]? = some q := ⟨_, List.getElem?_eq_getElem (by omega)⟩
    have hqm := List.mem_of_getElem? hq
    have hw := hew q hqm
    obtain ⟨s, rest, hqn⟩ := hw.fit.names
    have hsz : s.size ≤ 100 := hw.ok.2.2 s (by rw [hqn]; simp)
    have hnl := hw.ok.1
    have hfit := hw.fit.fits
    have hnx := eqsNm_next p (k : Int) (st := (n.Vars.map (varNm p (k : Int)), [])) hq
    have hel1 := hel i hi
    have hfr := fr_le hw.right
    have hpl60 : (parts q.E).length ≤ 60 := by
      have := hw.right
      unfold rightE at this
      simp only [Bool.and_eq_true, decide_eq_true_eq] at this
      exact this.1.1
    have hon := rowN_len p.Enums n s
    rw [← rowOn_w hn] at hon
    generalize eqsNm p (k : Int) (n.Vars.map (varNm p (k : Int)), []) (n.Eqs.take i) = st at hnx hel1 ⊢
    rw [List.length_map] at hel1
    have hP := fun a0 a1 a2 y z B r c4 c5 c6 K => hplain q.E hw.fit.right hw.ok.2.1 a0 a1 a2 y z B r c4 c5 c6 s (rowOn p (k : Int) s) ⟨st.1, st.2, 0⟩ K (by omega) (by rw [rowOn_w hn]; rw [hqn] at hfit; exact hfit) ⟨by omega, by dsimp only; omega, by dsimp only; omega, by dsimp only; omega⟩
    have g : grewN ⟨st.1, st.2, 0⟩ (plN p k s q.E (rowOn p (k : Int) s) ⟨st.1, st.2, 0⟩).2 (frN q.E) := plain_grew (nmN s) (tyN p (k : Int)) (cnN p) (vaN p) (fiN p) q.E hw.fit.right (rowOn p (k : Int) s) ⟨st.1, st.2, 0⟩
    have hst : eqNm p (k : Int) st q = ((plN p k s q.E (rowOn p (k : Int) s) ⟨st.1, st.2, 0⟩).2.vars, (plN p k s q.E (rowOn p (k : Int) s) ⟨st.1, st.2, 0⟩).2.eqs ++ [{ (plN p k s q.E (rowOn p (k : Int) s) ⟨st.1, st.2, 0⟩).1 with Names := q.Names, On := rowOn p (k : Int) s }]) := by
      unfold eqNm eqPl
      rw [hqn]
      rfl
    rw [hst] at hnx
    clear hst
    generalize plN p k s q.E (rowOn p (k : Int) s) ⟨st.1, st.2, 0⟩ = R at hP g hnx
    obtain ⟨pq, st1⟩ := R
    obtain ⟨g1, g2, g3⟩ := g
    dsimp only at hP g1 g2 g3 hnx
    simp only [go_sem]
    refine elemHave (x := q) (by omega) (by simpa using hq) ?_
    simp only [go_sem]
    obtain ⟨B', hB'⟩ : ∃ B', B' = B ++ [Blk.cells 74 [.lst 1 (q.Names.map AV.s) none, .i q.E.kind, .i q.E.n, .s q.E.name, .i q.E.op, .lst 1 (q.E.arms.map AV.s) none, .lst 6 (q.E.subs.map Ex.enc) none]] := ⟨_, rfl⟩
    have hat0 : B'[B.length]? = some (Blk.cells 74 [.lst 1 (q.Names.map AV.s) none, .i q.E.kind, .i q.E.n, .s q.E.name, .i q.E.op, .lst 1 (q.E.arms.map AV.s) none, .lst 6 (q.E.subs.map Ex.enc) none]) := by rw [hB']; simp
    have hat : ∀ r : List Blk, (B' ++ r)[B.length]? = some (Blk.cells 74 [.lst 1 (q.Names.map AV.s) none, .i q.E.kind, .i q.E.n, .s q.E.name, .i q.E.op, .lst 1 (q.E.arms.map AV.s) none, .lst 6 (q.E.subs.map Ex.enc) none]) := fun r => by rw [hB']; simp
    rw [← hB']
    clear hB'
    refine elemHave (x := s) (by omega) (by rw [hqn]; rfl) ?_
    simp only [go_sem, hat0, hat]
    refine names59 s ?_
    simp only [go_sem, hat0, hat]
    refine elemHave (x := s) (by omega) (by rw [hqn]; rfl) ?_
    simp only [go_sem, hat0, hat]
    refine row60 s hal ?_
    simp only [go_sem, hat0, hat]
    refine drawM [3, B'.length + 9] (.pur 0 (.pur 1 (.pur 2 (.pur 3 (.pur 4 (.pur 6 (.pur 7 (.pur 9 (.eff 5 (.pur 8 (.eff 10 .nil))))))))))) mo (by kernel_rfl) ?_
    simp only [go_sem, hat0, hat]
    refine hP _ _ _ _ _ B' [] _ _ _ _ fun r1 => ?_
    simp only [go_sem, hat0, hat]
    refine pcK_of (cloneS q.Names (by omega)) ?_
    simp only [go_sem, hat0, hat]
    refine emit61 pq q.Names (rowOn p (k : Int) s) st1.eqs (by omega) fun r2 => ?_
    simp only [go_sem, hat0, hat]
    exact loopFr _ (by omega) ⟨i + 1, _, _, by omega, rfl, rfl, by rw [hnx]; dsimp only; rw [List.length_append]; rfl⟩ (.next rfl (by omega) .nil) rfl
  · rw [List.take_of_length_le (by omega)]
    simp only [go_sem]
    refine ⟨_, rfl, false, ?_⟩
    rw [DFlow.enc_eq]
    exact Weak.aggs ⟨.refl _, .tok _ _ _, .tok _ _ _, .tok _ _ _, .tok _ _ _, trivial⟩
abbrev flowsA (x : DFlows × Bool) : AV := .tup [x.1.enc, .b x.2]
theorem pure_flowsA (x : DFlows × Bool) : Go.Abs.Pure (flowsA x) := .tup _ (pure_cons (DFlows.pure _) (pure_cons (.raw _) pure_nil))

theorem flows10 (p : DProg) (hp : okProg p) : PCall Tryz.prog 10 [p.enc] (flowsA (normF p)) := by
  have hc := startCheck p hp
  have hen := hp.1
  have hpl := hp.2.1
  refine pcall_of_vc tabOK Tryz.func10 (by kernel_rfl) rfl (by first | exact pureL | exact pureI) (pure_flowsA _) (n := 50) rfl (rs := [.cell 2 30, .tmp 3]) rfl ?_
  by_cases h0 : (startF p).Err = 0
  · have hof := fun k n hn => of33 p k n hn h0 hp
    have hnl := nodesNm_len p p.Nodes 0
    have hnn := fun i n h => nodesNm_next p (l := p.Nodes) (i := i) (n := n) h
    rw [norm_ok h0]
    generalize nodesNm p 0 p.Nodes = N at hnl hnn
    generalize startF p = F at hc h0
    rw [DFault.enc_eq] at hc
    simp only [go_sem]
    refine PCall.call hc ?_
    simp only [go_sem]
    refine brK_dec (fun h => absurd h0 h) (fun _ => ?_)
    simp only [go_sem]
    intro _
    refine loop_ghost ((ghost_cell (t := 30) (cs := [.raw (.slice none 0 0), .raw (.slice none 0 0)]) 3 0 80 2 (by rfl) (by rfl)).trans (ghost_cell (t := 30) (cs := [.lst 2 [] (some 4), .raw (.slice none 0 0)]) 3 1 37 5 (by rfl) (by rfl))) ?_
    simp only [go_sem]
    refine loop_fr [7, 18, 19, 20, 21, 22, 23, 24, 25, 26, 27, 28, 29, 30, 31, 32, 33] (fun mm C hh => ∃ (i : Nat) (r' : List Blk), i ≤ p.Enums.length ∧ mm = p.Enums.length - i ∧ C = [(18, .raw (.int .i64 (i : Nat)))] ∧
      hh = .cells 25 [.lst 2 (p.Enums.map DEnum.enc) none, .lst 5 (p.Nodes.map DNode.enc) none] :: .cells 30 [.raw (.slice none 0 0), .raw (.slice none 0 0)] :: .cells 61 [.i F.Node, .i F.Eq, .i F.Err] ::
        .cells 30 [.lst 2 ((p.Enums.take i).map DEnum.enc) (some 4), .lst 5 [] (some 5)] :: .tok 80 2 i :: .tok 37 5 0 :: r') p.Enums.length _ ⟨0, [], by omega, by omega, rfl, rfl⟩ (.cons rfl .nil) ?_
    rintro mm C j hh ⟨i, r', hi, rfl, rfl, rfl⟩
    simp only [go_sem]
    refine brK_dec (fun hlt => ?_) (fun hge => ?_)
    · obtain ⟨e, he⟩ : ∃ e, p.Enums[i]? = some e := ⟨_, List.getElem?_eq_getElem (by omega)⟩
      have hel := (hen.2 e (List.mem_of_getElem? he)).1
      have hen8 := hen.1
      have hnx : (p.Enums.take (i + 1)).map DEnum.enc = (p.Enums.take i).map DEnum.enc ++ [e.enc] := by
        rw [List.take_add_one, he]
        simp
      have htl : (p.Enums.take i).length = i := by rw [List.length_take]; omega
      simp only [go_sem]
      refine elemHave (x := e) (by omega) (by simpa using he) ?_
      simp only [go_sem]
      refine drawZ mo (by kernel_rfl) rfl ?_
      simp only [List.dropLast_cons_cons, List.dropLast_singleton, List.getLast_cons_cons, List.getLast_singleton]
      simp only [go_sem]
      refine pcK_of (cloneS e.Ctors (by omega)) ?_
      simp only [go_sem]
      refine And.intro (by first | omega | (simp; done) | (simp; omega)) ?_
      exact loopFr _ (by omega) ⟨i + 1, _, by omega, rfl, rfl, by rw [hnx, DEnum.enc_eq]; simp; exact ⟨by omega, rfl⟩⟩ (.next rfl (by omega) .nil) rfl
    · obtain rfl : i = p.Enums.length := by omega
      rw [List.take_length]
      simp only [go_sem]
      intro _
      refine loop_fr [8, 37, 38, 39, 40, 41, 42, 43, 44, 45, 46, 47, 48] (fun mm C hh => ∃ (i : Nat) (r' : List Blk), i ≤ p.Nodes.length ∧ mm = p.Nodes.length - i ∧ C = [(37, .raw (.int .i64 (i : Nat)))] ∧
        hh = .cells 25 [.lst 2 (p.Enums.map DEnum.enc) none, .lst 5 (p.Nodes.map DNode.enc) none] :: .cells 30 [.raw (.slice none 0 0), .raw (.slice none 0 0)] :: .cells 61 [.i F.Node, .i F.Eq, .i F.Err] ::
          .cells 30 [.lst 2 (p.Enums.map DEnum.enc) (some 4), .lst 5 ((N.take i).map DFlow.enc) (some 5)] :: .tok 80 2 p.Enums.length :: .tok 37 5 i :: r') p.Nodes.length _ ⟨0, r', by omega, by omega, rfl, rfl⟩ (.cons rfl .nil) ?_
      rintro mm C j2 hh ⟨i, r2, hi, rfl, rfl, rfl⟩
      simp only [go_sem]
      refine brK_dec (fun hlt => ?_) (fun hge => ?_)
      · obtain ⟨n, hn⟩ : ∃ n, p.Nodes[i]? = some n := ⟨_, List.getElem?_eq_getElem (by omega)⟩
        have htl : (N.take i).length = i := by rw [List.length_take]; omega
        have hnx := hnn i n hn
        have ho := hof i n hn
        generalize flowNm p (i : Int) n = f at hnx ho
        simp only [go_sem]
        refine drawZ mo (by kernel_rfl) rfl ?_
        simp only [List.dropLast_cons_cons, List.dropLast_singleton, List.getLast_cons_cons, List.getLast_singleton]
        simp only [go_sem]
        refine pcK_of ho ?_
        simp only [go_sem]
        refine And.intro (by first | omega | (simp; done) | (simp; omega)) ?_
        exact loopFr _ (by omega) ⟨i + 1, _, by omega, rfl, rfl, by rw [hnx]; simp; exact ⟨by omega, rfl⟩⟩ (.next rfl (by omega) .nil) rfl
      · rw [List.take_of_length_le (by omega)]
        simp only [go_sem]
        refine ⟨_, rfl, false, ?_⟩
        show Weak _ (.tup [DFlows.enc _, .b true])
        rw [DFlows.enc_eq]
        exact Weak.tups2 ⟨Weak.aggs ⟨.tok _ _ _, .tok _ _ _, trivial⟩, .refl _, trivial⟩
  · rw [norm_no h0]
    generalize startF p = F at hc h0
    rw [DFault.enc_eq] at hc
    simp only [go_sem]
    refine PCall.call hc ?_
    simp only [go_sem]
    refine brK_dec (fun _ => ?_) (fun h => absurd h0 h)
    simp only [go_sem]
    refine ⟨_, rfl, false, ?_⟩
    show Weak _ (.tup [DFlows.enc _, .b false])
    rw [DFlows.enc_eq]
    exact Weak.tups2 ⟨Weak.aggs ⟨.nil _, .nil _, trivial⟩, .refl _, trivial⟩
/-! ### The page's example -/
abbrev lvX : Ex := .mk 3 0 ⟨#[120]⟩ 0 [] []
abbrev lvP : Ex := .mk 10 0 ⟨#[]⟩ 0 [] [lvX]
abbrev lvS : Ex := .mk 6 0 ⟨#[]⟩ 3 [] [lvP, .mk 1 1 ⟨#[]⟩ 0 [] []]
abbrev lvE : Ex := .mk 9 0 ⟨#[]⟩ 0 [] [.mk 1 0 ⟨#[]⟩ 0 [] [], lvS]
abbrev lvIn : DDecl := ⟨⟨#[120]⟩, ⟨1, 0, 0⟩, ⟨#[]⟩, ⟨#[]⟩⟩
abbrev lvOut : DDecl := ⟨⟨#[121]⟩, ⟨1, 0, 0⟩, ⟨#[]⟩, ⟨#[]⟩⟩
abbrev lvQ : DEq := ⟨[⟨#[121]⟩], lvE⟩
abbrev lvN : DNode := ⟨⟨#[102]⟩, [lvIn], [lvOut], [], [lvQ]⟩
abbrev lvG : DProg := ⟨[], [lvN]⟩
theorem lv_parts : parts lvE = [lvE, .mk 1 0 ⟨#[]⟩ 0 [] [], lvS, lvP, lvX, .mk 1 1 ⟨#[]⟩ 0 [] []] := by simp [parts, partsL]
theorem lv_ok : okE lvE := by
  constructor
  · rw [lv_parts]; decide
  · rw [lv_parts]; intro x hx
    simp only [List.mem_cons, List.not_mem_nil, or_false] at hx
    rcases hx with rfl | rfl | rfl | rfl | rfl | rfl <;> exact ⟨by decide, fun a ha => by simp [Ex.arms] at ha⟩
theorem lvG_ok : okProg lvG := by
  refine ⟨⟨by decide, by simp⟩, by decide, fun n hn => ?_⟩
  rw [List.mem_singleton.1 hn]
  refine ⟨⟨by decide, fun d hd => ?_⟩, ⟨by decide, fun d hd => ?_⟩, ⟨by decide, by simp⟩, by decide, by decide, fun q hq => ?_⟩
  · rw [List.mem_singleton.1 hd]; decide
  · rw [List.mem_singleton.1 hd]; decide
  · rw [List.mem_singleton.1 hq]
    exact ⟨by decide, lv_ok, fun s hs => by rw [List.mem_singleton.1 hs]; decide⟩
theorem lv120 : lowF ⟨#[120]⟩ = true := by decide +kernel
theorem lv121 : lowF ⟨#[121]⟩ = true := by decide +kernel
theorem lv102 : lowF ⟨#[102]⟩ = true := by decide +kernel
theorem lv_right : rightE lvE = true := by
  unfold rightE
  rw [lv_parts]
  simp [partE, numbersE, namedE, armsE, subsE, Ex.kind, Ex.op, Ex.n, Ex.name, Ex.arms, Ex.subs, lv120, depthE, depthL]
theorem lv_check : checkF lvG = 0 := by
  have h1 : enumsF [] = 0 := by
    unfold enumsF greatE rightEn
    simp [onceB_yes]
  have h2 : nodeF 0 lvN = true := by
    unfold nodeF bareN eqF declaredF bareF rightTyF
    simp [allV, lv120, lv121, lv102, lv_right]
  have h3 : onceN lvN = true := by
    unfold onceN
    exact onceB_yes (by simp [allV])
  have h4 : onceB [(⟨#[102]⟩ : ByteArray)] = true := onceB_yes (by simp)
  have h5 : greatF lvN = false := by decide +kernel
  unfold checkF
  simp [h1, h2, h3, h4, h5]
theorem lv_d1 : decl lvN ⟨#[120]⟩ = (lvIn, true) := by simp [decl, allV, declF]
theorem lv_d2 : decl lvN ⟨#[121]⟩ = (lvOut, true) := by simp [decl, allV, declF]
theorem lv_scope : scopeF lvG = ⟨0, 0, 0⟩ := by
  unfold scopeF
  rw [if_pos lv_check]
  have h1 : (allV lvN).all (clockedF [] lvN) = true := by simp [allV, clockedF]
  have h2 : (parts lvE).all (leadsF lvG 0 lvN) = true := by
    rw [lv_parts]
    simp [leadsF, isF, lv_d1, Ex.kind, Ex.arms, Ex.name]
  have h3 : namesErr lvN [] [⟨#[121]⟩] = 0 := by simp [namesErr, isF, lv_d2, inF, memB]
  have h4 : eqErr lvG 0 lvN [] lvQ = 0 := by
    unfold eqErr
    rw [if_pos h3, if_pos h2]
  have h5 : allDef lvN = true := by simp [allDef, memB]
  have h1a : clockedF [] lvN lvIn = true := by simp [clockedF]
  have h1b : clockedF [] lvN lvOut = true := by simp [clockedF]
  simp [nodesFault, nodeFault, h1, h1a, h1b, allV, eqsErr, h4, h5]
theorem lv_ofX : ofT lvG lvN lvX = some tyI := by
  rw [ofT_eq]
  simp [headP, Ex.kind, Ex.name, lv_d1, opt]
abbrev lvL (m : Int) : Ex := .mk 1 m ⟨#[]⟩ 0 [] []
theorem lv_rightL (m : Int) (hm : 0 ≤ m) : (rightE (lvL m) && constE (lvL m)) = true := by
  have hp : parts (lvL m) = [lvL m] := by simp [parts, partsL]
  unfold rightE
  rw [hp]
  simp [partE, numbersE, namedE, armsE, subsE, Ex.kind, Ex.op, Ex.n, Ex.name, Ex.arms, Ex.subs, depthE, depthL, constE, litE, hm]
theorem lv_constL (m : Int) (hm : 0 ≤ m) : constT [] (lvL m) = ([m], tyI, true) := by
  unfold constT
  rw [if_pos (lv_rightL m hm)]
  simp [Ex.kind, cellsT, litT, sameT, Ex.n]
theorem lv_ofL (m : Int) (hm : 0 ≤ m) : ofT lvG lvN (lvL m) = some tyI := by
  rw [ofT_eq]
  simp [headP, Ex.kind, lv_constL m hm, opt]
theorem lv_ofP : ofT lvG lvN lvP = some tyI := by
  rw [ofT_eq, ofL_map]
  simp [headP, Ex.kind, Ex.subs, lv_ofX, allS, flowT, opt]
theorem lv_ofS : ofT lvG lvN lvS = some tyI := by
  rw [ofT_eq, ofL_map]
  simp [headP, Ex.kind, Ex.subs, lv_ofP, lv_ofL, allS, plainT, binT, Ex.op, opt]
theorem lv_types : typesF lvG = ⟨0, 0, 0⟩ := by
  have h1 : (allV lvN).all (clkTy lvG lvN) = true := by simp [allV, clkTy]
  have h2 : toldP lvG lvN lvE = ([tyI], true) := by
    unfold toldP
    rw [if_neg (by decide), ofL_map]
    simp [headP, Ex.kind, Ex.subs, lv_ofS, lv_ofL, allS, flowT]
  have h3 : eqTy lvG lvN lvQ = true := by
    unfold eqTy
    rw [h2]
    simp [lv_d2]
    exact eqB_eq rfl
  have h1a : clkTy lvG lvN lvIn = true := by simp [clkTy]
  have h1b : clkTy lvG lvN lvOut = true := by simp [clkTy]
  unfold typesF
  rw [lv_scope, if_pos rfl]
  simp [firstF, nodeTy, h1, h1a, h1b, allV, firstE, h3]
theorem lv_clk (s : ByteArray) (d : DDecl) (h : decl lvN s = (d, true)) (hd : d.On = ⟨#[]⟩) : rowN [] lvN s = ([], true) := by
  have : clock lvN s = ([], true) := by
    unfold clock
    rw [clk_succ, h, if_pos rfl, if_pos hd]
  unfold rowN
  rw [this, if_pos rfl]
  simp [rowL]
theorem lv_fits : fitsF (rowN [] lvN) [] lvE [] = true := by
  have hx : fitsF (rowN [] lvN) [] lvX [] = true := by
    rw [fitsF_eq]
    simp [Ex.kind, Ex.name, lv_clk _ _ lv_d1 rfl]
    try exact eqB_eq rfl
  have hn : ∀ m, fitsF (rowN [] lvN) [] (lvL m) [] = true := fun m => by
    rw [fitsF_eq]
    simp [Ex.kind, fitsL, Ex.subs]
  have hp : fitsF (rowN [] lvN) [] lvP [] = true := by
    rw [fitsF_eq]
    simp [Ex.kind, fitsL, Ex.subs, hx]
  have hs : fitsF (rowN [] lvN) [] lvS [] = true := by
    rw [fitsF_eq]
    simp [Ex.kind, fitsL, Ex.subs, hp, hn]
  rw [fitsF_eq]
  simp [Ex.kind, fitsL, Ex.subs, hs, hn]
theorem lv_clock : clockF lvG = ⟨0, 0, 0⟩ := by
  have h1 : rowsOk [] lvN = true := by simp [rowsOk, allV, lv_clk _ _ lv_d1 rfl, lv_clk _ _ lv_d2 rfl]
  have h2 : eqCk [] lvN lvQ = true := by
    unfold eqCk
    simp [lv_clk _ _ lv_d2 rfl, lv_fits, eqB_eq]
  unfold clockF
  rw [lv_types, if_pos rfl]
  simp [firstF, nodeCk, h1, firstE, h2]
theorem lv_reads : readsF lvE = [] := by simp [readsF, readsL, mineK]
theorem lv_cause : causeF lvG = ⟨0, 0, 0⟩ := by
  have hc : clock lvN ⟨#[121]⟩ = ([], true) := by
    unfold clock
    rw [clk_succ, lv_d2, if_pos rfl, if_pos rfl]
  have h1 : hangsC lvN = [[]] := by simp [hangsF, lv_reads, hc]
  have h2 : orderF (namesC lvN) (hangsC lvN) = ([0], true) := by
    rw [h1]
    decide +kernel
  have h3 : nodeCa 0 lvN = ⟨0, 0, 0⟩ := by
    unfold nodeCa
    rw [h2, if_pos rfl]
  unfold causeF
  rw [lv_clock, if_pos rfl]
  simp [firstF, h3]
theorem lv_start : (startF lvG).Err = 0 := by
  have h1 : lt lvE = (false, true) := by simp [lt, ltL, ltH, ltK]
  have h2 : eqSt lvQ = true := by unfold eqSt; rw [show lvQ.E = lvE from rfl, h1]; rfl
  have h3 : nodeSt 0 lvN = ⟨0, 0, 0⟩ := by simp [nodeSt, firstE, h2]
  unfold startF
  rw [lv_cause, if_pos rfl]
  simp [firstF, h3]
abbrev lvA (j : Nat) : DAtom := ⟨nmN ⟨#[121]⟩ j, 0⟩
theorem lv_row : rowOn lvG 0 ⟨#[121]⟩ = [] := by
  unfold rowOn rowF
  simp [nodeAt, lv_clk _ _ lv_d2 rfl]
theorem lv_map : (flowNm lvG 0 lvN).Eqs.map (fun q => (q.Names, q.Args)) = [([nmN ⟨#[121]⟩ 1], [noAtom]), ([nmN ⟨#[121]⟩ 2], [⟨⟨#[120]⟩, 0⟩]), ([nmN ⟨#[121]⟩ 3], [lvA 2, ⟨⟨#[]⟩, 1⟩]), ([⟨#[121]⟩], [lvA 1, noAtom, lvA 3])] := by
  simp [flowNm, eqsNm, eqNm, eqPl, lv_row, plainN_eq, frstN, argsN, eachN_cons, eachN_nil, atomN, leafK, leafA, headN, freshN, onN, Ex.kind, Ex.subs, Ex.name, Ex.n, Ex.op, Ex.arms, plain0]
theorem lv_eqs : ∃ q0 q1 q2 q3 : DPlain, (flowNm lvG 0 lvN).Eqs = [q0, q1, q2, q3] ∧ q0.Names = [nmN ⟨#[121]⟩ 1] ∧ q2.Names = [nmN ⟨#[121]⟩ 3] ∧ q3.Args = [lvA 1, noAtom, lvA 3] := by
  have h := lv_map
  generalize (flowNm lvG 0 lvN).Eqs = l at h
  rcases l with _ | ⟨a, _ | ⟨b, _ | ⟨c, _ | ⟨d, _ | ⟨x, l⟩⟩⟩⟩⟩ <;> simp only [List.map_cons, List.map_nil, List.cons.injEq, Prod.mk.injEq, and_true, reduceCtorEq, and_false] at h
  exact ⟨a, b, c, d, rfl, h.1.1, h.2.2.1.1, h.2.2.2.2⟩
def okArgs (q : DPlain) (i : Nat) (acc : List ByteArray) : Prop := acc = (if q.Kind = 5 then [] else (q.Args.take i).map DAtom.Var)
theorem okArgs.zero {q : DPlain} : okArgs q 0 [] := by simp [okArgs]
theorem okArgs.next {q : DPlain} {i : Nat} {acc : List ByteArray} {x : DAtom} (h : okArgs q i acc) (hk : ¬ q.Kind = 5) (hx : q.Args[((i : Nat) : Int).toNat]? = some x) : okArgs q (i + 1) (acc ++ [x.Var]) := by
  unfold okArgs at h ⊢
  rw [if_neg hk] at h ⊢
  rw [take_mapS hx, h]
theorem okArgs.done {q : DPlain} {i : Nat} {acc : List ByteArray} (h : okArgs q i acc) (hi : i ≤ q.Args.length) (he : ¬ (i : Int) < q.Args.length ∨ ¬ q.Kind ≠ 5) : acc = argsP q := by
  unfold okArgs at h
  unfold argsP
  rw [h]
  by_cases e : q.Kind = 5
  · rw [if_pos e, if_pos e]
  · rw [if_neg e, if_neg e, List.take_of_length_le (by omega)]
def okOn (q : DPlain) (i : Nat) (acc : List ByteArray) : Prop := acc = argsP q ++ ((if q.Reset = true then [q.Every.Var] else []) ++ (q.On.take i).map DCond.Var)
theorem okOn.zeroT {q : DPlain} {i : Nat} {acc : List ByteArray} (h : okArgs q i acc) (hi : i ≤ q.Args.length) (he : ¬ (i : Int) < q.Args.length ∨ ¬ q.Kind ≠ 5) (hr : q.Reset = true) : okOn q 0 (acc ++ [q.Every.Var]) := by
  rw [okOn, h.done hi he, if_pos hr]; simp
theorem okOn.zeroF {q : DPlain} {i : Nat} {acc : List ByteArray} (h : okArgs q i acc) (hi : i ≤ q.Args.length) (he : ¬ (i : Int) < q.Args.length ∨ ¬ q.Kind ≠ 5) (hr : q.Reset = false) : okOn q 0 acc := by
  rw [okOn, h.done hi he, hr]; simp
theorem okOn.next {q : DPlain} {i : Nat} {acc : List ByteArray} {x : DCond} (h : okOn q i acc) (hx : q.On[((i : Nat) : Int).toNat]? = some x) : okOn q (i + 1) (acc ++ [x.Var]) := by
  unfold okOn at h ⊢
  rw [take_mapS hx, h]
  simp [List.append_assoc]
theorem okOn.done {q : DPlain} {i : Nat} {acc : List ByteArray} (h : okOn q i acc) (hi : ¬ (i : Int) < q.On.length) : acc = rawP q := by
  rw [h, List.take_of_length_le (by omega)]
  rfl

def okF (l : List ByteArray) (k : Nat) (out : List ByteArray) : Prop := out = (l.take k).filter (fun s => decide (¬ s = ⟨#[]⟩)) ∧ out.length ≤ k
theorem okF.zero {l : List ByteArray} : okF l 0 [] := ⟨by simp, by simp⟩
theorem okF.next {l : List ByteArray} {k : Nat} {out : List ByteArray} {x : ByteArray} (h : okF l k out) (hx : l[((k : Nat) : Int).toNat]? = some x) (hn : ¬ x = ⟨#[]⟩) : okF l (k + 1) (out ++ [x]) :=
  ⟨by rw [take_filtT hx (by simpa using hn), h.1], by have := h.2; simp; omega⟩
theorem okF.skip {l : List ByteArray} {k : Nat} {out : List ByteArray} {x : ByteArray} (h : okF l k out) (hx : l[((k : Nat) : Int).toNat]? = some x) (hn : ¬ ¬ x = ⟨#[]⟩) : okF l (k + 1) out :=
  ⟨by rw [take_filtF hx (by simpa using hn), h.1], by have := h.2; omega⟩
theorem okF.done {l : List ByteArray} {k : Nat} {out : List ByteArray} {q : DPlain} (h : okF l k out) (hk : ¬ (k : Int) < l.length) (hl : l = rawP q) : readsP q = out := by
  rw [h.1, List.take_of_length_le (by omega), hl]
  rfl

abbrev plainB (q : DPlain) : Blk := .cells 53 [.i q.Kind, .lst 1 (q.Names.map AV.s) none, .i q.Op, .lst 2 (q.Args.map DAtom.enc) none, .lst 1 (q.Init.map AV.i) none, .i q.Node, .b q.Reset, .s q.Every.Var, .i q.Every.N, .lst 2 (q.On.map DCond.enc) none]

def addF (acc : List ByteArray) (m : ByteArray) : List ByteArray := if m = ⟨#[]⟩ then acc else acc ++ [m]
theorem addF_filt (l : List ByteArray) (m : ByteArray) : (l ++ [m]).filter (fun s => decide (¬ s = ⟨#[]⟩)) = addF (l.filter (fun s => decide (¬ s = ⟨#[]⟩))) m := by
  unfold addF
  rw [List.filter_append]
  by_cases e : m = ⟨#[]⟩
  · simp [e]
  · simp [e]
theorem addF_le (l : List ByteArray) (m : ByteArray) : (addF l m).length ≤ l.length + 1 := by unfold addF; split <;> simp
def okN (q : DPlain) (i : Nat) (acc : List ByteArray) : Prop := acc = (if q.Kind = 5 then [] else (q.Args.take i).map DAtom.Var).filter (fun s => decide (¬ s = ⟨#[]⟩)) ∧ acc.length ≤ i
theorem okN.zero {q : DPlain} : okN q 0 [] := ⟨by simp, by simp⟩
theorem okN.next {q : DPlain} {i : Nat} {acc : List ByteArray} {x : DAtom} (h : okN q i acc) (hk : ¬ q.Kind = 5) (hx : q.Args[((i : Nat) : Int).toNat]? = some x) : okN q (i + 1) (addF acc x.Var) := by
  obtain ⟨h1, h2⟩ := h
  refine ⟨?_, by have := addF_le acc x.Var; omega⟩
  rw [if_neg hk] at h1 ⊢
  rw [take_mapS hx, addF_filt, h1]
theorem okN.skip {q : DPlain} {i : Nat} {acc : List ByteArray} (h : okN q i acc) (hk : ¬ q.Kind ≠ 5) : okN q (i + 1) acc := by
  obtain ⟨h1, h2⟩ := h
  have hk' : q.Kind = 5 := by omega
  refine ⟨?_, by omega⟩
  rw [if_pos hk'] at h1 ⊢
  exact h1
theorem okN.done {q : DPlain} {i : Nat} {acc : List ByteArray} (h : okN q i acc) (hi : ¬ (i : Int) < q.Args.length) : acc = (argsP q).filter (fun s => decide (¬ s = ⟨#[]⟩)) := by
  rw [h.1, List.take_of_length_le (by omega)]
  rfl
def okM (q : DPlain) (j : Nat) (acc : List ByteArray) : Prop := acc = (argsP q ++ ((if q.Reset = true then [q.Every.Var] else []) ++ (q.On.take j).map DCond.Var)).filter (fun s => decide (¬ s = ⟨#[]⟩)) ∧ acc.length ≤ q.Args.length + 1 + j
theorem okM.zeroT {q : DPlain} {i : Nat} {acc : List ByteArray} (h : okN q i acc) (hi : i ≤ q.Args.length) (he : ¬ (i : Int) < q.Args.length) (hr : q.Reset = true) : okM q 0 (addF acc q.Every.Var) := by
  refine ⟨?_, by have := addF_le acc q.Every.Var; have := h.2; omega⟩
  rw [h.done he, if_pos hr, ← addF_filt]; simp
theorem okM.zeroF {q : DPlain} {i : Nat} {acc : List ByteArray} (h : okN q i acc) (hi : i ≤ q.Args.length) (he : ¬ (i : Int) < q.Args.length) (hr : q.Reset = false) : okM q 0 acc := by
  refine ⟨?_, by have := h.2; omega⟩
  rw [h.done he, hr]; simp
theorem okM.next {q : DPlain} {i : Nat} {acc : List ByteArray} {x : DCond} (h : okM q i acc) (hx : q.On[((i : Nat) : Int).toNat]? = some x) : okM q (i + 1) (addF acc x.Var) := by
  refine ⟨?_, by have := addF_le acc x.Var; have := h.2; omega⟩
  rw [take_mapS hx, h.1, ← addF_filt]
  simp [List.append_assoc]
theorem okM.done {q : DPlain} {i : Nat} {acc : List ByteArray} (h : okM q i acc) (hi : ¬ (i : Int) < q.On.length) : readsP q = acc := by
  rw [h.1, List.take_of_length_le (by omega)]
  rfl

abbrev accB (acc : List ByteArray) : Blk := .cells 46 [.lst 1 (acc.map AV.s) (some 2)]

theorem need140 (m : ByteArray) (b0 : Blk) (acc : List ByteArray) (r : List Blk) {K : AV → List Blk → Prop} (hl : acc.length ≤ 1000000) (hK : ∀ r', K (.tup []) (b0 :: accB (addF acc m) :: .tok 9 1 (addF acc m).length :: r')) :
    ACall Tryz.prog 43 [.s m, .ptr 1 0] (b0 :: accB acc :: .tok 9 1 acc.length :: r) K := by
  unfold addF at hK
  refine acallK_of_vc tabOK Tryz.func43 (by kernel_rfl) rfl (n := 9) rfl (rs := []) rfl ?_
  repeat' first
    | exact finB rfl
    | exact finI rfl
    | exact finP rfl
    | exact absurd rfl (by assumption)
    | simp only [go_sem]
    | (intro _)
    | refine brK_dec (fun _ => ?_) (fun _ => ?_)
    | refine brK_any ?_ ?_
    | refine gK_dec (fun _ => ?_) (fun _ => ?_)
    | refine gK_any ?_ ?_
    | refine gqK_dec (fun _ => ?_) (fun _ => ?_)
    | refine ⟨by omega, ?_⟩
    | refine elemHave (by omega) (by assumption) ?_
    | refine elemMap (by omega) (by omega) (fun x hx => ?_)
    | refine drawK mo (by kernel_rfl) ?_
    | (simp only [map_snoc])
    | (refine ⟨⟨by simp, by simp; omega⟩, ?_⟩)
    | (refine ⟨by simp; omega, ?_⟩)
    | (rw [if_neg (by assumption)] at hK; refine ⟨[], rfl, .tup [], .refl _, ?_⟩; have h9 := hK (r ++ [Blk.tok 9 1 1]); simpa [accB] using h9)
    | (rw [if_pos (Classical.not_not.1 (by assumption))] at hK; exact ⟨[], rfl, .tup [], .refl _, hK _⟩)

theorem sameAtoms (l m : List DAtom) : PCall Tryz.prog 30 [.lst 2 (l.map (DAtom.enc)) none, .lst 2 (m.map (DAtom.enc)) none] (.b (eqB l m)) := by
  refine pcall_of_vc tabOK Tryz.func30 (by kernel_rfl) rfl pureL pureI (n := 26) rfl (rs := [.tmp 4]) rfl ?_
  repeat' first
    | exact finB rfl
    | exact finI rfl
    | exact finP rfl
    | exact absurd rfl (by assumption)
    | simp only [go_sem]
    | (intro _)
    | refine brK_dec (fun _ => ?_) (fun _ => ?_)
    | refine brK_any ?_ ?_
    | refine gK_dec (fun _ => ?_) (fun _ => ?_)
    | refine gK_any ?_ ?_
    | refine gqK_dec (fun _ => ?_) (fun _ => ?_)
    | refine ⟨by omega, ?_⟩
    | refine elemHave (by omega) (by assumption) ?_
    | refine elemMap (by omega) (by omega) (fun x hx => ?_)
    | refine drawK mo (by kernel_rfl) ?_
    | (rw [eqB_ne (len_ne (l := l) (m := m) (by omega))]; exact ⟨_, rfl, false, .refl _⟩)
    | (rw [eqB_ne (at_ne (l := l) (m := m) (i := i) (by assumption) (by assumption) (by assumption))]; exact ⟨_, rfl, false, .refl _⟩)
    | (rw [eqB_eq (take_eq_full (l := l) (m := m) (i := i) (by omega) hpi (by omega))]; exact ⟨_, rfl, false, .refl _⟩)
    | exact loopFrH _ (by omega) ⟨i + 1, by omega, rfl, take_eq_step hpi (by assumption) (by assumption) (by assumption), rfl⟩ (.next rfl (by omega) .nil) rfl
    | (refine loop_frH [4, 5, 11, 12, 13, 14, 15, 16, 17, 18, 19, 20, 21, 22, 23, 24, 25] (fun mm_ CC_ => ∃ (i : Nat), i ≤ l.length ∧ mm_ = l.length - i ∧ (l.take i = m.take i) ∧ CC_ = [(5, .raw (.int .i64 ((i : Nat) : Int)))]) (l.length) _ ⟨0, by omega, by omega, rfl, rfl⟩ (.cons rfl .nil) ?_; rintro mm_ CC_ ji ⟨i, hi, rfl, hpi, rfl⟩)

theorem sameConds (l m : List DCond) : PCall Tryz.prog 21 [.lst 2 (l.map (DCond.enc)) none, .lst 2 (m.map (DCond.enc)) none] (.b (eqB l m)) := by
  refine pcall_of_vc tabOK Tryz.func21 (by kernel_rfl) rfl pureL pureI (n := 26) rfl (rs := [.tmp 4]) rfl ?_
  repeat' first
    | exact finB rfl
    | exact finI rfl
    | exact finP rfl
    | exact absurd rfl (by assumption)
    | simp only [go_sem]
    | (intro _)
    | refine brK_dec (fun _ => ?_) (fun _ => ?_)
    | refine brK_any ?_ ?_
    | refine gK_dec (fun _ => ?_) (fun _ => ?_)
    | refine gK_any ?_ ?_
    | refine gqK_dec (fun _ => ?_) (fun _ => ?_)
    | refine ⟨by omega, ?_⟩
    | refine elemHave (by omega) (by assumption) ?_
    | refine elemMap (by omega) (by omega) (fun x hx => ?_)
    | refine drawK mo (by kernel_rfl) ?_
    | (rw [eqB_ne (len_ne (l := l) (m := m) (by omega))]; exact ⟨_, rfl, false, .refl _⟩)
    | (rw [eqB_ne (at_ne (l := l) (m := m) (i := i) (by assumption) (by assumption) (by assumption))]; exact ⟨_, rfl, false, .refl _⟩)
    | (rw [eqB_eq (take_eq_full (l := l) (m := m) (i := i) (by omega) hpi (by omega))]; exact ⟨_, rfl, false, .refl _⟩)
    | exact loopFrH _ (by omega) ⟨i + 1, by omega, rfl, take_eq_step hpi (by assumption) (by assumption) (by assumption), rfl⟩ (.next rfl (by omega) .nil) rfl
    | (refine loop_frH [4, 5, 11, 12, 13, 14, 15, 16, 17, 18, 19, 20, 21, 22, 23, 24, 25] (fun mm_ CC_ => ∃ (i : Nat), i ≤ l.length ∧ mm_ = l.length - i ∧ (l.take i = m.take i) ∧ CC_ = [(5, .raw (.int .i64 ((i : Nat) : Int)))]) (l.length) _ ⟨0, by omega, by omega, rfl, rfl⟩ (.cons rfl .nil) ?_; rintro mm_ CC_ ji ⟨i, hi, rfl, hpi, rfl⟩)

theorem weak_tkN {sz : Nat} {es ds : List AV} {k : Nat} (h : es = ds) : Weak (.lst sz es (some k)) (.lst sz ds none) := h ▸ .tok _ _ _

theorem live21 : PCall Tryz.prog 9 [] (.b true) := by
  have hf := flows10 lvG lvG_ok
  rw [norm_ok lv_start] at hf
  refine pcall_of_vc tabOK Tryz.func9 (by kernel_rfl) rfl pureL pureI (n := 84) rfl (rs := [.tmp 0]) rfl ?_
  simp only [go_sem]
  refine PCall.callW hf ⟨?_, trivial⟩ ?_
  · rw [DProg.enc_eq]
    refine Weak.aggs ⟨.nil _, ?_, trivial⟩
    refine Weak.lsts (by simp) (by intro e he; obtain ⟨x, _, rfl⟩ := List.mem_map.1 he; rw [DNode.enc_cells]; rfl) ?_
    show WeakL _ (flat [lvN.enc])
    rw [DNode.enc_eq]
    refine ⟨.refl _, weak_tkN (by simp [DDecl.enc_eq]), weak_tkN (by simp [DDecl.enc_eq]), .nil _, ?_, trivial⟩
    refine Weak.lsts (by simp) (by intro e he; obtain ⟨x, _, rfl⟩ := List.mem_map.1 he; rw [DEq.enc_cells]; rfl) ?_
    show WeakL _ (flat [lvQ.enc])
    rw [DEq.enc_eq]
    refine ⟨weak_tkN (by simp), .refl _, .refl _, .refl _, .refl _, .nil _, ?_, trivial⟩
    repeat' first | exact trivial | exact .nil _ | exact .refl _ | exact .tok _ _ _ | refine ⟨?_, ?_⟩ | refine weak_ex ?_ ?_ | refine weak_subs rfl ?_ | simp only [flat_nil, flat_agg, flat_ex, flat_ex0, enc_cells, List.cons_append, List.nil_append, Ex.kind, Ex.n, Ex.name, Ex.op, Ex.arms, Ex.subs]
  obtain ⟨q0, q1, q2, q3, he, e0, e2, e3⟩ := lv_eqs
  have hn1 : (⟨#[121, 46, 49]⟩ : ByteArray) = nmN ⟨#[121]⟩ 1 := by decide +kernel
  have hn3 : (⟨#[121, 46, 51]⟩ : ByteArray) = nmN ⟨#[121]⟩ 3 := by decide +kernel
  have hns : nodesNm lvG 0 lvG.Nodes = [flowNm lvG 0 lvN] := rfl
  rw [hns]
  generalize flowNm lvG 0 lvN = f at he
  repeat' first
    | simp only [go_sem, he, e0, e2, e3]
    | (intro _)
    | refine gK_dec (fun _ => ?_) (fun _ => ?_)
    | refine brK_dec (fun _ => ?_) (fun _ => ?_)
    | (exfalso; omega)
    | refine elemK _ (by omega) rfl ?_
    | (refine PCall.callW (namesStr [nmN ⟨#[121]⟩ 1] [nmN ⟨#[121]⟩ 1]) ⟨.refl _, weak_tkN (by rw [← hn1]; rfl), trivial⟩ ?_; rw [eqB_eq rfl])
    | (refine PCall.callW (namesStr [nmN ⟨#[121]⟩ 3] [nmN ⟨#[121]⟩ 3]) ⟨.refl _, weak_tkN (by rw [← hn3]; rfl), trivial⟩ ?_; rw [eqB_eq rfl])
    | (refine PCall.callW (sameAtoms [lvA 1, noAtom, lvA 3] [lvA 1, noAtom, lvA 3]) ⟨by simp only [List.map_cons, List.map_nil]; exact .refl _, weak_tkN (by simp only [List.map_cons, List.map_nil, DAtom.enc_eq, ← hn1, ← hn3]), trivial⟩ ?_; rw [eqB_eq rfl])
    | exact finBq rfl rfl
end Go.Proofs.YtpamokpmlplopaaGreatDoor

namespace Go.Proofs.YtpamokpmlplopaaGreatDoor
open Go.Abs
set_option maxRecDepth 20000
set_option linter.unusedSimpArgs false
set_option linter.unusedVariables false
set_option maxHeartbeats 1000000
attribute [local irreducible] vc vcOps vcStep vcGuard prK hrK gK gsK brK callK ElemK SeqK BlockK ScopeK OpsK CallK LoopK LoopGo finPost ACall PCall PCallE BCall vqOps vqStep vqGuard qrK heK pcK gqK gqsK QOpsK qcallK DrawK
section
variable (nm : Nat → ByteArray) (ty : Ex → DTy) (cn : Ex → List Int) (va : ByteArray → Int) (fi : ByteArray → Int)
def szQ (q : DPlain) : Prop := q.Names.length ≤ 20 ∧ q.Args.length ≤ 1001 ∧ q.On.length ≤ 1000
def SzS (st st' : NmSt) : Prop := ∀ q ∈ st'.eqs, q ∈ st.eqs ∨ szQ q
theorem SzS.refl (st : NmSt) : SzS st st := fun _ h => .inl h
theorem SzS.trans {a b c : NmSt} (h : SzS a b) (h2 : SzS b c) : SzS a c := fun q hq => by
  rcases h2 q hq with h3 | h3
  · exact h q h3
  · exact .inr h3
theorem SzS.fresh {q : DPlain} {t : DTy} {on : List DCond} {st : NmSt} (hq : q.Args.length ≤ 1001) (ho : on.length ≤ 1000) : SzS st (freshN nm q t on st).2 := fun x hx => by
  unfold freshN at hx
  rcases List.mem_append.1 hx with hx | hx
  · exact .inl hx
  · rw [List.mem_singleton.1 hx]
    exact .inr ⟨by simp, hq, ho⟩
theorem head_args (e : Ex) (ats : List DAtom) (frst : DAtom) : (headN ty cn va fi e ats frst).Args.length ≤ ats.length + 1 := by
  have key : ∀ (c : Prop) [Decidable c] (x y : DPlain), x.Args.length ≤ ats.length + 1 → y.Args.length ≤ ats.length + 1 → (if c then x else y).Args.length ≤ ats.length + 1 := by
    intro c _ x y a b
    split
    · exact a
    · exact b
  unfold headN
  repeat' first
    | refine key _ _ _ ?_ ?_
    | (simp [plain0]; done)
    | (simp [plain0]; omega)
def SzE (e : Ex) : Prop := ∀ on st, on.length + (parts e).length ≤ 1000 → SzS st (plainN nm ty cn va fi e on st).2 ∧ (plainN nm ty cn va fi e on st).1.Args.length ≤ 1001
theorem atom_sz {x : Ex} (h : SzE nm ty cn va fi x) {on : List DCond} (ho : on.length + (parts x).length ≤ 1000) (st : NmSt) : SzS st (atomN nm ty cn va fi x on st).2 := by
  unfold atomN
  split
  · exact SzS.refl st
  · obtain ⟨h1, h2⟩ := h on st ho
    exact h1.trans (SzS.fresh nm h2 (by omega))
theorem each_sz {l : List Ex} (h : ∀ x ∈ l, SzE nm ty cn va fi x) {on : List DCond} (ho : on.length + (partsL l).length ≤ 1000) : ∀ st, SzS st (eachN nm ty cn va fi l on st).2 := by
  induction l with
  | nil => intro st; rw [eachN_nil]; exact SzS.refl st
  | cons x l ih =>
    intro st
    rw [partsL, List.length_append] at ho
    rw [eachN_cons]
    exact (atom_sz nm ty cn va fi (h x List.mem_cons_self) (by omega) st).trans (ih (fun y hy => h y (List.mem_cons_of_mem _ hy)) (by omega) _)
theorem merge_sz {m : ByteArray} {l : List Ex} (h : ∀ x ∈ l, SzE nm ty cn va fi x) {on : List DCond} (ho : on.length + 1 + (partsL l).length ≤ 1000) : ∀ (cs : List ByteArray) st, SzS st (mergeN nm ty cn va fi m cs l on st).2 ∧ (mergeN nm ty cn va fi m cs l on st).1.length ≤ l.length := by
  induction l with
  | nil => intro cs st; rw [mergeN]; exact ⟨SzS.refl st, by simp⟩
  | cons x l ih =>
    intro cs st
    cases cs with
    | nil => rw [mergeN]; exact ⟨SzS.refl st, by simp⟩
    | cons c cs =>
      rw [partsL, List.length_append] at ho
      rw [mergeN_cons]
      obtain ⟨i1, i2⟩ := ih (fun y hy => h y (List.mem_cons_of_mem _ hy)) (by omega) cs (atomN nm ty cn va fi x (on ++ [⟨m, va c⟩]) st).2
      exact ⟨(atom_sz nm ty cn va fi (h x List.mem_cons_self) (by rw [List.length_append, List.length_singleton]; omega) st).trans i1, by simpa using i2⟩
theorem plain_sz (e : Ex) : SzE nm ty cn va fi e := by
  induction e using Ex.ind with
  | _ e ih =>
  intro on st ho
  rw [parts_lenC] at ho
  have hsl := subs_le2 e.subs
  rw [plainN_eq]
  have hf : SzS st (frstN nm e on st).2 := by
    unfold frstN
    split
    · exact SzS.fresh nm (by simp [plain0]) (by omega)
    · exact SzS.refl st
  have ha : SzS (frstN nm e on st).2 (argsN nm ty cn va fi e on (frstN nm e on st).2).2 ∧ (argsN nm ty cn va fi e on (frstN nm e on st).2).1.length ≤ 1000 := by
    generalize (frstN nm e on st).2 = st1
    unfold argsN
    split
    · obtain ⟨m1, m2⟩ := merge_sz nm ty cn va fi (m := e.name) ih (on := on) (by omega) e.arms st1
      exact ⟨m1, by omega⟩
    · split
      · have hpr : (partsL (e.subs.drop 1)).length ≤ (partsL e.subs).length := by
          generalize e.subs = l
          cases l with
          | nil => simp
          | cons x l => rw [partsL, List.length_append]; simp
        exact ⟨each_sz nm ty cn va fi (fun x hx => ih x (List.mem_of_mem_drop hx)) (by omega) st1, by rw [eachN_len, List.length_drop]; omega⟩
      · refine ⟨each_sz nm ty cn va fi ih ?_ st1, by rw [eachN_len]; omega⟩
        unfold onN
        split
        · rw [List.length_dropLast]; omega
        · omega
  refine ⟨hf.trans ha.1, ?_⟩
  have := head_args ty cn va fi e (argsN nm ty cn va fi e on (frstN nm e on st).2).1 (frstN nm e on st).1
  dsimp only
  omega
end
theorem eqs_sz {p : DProg} {k : Nat} {n : DNode} (h : ∀ q ∈ n.Eqs, EqW p k n q) (hn : p.Nodes[k]? = some n) (v0 : List DVar) : ∀ i, i ≤ n.Eqs.length → ∀ q ∈ (eqsNm p (k : Int) (v0, []) (n.Eqs.take i)).2, szQ q
  | 0, _ => by simp [eqsNm]
  | i + 1, hi => by
    have ih := eqs_sz h hn v0 i (by omega)
    obtain ⟨x, hx⟩ : ∃ x, n.Eqs[i]? = some x := ⟨_, List.getElem?_eq_getElem (by omega)⟩
    rw [eqsNm_next p (k : Int) hx]
    generalize eqsNm p (k : Int) (v0, []) (n.Eqs.take i) = st at ih
    have hw := h x (List.mem_of_getElem? hx)
    have h60 : (parts x.E).length ≤ 60 := by
      have := hw.right
      unfold rightE at this
      simp only [Bool.and_eq_true, decide_eq_true_eq] at this
      exact this.1.1
    have hon := rowN_len p.Enums n (x.Names.headD ⟨#[]⟩)
    rw [← rowOn_w hn] at hon
    obtain ⟨s1, s2⟩ := plain_sz (nmN (x.Names.headD ⟨#[]⟩)) (tyN p (k : Int)) (cnN p) (vaN p) (fiN p) x.E (rowOn p (k : Int) (x.Names.headD ⟨#[]⟩)) ⟨st.1, st.2, 0⟩ (by omega)
    intro q hq
    unfold eqNm eqPl at hq
    rcases List.mem_append.1 hq with hq | hq
    · rcases s1 q hq with h1 | h1
      · exact ih q h1
      · exact h1
    · rw [List.mem_singleton.1 hq]
      exact ⟨hw.ok.1, s2, by dsimp only; omega⟩
theorem flow_sz {p : DProg} (hs : (startF p).Err = 0) (hp : okProg p) {k : Nat} {n : DNode} (hn : p.Nodes[k]? = some n) : (∀ q ∈ (flowNm p (k : Int) n).Eqs, szQ q) ∧ (flowNm p (k : Int) n).Eqs.length ≤ 2700 ∧ (flowNm p (k : Int) n).Ins.length ≤ 20 ∧ (flowNm p (k : Int) n).Outs.length ≤ 20 ∧ (flowNm p (k : Int) n).Vars.length ≤ 2720 := by
  have hw := eqs_w hs hp hn
  have hno := hp.2.2 n (List.mem_of_getElem? hn)
  have h1 := eqs_sz hw hn (n.Vars.map (varNm p (k : Int))) n.Eqs.length (Nat.le_refl _)
  have h2 := eqs_len hw (n.Vars.map (varNm p (k : Int))) n.Eqs.length (Nat.le_refl _)
  rw [List.take_length] at h1 h2
  rw [List.length_map] at h2
  have a1 := hno.1.1
  have a2 := hno.2.1.1
  have a3 := hno.2.2.1.1
  have a4 := hno.2.2.2.1
  refine ⟨h1, ?_, by show (n.Ins.map _).length ≤ 20; rw [List.length_map]; omega, by show (n.Outs.map _).length ≤ 20; rw [List.length_map]; omega, ?_⟩
  · show (eqsNm p (k : Int) (n.Vars.map (varNm p (k : Int)), []) n.Eqs).2.length ≤ 2700
    omega
  · show (eqsNm p (k : Int) (n.Vars.map (varNm p (k : Int)), []) n.Eqs).1.length ≤ 2720
    omega
end Go.Proofs.YtpamokpmlplopaaGreatDoor

namespace Go.Proofs.YtpamokpmlplopaaGreatDoor
open Go.Abs
set_option maxRecDepth 20000
set_option linter.unusedSimpArgs false
set_option linter.unusedVariables false
set_option maxHeartbeats 1000000
attribute [local irreducible] vc vcOps vcStep vcGuard prK hrK gK gsK brK callK ElemK SeqK BlockK ScopeK OpsK CallK LoopK LoopGo finPost ACall PCall PCallE BCall vqOps vqStep vqGuard qrK heK pcK gqK gqsK QOpsK qcallK DrawK
/-! ### What is laid -/
section
variable (D : ByteArray → Prop) (nm : Nat → ByteArray) (ty : Ex → DTy) (cn : Ex → List Int) (va : ByteArray → Int) (fi : ByteArray → Int)
/-- A variable: declared, or one of the first k fresh ones. -/
def Vn (k : Nat) (s : ByteArray) : Prop := D s ∨ ∃ j, 1 ≤ j ∧ j ≤ k ∧ s = nm j
def okA (k : Nat) (a : DAtom) : Prop := a.Var = ⟨#[]⟩ ∨ Vn D nm k a.Var
def goodP (k : Nat) (q : DPlain) : Prop := (∀ a ∈ q.Args, okA D nm k a) ∧ okA D nm k q.Every
theorem Vn.mono {k k' : Nat} {s : ByteArray} (h : Vn D nm k s) (hk : k ≤ k') : Vn D nm k' s := by
  rcases h with h | ⟨j, h1, h2, h3⟩
  · exact .inl h
  · exact .inr ⟨j, h1, by omega, h3⟩
theorem okA.mono {k k' : Nat} {a : DAtom} (h : okA D nm k a) (hk : k ≤ k') : okA D nm k' a := h.imp id fun h => h.mono D nm hk
theorem goodP.mono {k k' : Nat} {q : DPlain} (h : goodP D nm k q) (hk : k ≤ k') : goodP D nm k' q := ⟨fun a ha => (h.1 a ha).mono D nm hk, h.2.mono D nm hk⟩
theorem okA_no (k : Nat) (n : Int) : okA D nm k ⟨⟨#[]⟩, n⟩ := .inl rfl
structure Grw (st st' : NmSt) (vs : List DVar) (es : List DPlain) : Prop where
  vars : st'.vars = st.vars ++ vs
  eqs : st'.eqs = st.eqs ++ es
  num : st'.k = st.k + vs.length
  name : vs.map DVar.Name = (List.range' (st.k + 1) vs.length).map nm
  tell : es.map (fun q => (q.Names, q.On)) = vs.map fun v => ([v.Name], v.On)
  good : ∀ q ∈ es, goodP D nm st'.k q ∧ ∀ c ∈ q.On, D c.Var
def Grew (st st' : NmSt) : Prop := ∃ vs es, Grw D nm st st' vs es
theorem Grew.refl (st : NmSt) : Grew D nm st st := ⟨[], [], by simp, by simp, by simp, by simp, by simp, by simp⟩
theorem Grew.le {st st' : NmSt} (h : Grew D nm st st') : st.k ≤ st'.k := by obtain ⟨vs, es, h⟩ := h; have := h.num; omega
theorem Grew.trans {a b c : NmSt} (h : Grew D nm a b) (h2 : Grew D nm b c) : Grew D nm a c := by
  have hle := h2.le
  obtain ⟨vs, es, h⟩ := h
  obtain ⟨vs2, es2, h2⟩ := h2
  refine ⟨vs ++ vs2, es ++ es2, by rw [h2.vars, h.vars, List.append_assoc], by rw [h2.eqs, h.eqs, List.append_assoc], by rw [h2.num, h.num, List.length_append]; omega, ?_, by rw [List.map_append, List.map_append, h.tell, h2.tell], fun q hq => ?_⟩
  · rw [List.map_append, List.length_append, ← List.range'_append_1, List.map_append, h.name, h2.name, h.num]
    rw [show a.k + 1 + vs.length = a.k + vs.length + 1 by omega]
  · rcases List.mem_append.1 hq with hq | hq
    · exact ⟨(h.good q hq).1.mono D nm hle, (h.good q hq).2⟩
    · exact h2.good q hq
theorem Grew.fresh {q : DPlain} {t : DTy} {on : List DCond} {st : NmSt} (hq : goodP D nm st.k q) (ho : ∀ c ∈ on, D c.Var) : Grew D nm st (freshN nm q t on st).2 ∧ okA D nm (freshN nm q t on st).2.k (freshN nm q t on st).1 := by
  refine ⟨⟨[⟨nm (st.k + 1), t, on⟩], [{ q with Names := [nm (st.k + 1)], On := on }], rfl, rfl, rfl, by simp [List.range'], rfl, fun x hx => ?_⟩, .inr (.inr ⟨st.k + 1, by omega, Nat.le_refl _, rfl⟩)⟩
  rw [List.mem_singleton.1 hx]
  exact ⟨⟨fun a ha => (hq.1 a ha).mono D nm (Nat.le_succ _), hq.2.mono D nm (Nat.le_succ _)⟩, ho⟩
def OkE (e : Ex) : Prop := ∀ y ∈ parts e, y.kind = 3 ∨ y.kind = 12 → D y.name
def OkOn (on : List DCond) : Prop := ∀ c ∈ on, D c.Var
def GoodE (e : Ex) : Prop := ∀ on, OkOn D on → ∀ st, Grew D nm st (plainN nm ty cn va fi e on st).2 ∧ goodP D nm (plainN nm ty cn va fi e on st).2.k (plainN nm ty cn va fi e on st).1
theorem leaf_ok {e : Ex} (he : OkE D e) (k : Nat) : okA D nm k (leafA va e) := by
  unfold leafA
  split
  · rename_i h
    exact .inr (.inl (he e (self_parts e) (.inl h)))
  · split
    · exact okA_no D nm k _
    · exact okA_no D nm k _
theorem atom_good {x : Ex} (he : OkE D x) (h : GoodE D nm ty cn va fi x) {on : List DCond} (ho : OkOn D on) (st : NmSt) : Grew D nm st (atomN nm ty cn va fi x on st).2 ∧ okA D nm (atomN nm ty cn va fi x on st).2.k (atomN nm ty cn va fi x on st).1 := by
  unfold atomN
  split
  · exact ⟨Grew.refl D nm st, leaf_ok D nm va he _⟩
  · obtain ⟨h1, h2⟩ := h on ho st
    obtain ⟨h3, h4⟩ := Grew.fresh D nm (t := ty x) h2 ho
    exact ⟨h1.trans D nm h3, h4⟩
theorem each_good {l : List Ex} (he : ∀ x ∈ l, OkE D x) (h : ∀ x ∈ l, GoodE D nm ty cn va fi x) {on : List DCond} (ho : OkOn D on) : ∀ st, Grew D nm st (eachN nm ty cn va fi l on st).2 ∧ ∀ a ∈ (eachN nm ty cn va fi l on st).1, okA D nm (eachN nm ty cn va fi l on st).2.k a := by
  induction l with
  | nil => intro st; rw [eachN_nil]; exact ⟨Grew.refl D nm st, by simp⟩
  | cons x l ih =>
    intro st
    rw [eachN_cons]
    obtain ⟨h1, h2⟩ := atom_good D nm ty cn va fi (he x List.mem_cons_self) (h x List.mem_cons_self) ho st
    obtain ⟨h3, h4⟩ := ih (fun y hy => he y (List.mem_cons_of_mem _ hy)) (fun y hy => h y (List.mem_cons_of_mem _ hy)) (atomN nm ty cn va fi x on st).2
    refine ⟨h1.trans D nm h3, fun a ha => ?_⟩
    rcases List.mem_cons.1 ha with rfl | ha
    · exact h2.mono D nm (h3.le D nm)
    · exact h4 a ha
theorem merge_good {l : List Ex} (he : ∀ x ∈ l, OkE D x) (h : ∀ x ∈ l, GoodE D nm ty cn va fi x) {m : ByteArray} (hm : D m) {on : List DCond} (ho : OkOn D on) : ∀ (arms : List ByteArray) st, Grew D nm st (mergeN nm ty cn va fi m arms l on st).2 ∧ ∀ a ∈ (mergeN nm ty cn va fi m arms l on st).1, okA D nm (mergeN nm ty cn va fi m arms l on st).2.k a := by
  induction l with
  | nil => intro arms st; rw [mergeN]; exact ⟨Grew.refl D nm st, by simp⟩
  | cons x l ih =>
    intro arms st
    cases arms with
    | nil => rw [mergeN]; exact ⟨Grew.refl D nm st, by simp⟩
    | cons c cs =>
      rw [mergeN_cons]
      have ho2 : OkOn D (on ++ [⟨m, va c⟩]) := fun d hd => by
        rcases List.mem_append.1 hd with hd | hd
        · exact ho d hd
        · rw [List.mem_singleton.1 hd]; exact hm
      obtain ⟨h1, h2⟩ := atom_good D nm ty cn va fi (he x List.mem_cons_self) (h x List.mem_cons_self) ho2 st
      obtain ⟨h3, h4⟩ := ih (fun y hy => he y (List.mem_cons_of_mem _ hy)) (fun y hy => h y (List.mem_cons_of_mem _ hy)) cs (atomN nm ty cn va fi x (on ++ [⟨m, va c⟩]) st).2
      refine ⟨h1.trans D nm h3, fun a ha => ?_⟩
      rcases List.mem_cons.1 ha with rfl | ha
      · exact h2.mono D nm (h3.le D nm)
      · exact h4 a ha
theorem head_good {e : Ex} (he : OkE D e) {ats : List DAtom} {frst : DAtom} {k : Nat} (h1 : ∀ a ∈ ats, okA D nm k a) (h2 : okA D nm k frst) (hm : e.kind = 12 → D e.name) : goodP D nm k (headN ty cn va fi e ats frst) := by
  have hn : okA D nm k noAtom := okA_no D nm k 0
  have key : ∀ (c : Prop) [Decidable c] (x y : DPlain), goodP D nm k x → (¬ c → goodP D nm k y) → goodP D nm k (if c then x else y) := by
    intro c _ x y a b
    split
    · exact a
    · exact b ‹_›
  have pl : ∀ (kd op : Int) (l : List DAtom), (∀ a ∈ l, okA D nm k a) → goodP D nm k (plain0 kd op l) := fun kd op l hl => ⟨hl, hn⟩
  unfold headN
  refine key _ _ _ (pl _ _ _ h1) fun _ => ?_
  refine key _ _ _ (pl _ _ _ h1) fun _ => ?_
  refine key _ _ _ (pl _ _ _ h1) fun _ => ?_
  refine key _ _ _ (pl _ _ _ h1) fun _ => ?_
  refine key _ _ _ (pl _ _ _ h1) fun _ => ?_
  refine key _ _ _ (pl _ _ _ h1) fun _ => ?_
  refine key _ _ _ ⟨h1, hn⟩ fun _ => ?_
  refine key _ _ _ ⟨h1, hn⟩ fun _ => ?_
  refine key _ _ _ (pl _ _ _ (fun a ha => by
    rcases List.mem_cons.1 ha with rfl | ha
    · exact h2
    · exact h1 a ha)) fun _ => ?_
  refine key _ _ _ (pl _ _ _ h1) fun _ => ?_
  split
  · rename_i h12
    exact pl _ _ _ (fun a ha => by
      rcases List.mem_cons.1 ha with rfl | ha
      · exact .inr (.inl (hm h12))
      · exact h1 a ha)
  · split
    · split
      · refine ⟨fun a ha => h1 a (List.mem_of_mem_take ha), ?_⟩
        show okA D nm k (ats.getLastD noAtom)
        cases hx : ats.getLast? with
        | none => rw [List.getLastD_eq_getLast?, hx]; exact hn
        | some a => rw [List.getLastD_eq_getLast?, hx]; exact h1 a (List.mem_of_getLast? hx)
      · exact ⟨h1, hn⟩
    · exact pl _ _ _ (fun a ha => by rw [List.mem_singleton.1 ha]; exact leaf_ok D nm va he k)
theorem plain_good (e : Ex) : OkE D e → GoodE D nm ty cn va fi e := by
  induction e using Ex.ind with
  | _ e ih =>
  intro he on ho st
  have hes : ∀ x ∈ e.subs, OkE D x := fun x hx y hy => he y (sub_parts hx hy)
  have ih' : ∀ x ∈ e.subs, GoodE D nm ty cn va fi x := fun x hx => ih x hx (hes x hx)
  have hf : Grew D nm st (frstN nm e on st).2 ∧ okA D nm (frstN nm e on st).2.k (frstN nm e on st).1 := by
    unfold frstN
    split
    · refine Grew.fresh D nm ⟨fun a ha => ?_, okA_no D nm _ 0⟩ ho
      rw [List.mem_singleton.1 ha]
      exact okA_no D nm _ 0
    · exact ⟨Grew.refl D nm st, okA_no D nm _ 0⟩
  rw [plainN_eq]
  generalize frstN nm e on st = fr at hf
  obtain ⟨hf1, hf2⟩ := hf
  have ha : Grew D nm fr.2 (argsN nm ty cn va fi e on fr.2).2 ∧ ∀ a ∈ (argsN nm ty cn va fi e on fr.2).1, okA D nm (argsN nm ty cn va fi e on fr.2).2.k a := by
    unfold argsN
    split
    · rename_i h12
      exact merge_good D nm ty cn va fi hes ih' (he e (self_parts e) (.inr h12)) ho _ _
    · split
      · exact each_good D nm ty cn va fi (fun x hx => hes x (List.mem_of_mem_drop hx)) (fun x hx => ih' x (List.mem_of_mem_drop hx)) ho _
      · refine each_good D nm ty cn va fi hes ih' ?_ _
        unfold onN
        split
        · exact fun c hc => ho c (List.dropLast_subset _ hc)
        · exact ho
  exact ⟨hf1.trans D nm ha.1, head_good D nm ty cn va fi he ha.2 (hf2.mono D nm (ha.1.le D nm)) fun h12 => he e (self_parts e) (.inr h12)⟩
end
end Go.Proofs.YtpamokpmlplopaaGreatDoor

namespace Go.Proofs.YtpamokpmlplopaaGreatDoor
open Go.Abs
set_option maxRecDepth 20000
set_option linter.unusedSimpArgs false
set_option linter.unusedVariables false
set_option maxHeartbeats 1000000
attribute [local irreducible] vc vcOps vcStep vcGuard prK hrK gK gsK brK callK ElemK SeqK BlockK ScopeK OpsK CallK LoopK LoopGo finPost ACall PCall PCallE BCall vqOps vqStep vqGuard qrK heK pcK gqK gqsK QOpsK qcallK DrawK
/-! ### Fresh names -/
def valN (l : List UInt8) : Nat := l.foldl (fun a c => a * 10 + (c.toNat - 48)) 0
theorem valN_snoc (l : List UInt8) (c : UInt8) : valN (l ++ [c]) = valN l * 10 + (c.toNat - 48) := by simp [valN]
theorem dig8N {k : Nat} (h : k < 10) : (UInt8.ofNat (48 + k)).toNat = 48 + k := by
  rw [UInt8.toNat_ofNat']
  omega
theorem decN_val (u : Nat) : valN (Lib.decDigits u) = u := by
  induction u using Nat.strongRecOn with
  | _ u ih =>
  rw [Lib.decDigits]
  split
  · rename_i h
    show 0 * 10 + ((UInt8.ofNat (48 + u)).toNat - 48) = u
    rw [dig8N h]
    omega
  · rename_i h
    rw [valN_snoc, ih (u / 10) (by omega), dig8N (Nat.mod_lt _ (by decide))]
    omega
theorem digN_list (j : Nat) : bts (digB (j : Int)) = Lib.decDigits j := by
  unfold digB Lib.itoa
  rw [if_neg (by omega)]
  simp [bts]
theorem cutN {c : UInt8} : ∀ {a b r s : List UInt8}, a ++ c :: r = b ++ c :: s → c ∉ a → c ∉ b → a = b ∧ r = s
  | [], [], _, _, h, _, _ => ⟨rfl, by simpa using h⟩
  | [], y :: b, _, _, h, _, hb => by
    simp at h
    exact absurd (by rw [h.1]; exact List.mem_cons_self) hb
  | x :: a, [], _, _, h, ha, _ => by
    simp at h
    exact absurd (by rw [h.1]; exact List.mem_cons_self) ha
  | x :: a, y :: b, r, s, h, ha, hb => by
    simp only [List.cons_append, List.cons.injEq] at h
    obtain ⟨h1, h2⟩ := cutN h.2 (fun q => ha (List.mem_cons_of_mem _ q)) (fun q => hb (List.mem_cons_of_mem _ q))
    exact ⟨by rw [h.1, h1], h2⟩
theorem nm_list (x : ByteArray) (j : Nat) : bts (nmN x j) = bts x ++ 46 :: Lib.decDigits j := by
  unfold nmN
  rw [show bts ((x ++ ⟨#[46]⟩) ++ digB (j : Int)) = (bts x ++ [46]) ++ bts (digB (j : Int)) by unfold bts; rw [ByteArray.data_append, ByteArray.data_append]; simp, digN_list]
  simp
theorem bts_eq {a b : ByteArray} (h : bts a = bts b) : a = b := by
  cases a; cases b
  congr
  exact Array.toList_inj.1 h
theorem nm_inj {x y : ByteArray} (hx : (46 : UInt8) ∉ bts x) (hy : (46 : UInt8) ∉ bts y) {i j : Nat} (h : nmN x i = nmN y j) : x = y ∧ i = j := by
  have h := congrArg bts h
  rw [nm_list, nm_list] at h
  obtain ⟨h1, h2⟩ := cutN h hx hy
  refine ⟨bts_eq h1, ?_⟩
  have := congrArg valN h2
  rwa [decN_val, decN_val] at this
theorem nm_dot (x : ByteArray) (j : Nat) : (46 : UInt8) ∈ bts (nmN x j) := by rw [nm_list]; simp
theorem low_dot {s : ByteArray} (h : lowF s = true) : (46 : UInt8) ∉ bts s := by
  unfold lowF nameG at h
  simp only [Bool.and_eq_true, List.all_eq_true] at h
  intro hm
  exact absurd (h.1.2 46 hm) (by decide)
/-! ### A flow's names -/
def prsN (es : List DPlain) : List (ByteArray × List DCond) := es.flatMap fun q => q.Names.map fun s => (s, q.On)
theorem prs_app (a b : List DPlain) : prsN (a ++ b) = prsN a ++ prsN b := by simp [prsN]
theorem prs_tell {es : List DPlain} {vs : List DVar} (h : es.map (fun q => (q.Names, q.On)) = vs.map fun v => ([v.Name], v.On)) : prsN es = vs.map fun v => (v.Name, v.On) := by
  induction es generalizing vs with
  | nil =>
    cases vs with
    | nil => rfl
    | cons v vs => simp at h
  | cons q es ih =>
    cases vs with
    | nil => simp at h
    | cons v vs =>
      simp only [List.map_cons, List.cons.injEq, Prod.mk.injEq] at h
      have h2 := ih h.2
      unfold prsN at h2 ⊢
      rw [List.flatMap_cons, h2, h.1.1, h.1.2]
      rfl
abbrev hdN (q : DEq) : ByteArray := q.Names.headD ⟨#[]⟩
def inA (D : ByteArray → Prop) (vs : List DVar) (a : DAtom) : Prop := a.Var = ⟨#[]⟩ ∨ D a.Var ∨ a.Var ∈ vs.map DVar.Name
structure InvN (D : ByteArray → Prop) (on : ByteArray → List DCond) (v0 : List DVar) (l : List DEq) (st : List DVar × List DPlain) (vs : List DVar) : Prop where
  vars : st.1 = v0 ++ vs
  frs : ∀ v ∈ vs, (v.Name, v.On) ∈ prsN st.2
  dot : ∀ v ∈ vs, ∃ q ∈ l, ∃ j, v.Name = nmN (hdN q) j
  mine : ∀ q ∈ l, ∀ s ∈ q.Names, (s, on (hdN q)) ∈ prsN st.2
  nodup : ((prsN st.2).map Prod.fst).Nodup
  only : ∀ s ∈ (prsN st.2).map Prod.fst, s ∈ l.flatMap DEq.Names ∨ s ∈ vs.map DVar.Name
  good : ∀ q ∈ st.2, (∀ a ∈ q.Args, inA D vs a) ∧ inA D vs q.Every ∧ ∀ c ∈ q.On, D c.Var
theorem inv_step {p : DProg} {k : Int} {D : ByteArray → Prop} {v0 : List DVar} {l : List DEq} {st : List DVar × List DPlain} {vs : List DVar} (h : InvN D (rowOn p k) v0 l st vs) {x : DEq}
    (hl : ∀ q ∈ l, q.Names ≠ [] ∧ ∀ s ∈ q.Names, (46 : UInt8) ∉ bts s) (hx : x.Names ≠ []) (hxd : ∀ s ∈ x.Names, (46 : UInt8) ∉ bts s) (hnd : ((l ++ [x]).flatMap DEq.Names).Nodup) (he : OkE D x.E) (ho : OkOn D (rowOn p k (hdN x))) :
    ∃ vs', InvN D (rowOn p k) v0 (l ++ [x]) (eqNm p k st x) vs' := by
  obtain ⟨hG, hq⟩ := plain_good D (nmN (hdN x)) (tyN p k) (cnN p) (vaN p) (fiN p) x.E he (rowOn p k (hdN x)) ho ⟨st.1, st.2, 0⟩
  have e1 : (eqNm p k st x).1 = (eqPl p k st x).2.vars := rfl
  have e2 : (eqNm p k st x).2 = (eqPl p k st x).2.eqs ++ [{ (eqPl p k st x).1 with Names := x.Names, On := rowOn p k (hdN x) }] := rfl
  have e3 : plainN (nmN (hdN x)) (tyN p k) (cnN p) (vaN p) (fiN p) x.E (rowOn p k (hdN x)) ⟨st.1, st.2, 0⟩ = eqPl p k st x := rfl
  rw [e3] at hG hq
  generalize eqPl p k st x = r at e1 e2 hG hq
  obtain ⟨q0, r2⟩ := r
  obtain ⟨ws, es, hv, heq, hk, hnm, htl, hgd⟩ := hG
  simp only at e1 e2 hv heq hk hnm hgd hq
  rw [Nat.zero_add] at hk hnm
  rw [hv] at e1
  rw [heq] at e2
  have hhd : hdN x ∈ x.Names := by
    unfold hdN
    match x.Names, hx with
    | s :: r, _ => simp
  have hws : ∀ v ∈ ws, ∃ j, v.Name = nmN (hdN x) j := fun v hv => by
    have : v.Name ∈ ws.map DVar.Name := List.mem_map.2 ⟨v, hv, rfl⟩
    rw [hnm] at this
    obtain ⟨j, _, hj⟩ := List.mem_map.1 this
    exact ⟨j, hj.symm⟩
  have hin : ∀ a : DAtom, okA D (nmN (hdN x)) r2.k a → inA D (vs ++ ws) a := fun a ha => by
    rcases ha with ha | ha | ⟨j, j1, j2, j3⟩
    · exact .inl ha
    · exact .inr (.inl ha)
    · refine .inr (.inr ?_)
      rw [List.map_append, hnm, j3]
      refine List.mem_append_right _ (List.mem_map.2 ⟨j, ?_, rfl⟩)
      rw [List.mem_range'_1]
      omega
  have hinO : ∀ a : DAtom, inA D vs a → inA D (vs ++ ws) a := fun a ha => by
    rcases ha with ha | ha | ha
    · exact .inl ha
    · exact .inr (.inl ha)
    · exact .inr (.inr (by rw [List.map_append]; exact List.mem_append_left _ ha))
  have hP : prsN (eqNm p k st x).2 = prsN st.2 ++ (ws.map (fun v => (v.Name, v.On)) ++ x.Names.map fun s => (s, rowOn p k (hdN x))) := by
    rw [e2, List.append_assoc, prs_app, prs_app, prs_tell htl]
    simp [prsN]
  have hF : (prsN (eqNm p k st x).2).map Prod.fst = (prsN st.2).map Prod.fst ++ (ws.map DVar.Name ++ x.Names) := by
    rw [hP, List.map_append, List.map_append, List.map_map, List.map_map]
    congr 2
    simp [Function.comp_def]
  rw [List.flatMap_append, List.nodup_append] at hnd
  obtain ⟨_, n2, n3⟩ := hnd
  have n2 : x.Names.Nodup := by simpa using n2
  have n3 : ∀ a ∈ l.flatMap DEq.Names, ∀ b ∈ x.Names, a ≠ b := fun a ha b hb => n3 a ha b (by simpa using hb)
  refine ⟨vs ++ ws, by rw [e1, h.vars, List.append_assoc], fun v hm => ?_, fun v hm => ?_, fun q hm s hs => ?_, ?_, fun s hs => ?_, fun q hm => ?_⟩
  · rw [hP]
    rcases List.mem_append.1 hm with hm | hm
    · exact List.mem_append_left _ (h.frs v hm)
    · exact List.mem_append_right _ (List.mem_append_left _ (List.mem_map.2 ⟨v, hm, rfl⟩))
  · rcases List.mem_append.1 hm with hm | hm
    · obtain ⟨q, hq, j, hj⟩ := h.dot v hm
      exact ⟨q, List.mem_append_left _ hq, j, hj⟩
    · obtain ⟨j, hj⟩ := hws v hm
      exact ⟨x, by simp, j, hj⟩
  · rw [hP]
    rcases List.mem_append.1 hm with hm | hm
    · exact List.mem_append_left _ (h.mine q hm s hs)
    · rw [List.mem_singleton.1 hm] at hs ⊢
      exact List.mem_append_right _ (List.mem_append_right _ (List.mem_map.2 ⟨s, hs, rfl⟩))
  · rw [hF, List.nodup_append, List.nodup_append]
    refine ⟨h.nodup, ⟨?_, n2, fun a ha b hb e => ?_⟩, fun a ha b hb e => ?_⟩
    · rw [hnm]
      refine List.Pairwise.map _ (fun i j hij e => ?_) (List.nodup_range' (n := ws.length) (s := 1))
      exact hij (nm_inj (hxd _ hhd) (hxd _ hhd) e).2
    · obtain ⟨v, hv, rfl⟩ := List.mem_map.1 ha
      obtain ⟨j, hj⟩ := hws v hv
      rw [← e, hj] at hb
      exact hxd _ hb (nm_dot _ _)
    · have hb2 : (46 : UInt8) ∈ bts b ∨ b ∈ x.Names := by
        rcases List.mem_append.1 hb with hb | hb
        · obtain ⟨v, hv, rfl⟩ := List.mem_map.1 hb
          obtain ⟨j, hj⟩ := hws v hv
          exact .inl (by rw [hj]; exact nm_dot _ _)
        · exact .inr hb
      rcases h.only a ha with ha | ha
      · rcases hb2 with hb2 | hb2
        · obtain ⟨q, hq, hs⟩ := List.mem_flatMap.1 ha
          exact (hl q hq).2 a hs (by rw [e]; exact hb2)
        · exact n3 a ha b hb2 e
      · obtain ⟨v, hv, rfl⟩ := List.mem_map.1 ha
        obtain ⟨q, hq, j, hj⟩ := h.dot v hv
        have hqh : hdN q ∈ q.Names := by
          have := (hl q hq).1
          unfold hdN
          match q.Names, this with
          | s :: r, _ => simp
        rcases List.mem_append.1 hb with hb | hb
        · obtain ⟨w, hw, rfl⟩ := List.mem_map.1 hb
          obtain ⟨i, hi⟩ := hws w hw
          rw [hj, hi] at e
          exact n3 _ (List.mem_flatMap.2 ⟨q, hq, hqh⟩) _ hhd (nm_inj ((hl q hq).2 _ hqh) (hxd _ hhd) e).1
        · rw [hj] at e
          exact hxd b hb (by rw [← e]; exact nm_dot _ _)
  · rw [hF] at hs
    rw [List.flatMap_append, List.map_append]
    rcases List.mem_append.1 hs with hs | hs
    · rcases h.only s hs with hs | hs
      · exact .inl (List.mem_append_left _ hs)
      · exact .inr (List.mem_append_left _ hs)
    · rcases List.mem_append.1 hs with hs | hs
      · exact .inr (List.mem_append_right _ hs)
      · exact .inl (List.mem_append_right _ (by simpa using hs))
  · rw [e2, List.append_assoc] at hm
    rcases List.mem_append.1 hm with hm | hm
    · obtain ⟨g1, g2, g3⟩ := h.good q hm
      exact ⟨fun a ha => hinO a (g1 a ha), hinO _ g2, g3⟩
    · rcases List.mem_append.1 hm with hm | hm
      · obtain ⟨⟨g1, g2⟩, g3⟩ := hgd q hm
        exact ⟨fun a ha => hin a (g1 a ha), hin _ g2, g3⟩
      · rw [List.mem_singleton.1 hm]
        exact ⟨fun a ha => hin a (hq.1 a ha), hin _ hq.2, ho⟩
theorem inv_all {p : DProg} {k : Int} {D : ByteArray → Prop} {v0 : List DVar} {l : List DEq} (hl : ∀ q ∈ l, q.Names ≠ [] ∧ (∀ s ∈ q.Names, (46 : UInt8) ∉ bts s) ∧ OkE D q.E ∧ OkOn D (rowOn p k (hdN q))) (hnd : (l.flatMap DEq.Names).Nodup) :
    ∀ i, i ≤ l.length → ∃ vs, InvN D (rowOn p k) v0 (l.take i) (eqsNm p k (v0, []) (l.take i)) vs
  | 0, _ => ⟨[], by simp [eqsNm], by simp, by simp, by simp, by simp [eqsNm, prsN], by simp [eqsNm, prsN], by simp [eqsNm]⟩
  | i + 1, hi => by
    obtain ⟨vs, h⟩ := inv_all hl hnd i (by omega)
    obtain ⟨x, hx⟩ : ∃ x, l[i]? = some x := ⟨_, List.getElem?_eq_getElem (by omega)⟩
    rw [eqsNm_next p k hx]
    have hxm := List.mem_of_getElem? hx
    have ht : l.take (i + 1) = l.take i ++ [x] := by rw [List.take_add_one, hx]; rfl
    rw [ht]
    refine inv_step h (fun q hq => ⟨(hl q (List.mem_of_mem_take hq)).1, (hl q (List.mem_of_mem_take hq)).2.1⟩) (hl x hxm).1 (hl x hxm).2.1 ?_ (hl x hxm).2.2.1 (hl x hxm).2.2.2
    rw [← ht]
    have h2 : l.flatMap DEq.Names = (l.take (i + 1)).flatMap DEq.Names ++ (l.drop (i + 1)).flatMap DEq.Names := by rw [← List.flatMap_append, List.take_append_drop]
    rw [h2, List.nodup_append] at hnd
    exact hnd.1
theorem names_nodup {n : DNode} : ∀ {l D : List ByteArray}, namesErr n D l = 0 → D.Nodup → (D ++ l).Nodup
  | [], D, _, h => by simpa using h
  | s :: r, D, h, hD => by
    rw [namesErr] at h
    split at h
    · omega
    · split at h
      · omega
      · rename_i h2
        have hs : s ∉ D := fun hm => h2 (by rw [memB_iff.2 hm, Bool.or_true])
        have := names_nodup h (by rw [List.nodup_append]; exact ⟨hD, by simp, fun a ha b hb e => by rw [List.mem_singleton.1 hb] at e; exact hs (e ▸ ha)⟩)
        simpa using this
theorem eqs_nodup {p : DProg} {a : Int} {n : DNode} : ∀ {l : List DEq} {i : Nat} {D : List ByteArray}, (eqsErr p a n i D l).2 = 0 → D.Nodup → (D ++ l.flatMap DEq.Names).Nodup ∧ ∀ q ∈ l, (parts q.E).all (leadsF p a n) = true
  | [], _, _, _, hD => by simpa using hD
  | q :: r, i, D, h, hD => by
    rw [eqsErr] at h
    split at h
    · rename_i h0
      have hq : namesErr n D q.Names = 0 ∧ (parts q.E).all (leadsF p a n) = true := by
        unfold eqErr at h0
        split at h0
        · split at h0
          · exact ⟨by assumption, by assumption⟩
          · omega
        · rename_i h1; exact absurd h0 h1
      obtain ⟨k1, k2⟩ := eqs_nodup h (names_nodup hq.1 hD)
      refine ⟨by rw [List.flatMap_cons, ← List.append_assoc]; exact k1, fun x hx => ?_⟩
      rcases List.mem_cons.1 hx with rfl | hx
      · exact hq.2
      · exact k2 x hx
    · rename_i h0
      exact absurd h h0
theorem zeroF : (AV.agg [.raw (.int .i64 0), .raw (.int .i64 0), .raw (.int .i64 0)]) = (⟨0, 0, 0⟩ : DFault).enc := by rw [DFault.enc_eq]
theorem clk_app (n : DNode) : ∀ (k : Nat) (s : ByteArray) (acc : List DDecl), clk n k s acc = if (clk n k s []).2 = true then ((clk n k s []).1 ++ acc, true) else ([], false)
  | 0, _, _ => rfl
  | k + 1, s, acc => by
    rw [clk_succ, clk_succ]
    by_cases h1 : (decl n s).2 = true
    · rw [if_pos h1, if_pos h1]
      by_cases h2 : (decl n s).1.On = ⟨#[]⟩
      · rw [if_pos h2, if_pos h2]; rfl
      · rw [if_neg h2, if_neg h2, clk_app n k _ ((decl n s).1 :: acc), clk_app n k _ [(decl n s).1]]
        by_cases h3 : (clk n k (decl n s).1.On []).2 = true
        · rw [if_pos h3, if_pos h3]; simp
        · rw [if_neg h3, if_neg h3]; rfl
    · rw [if_neg h1, if_neg h1]; rfl
theorem clk_on {n : DNode} {k : Nat} {s : ByteArray} (h : (clk n (k + 1) s []).2 = true) (h2 : ¬ (decl n s).1.On = ⟨#[]⟩) : (clk n k (decl n s).1.On []).2 = true ∧ clk n (k + 1) s [] = ((clk n k (decl n s).1.On []).1 ++ [(decl n s).1], true) := by
  rw [clk_succ] at h ⊢
  by_cases h1 : (decl n s).2 = true
  · rw [if_pos h1, if_neg h2, clk_app n k _ [(decl n s).1]] at h ⊢
    by_cases h3 : (clk n k (decl n s).1.On []).2 = true
    · exact ⟨h3, by rw [if_pos h3]⟩
    · rw [if_neg h3] at h; cases h
  · rw [if_neg h1] at h; cases h
theorem clk_more {n : DNode} : ∀ {k : Nat} {s : ByteArray}, (clk n k s []).2 = true → clk n (k + 1) s [] = clk n k s []
  | 0, _, h => by cases h
  | k + 1, s, h => by
    by_cases h2 : (decl n s).1.On = ⟨#[]⟩
    · rw [clk_succ n (k + 1), if_pos h2, clk_succ n k, if_pos h2]
    · obtain ⟨h3, h4⟩ := clk_on h h2
      have h5 := clk_more h3
      have h1 : (decl n s).2 = true := by
        rw [clk_succ] at h
        by_cases h1 : (decl n s).2 = true
        · exact h1
        · rw [if_neg h1] at h; cases h
      rw [h4, clk_succ, if_pos h1, if_neg h2, clk_app, h5, if_pos h3]
theorem clk_ahead {n : DNode} : ∀ {k : Nat} {s : ByteArray}, (clk n k s []).2 = true → ∀ (j : Nat) d, (clk n k s []).1[j]? = some d → clk n k d.On [] = ((clk n k s []).1.take j, true)
  | 0, _, h, _, _, _ => by cases h
  | k + 1, s, h, j, d, hd => by
    by_cases h2 : (decl n s).1.On = ⟨#[]⟩
    · rw [clk_succ, if_pos h2] at hd
      split at hd <;> simp at hd
    · obtain ⟨h3, h4⟩ := clk_on h h2
      rw [h4] at hd ⊢
      generalize hX : (clk n k (decl n s).1.On []).1 = X at hd
      dsimp only at hd ⊢
      by_cases hj : j < X.length
      · rw [List.getElem?_append_left hj] at hd
        have ih := clk_ahead h3 j d (by rw [hX]; exact hd)
        rw [clk_more (by rw [ih]), ih, hX, List.take_append_of_le_length (by omega)]
      · rw [List.getElem?_append_right (by omega)] at hd
        have hj2 : j = X.length := by
          have := (List.getElem?_eq_some_iff.1 hd).1
          simp at this
          omega
        subst hj2
        simp at hd
        subst hd
        rw [clk_more h3, List.take_left, ← hX, ← h3]
theorem rowN_ok {L : List DEnum} {n : DNode} {s : ByteArray} (h : (rowN L n s).2 = true) : (clock n s).2 = true ∧ (∀ d ∈ (clock n s).1, armOk L d.Ctor = true) ∧ rowN L n s = ((clock n s).1.map (fun d => condOf L d.On d.Ctor), true) := by
  unfold rowN at *
  split at h
  · rename_i h0
    rw [if_pos h0]
    unfold rowL at *
    split at h
    · rename_i h1
      exact ⟨h0, fun d hd => List.all_eq_true.1 h1 d hd, by rw [if_pos h1]⟩
    · cases h
  · cases h
theorem row_ahead {L : List DEnum} {n : DNode} {s : ByteArray} (h : (rowN L n s).2 = true) {j : Nat} {c : DCond} (hc : (rowN L n s).1[j]? = some c) : rowN L n c.Var = ((rowN L n s).1.take j, true) := by
  obtain ⟨h1, h2, h3⟩ := rowN_ok h
  rw [h3] at hc ⊢
  dsimp only at hc ⊢
  rw [List.getElem?_map] at hc
  cases hd : (clock n s).1[j]? with
  | none => rw [hd] at hc; cases hc
  | some d =>
    rw [hd] at hc
    obtain rfl := Option.some.inj hc
    have ha : clock n d.On = ((clock n s).1.take j, true) := clk_ahead h1 j d hd
    show rowN L n d.On = _
    unfold rowN
    rw [ha, if_pos rfl, rowL_yes (fun x hx => h2 x (List.mem_of_mem_take hx)), List.map_take]
theorem once_nodes {p : DProg} (h : checkF p = 0) {n : DNode} (hn : n ∈ p.Nodes) : ((allV n).map DDecl.Name).Nodup := by
  unfold checkF at h
  split at h
  · rename_i h0; exact absurd h h0
  · split at h
    · omega
    · split at h
      · omega
      · split at h
        · split at h
          · rename_i hq
            simp only [Bool.and_eq_true] at hq
            have h1 := List.all_eq_true.1 hq.1 n hn
            unfold onceN at h1
            by_cases hN : ((allV n).map DDecl.Name).Nodup
            · exact hN
            · rw [onceB_no hN] at h1; cases h1
          · omega
        · omega
theorem row_in {L : List DEnum} {n : DNode} {s : ByteArray} (h : (rowN L n s).2 = true) : isF n s = true := by
  have h1 := (rowN_ok h).1
  unfold clock at h1
  rw [clk_succ] at h1
  unfold isF
  split at h1
  · assumption
  · cases h1
theorem rowF_at {p : DProg} {k : Nat} {n : DNode} (hn : p.Nodes[k]? = some n) (s : ByteArray) : rowF p (k : Int) s = rowN p.Enums n s := by unfold rowF; rw [nodeAt_nat, hn]
theorem rowOn_at {p : DProg} {k : Nat} {n : DNode} (hn : p.Nodes[k]? = some n) (s : ByteArray) : rowOn p (k : Int) s = (rowN p.Enums n s).1 := by unfold rowOn; rw [rowF_at hn]
/-- What a checked program's node has. -/
structure NodeFit (p : DProg) (k : Nat) (n : DNode) : Prop where
  at_ : p.Nodes[k]? = some n
  eqs : ∀ q ∈ n.Eqs, q.Names ≠ [] ∧ (∀ s ∈ q.Names, isF n s = true ∧ (46 : UInt8) ∉ bts s) ∧ OkE (fun s => isF n s = true) q.E ∧ OkOn (fun s => isF n s = true) (rowOn p (k : Int) (hdN q)) ∧ ∀ s ∈ q.Names, rowOn p (k : Int) s = rowOn p (k : Int) (hdN q)
  nodup : (n.Eqs.flatMap DEq.Names).Nodup
  ins : ∀ d ∈ n.Ins, d.Name ∉ n.Eqs.flatMap DEq.Names
  outs : ∀ d ∈ n.Outs ++ n.Vars, d.Name ∈ n.Eqs.flatMap DEq.Names
  dots : ∀ d ∈ allV n, (46 : UInt8) ∉ bts d.Name
  decls : ((allV n).map DDecl.Name).Nodup
theorem node_fit {p : DProg} (h : (startF p).Err = 0) {k : Nat} {n : DNode} (hn : p.Nodes[k]? = some n) : NodeFit p k n := by
  obtain ⟨hck, hall⟩ := start_eqs h
  obtain ⟨hr, hf, hq⟩ := hall k n hn
  have hnm := List.mem_of_getElem? hn
  have hnf := List.all_eq_true.1 (check_nodes hck) n hnm
  have hdot : ∀ d ∈ allV n, (46 : UInt8) ∉ bts d.Name := fun d hd => by
    unfold nodeF at hnf
    simp only [Bool.and_eq_true, List.all_eq_true] at hnf
    have := hnf.1.1.1 d hd
    unfold declaredF at this
    simp only [Bool.and_eq_true] at this
    exact low_dot this.1.1
  have hisd : ∀ s, isF n s = true → (46 : UInt8) ∉ bts s := fun s hs => by
    obtain ⟨d, hd, rfl⟩ := is_mem hs
    exact hdot d hd
  have his := node_is hf
  have hf2 := hf
  unfold nodeFault at hf2
  split at hf2
  case isFalse => cases hf2
  split at hf2
  case isFalse h2 => exact absurd hf2 h2
  rename_i _ h2
  split at hf2
  case isFalse => cases hf2
  rename_i hd
  obtain ⟨k1, _⟩ := eqs_nodup h2 List.nodup_nil
  rw [List.nil_append] at k1
  refine ⟨hn, fun q hm => ?_, k1, fun d hd hm => ?_, fun d hdm => memB_iff.1 (List.all_eq_true.1 hd d hdm), hdot, once_nodes hck hnm⟩
  · obtain ⟨i1, i2⟩ := his q hm
    have hne : q.Names ≠ [] := by obtain ⟨s, r, e⟩ := (hq q hm).names; rw [e]; simp
    have hhd : hdN q ∈ q.Names := by
      unfold hdN
      match q.Names, hne with
      | s :: r, _ => simp
    have hrow := row_is hr (i1 _ hhd)
    refine ⟨hne, fun s hs => ⟨i1 s hs, hisd s (i1 s hs)⟩, fun y hy hk => ?_, fun c hc => ?_, fun s hs => by rw [rowOn_at hn, rowOn_at hn]; exact (hq q hm).same s hs⟩
    · have hl := List.all_eq_true.1 i2 y hy
      unfold leadsF at hl
      rw [if_pos (by omega)] at hl
      simp only [Bool.and_eq_true] at hl
      exact hl.2
    · rw [rowOn_at hn] at hc
      obtain ⟨j, hj, rfl⟩ := List.getElem_of_mem hc
      have := row_ahead hrow (List.getElem?_eq_getElem hj)
      exact row_in (L := p.Enums) (by rw [this])
  · have h1 := eqsErr_in h2 _ hm
    have h3 : inF n d.Name = true := List.any_eq_true.2 ⟨d, hd, by simp⟩
    rw [h3] at h1; cases h1
def allN (f : DFlow) : List DVar := f.Ins ++ (f.Outs ++ f.Vars)
theorem flow_inv {p : DProg} {k : Nat} {n : DNode} (h : NodeFit p k n) : ∃ vs, InvN (fun s => isF n s = true) (rowOn p (k : Int)) (n.Vars.map (varNm p (k : Int))) n.Eqs ((flowNm p (k : Int) n).Vars, (flowNm p (k : Int) n).Eqs) vs := by
  obtain ⟨vs, hv⟩ := inv_all (p := p) (k := (k : Int)) (D := fun s => isF n s = true) (v0 := n.Vars.map (varNm p (k : Int))) (l := n.Eqs)
    (fun q hq => ⟨(h.eqs q hq).1, fun s hs => ((h.eqs q hq).2.1 s hs).2, (h.eqs q hq).2.2.1, (h.eqs q hq).2.2.2.1⟩) h.nodup n.Eqs.length (Nat.le_refl _)
  rw [List.take_length] at hv
  exact ⟨vs, hv⟩
theorem filt_one {β : Type} {l : List (ByteArray × β)} (hn : (l.map Prod.fst).Nodup) {x : ByteArray × β} (hx : x ∈ l) : l.filter (fun y => decide (y.1 = x.1)) = [x] := by
  induction l with
  | nil => cases hx
  | cons a l ih =>
    rw [List.map_cons, List.nodup_cons] at hn
    rcases List.mem_cons.1 hx with rfl | hx
    · rw [List.filter_cons, if_pos (by simp), List.filter_eq_nil_iff.2 (fun y hy => by
        simp only [decide_eq_true_eq]
        exact fun e => hn.1 (e ▸ List.mem_map.2 ⟨y, hy, rfl⟩))]
    · rw [List.filter_cons, if_neg (by
        simp only [decide_eq_true_eq]
        exact fun e => hn.1 (e ▸ List.mem_map.2 ⟨x, hx, rfl⟩)), ih hn.2 hx]
/-- How often a variable is told, and whether each time on its clock. -/
noncomputable def cntN (f : DFlow) (x : DVar) : Nat × Bool := (((prsN f.Eqs).filter fun y => decide (y.1 = x.Name)).length, ((prsN f.Eqs).filter fun y => decide (y.1 = x.Name)).all fun y => eqB y.2 x.On)
theorem cnt_ins {p : DProg} {k : Nat} {n : DNode} (h : NodeFit p k n) : ∀ x ∈ (flowNm p (k : Int) n).Ins, (cntN (flowNm p (k : Int) n) x).1 = 0 := by
  obtain ⟨vs, hv⟩ := flow_inv h
  intro x hx
  obtain ⟨d, hd, rfl⟩ := List.mem_map.1 (show x ∈ n.Ins.map (varNm p (k : Int)) from hx)
  unfold cntN
  rw [List.filter_eq_nil_iff.2]
  · rfl
  · intro y hy
    simp only [decide_eq_true_eq]
    intro e
    have hda : d ∈ allV n := by simp [allV, hd]
    rcases hv.only y.1 (List.mem_map.2 ⟨y, hy, rfl⟩) with hs | hs
    · exact h.ins d hd (by rw [show d.Name = y.1 from e.symm]; exact hs)
    · obtain ⟨v, hvm, e2⟩ := List.mem_map.1 hs
      obtain ⟨q, _, j, hj⟩ := hv.dot v hvm
      exact h.dots d hda (by rw [show d.Name = y.1 from e.symm, ← e2, hj]; exact nm_dot _ _)
theorem cnt_outs {p : DProg} {k : Nat} {n : DNode} (h : NodeFit p k n) : ∀ x ∈ (flowNm p (k : Int) n).Outs ++ (flowNm p (k : Int) n).Vars, cntN (flowNm p (k : Int) n) x = (1, true) := by
  obtain ⟨vs, hv⟩ := flow_inv h
  have key : ∀ x : DVar, (x.Name, x.On) ∈ prsN (flowNm p (k : Int) n).Eqs → cntN (flowNm p (k : Int) n) x = (1, true) := fun x hx => by
    have := filt_one hv.nodup hx
    unfold cntN
    rw [this]
    simp [eqB_eq (x := x.On) (y := x.On) rfl]
  have dc : ∀ d ∈ n.Outs ++ n.Vars, ((varNm p (k : Int) d).Name, (varNm p (k : Int) d).On) ∈ prsN (flowNm p (k : Int) n).Eqs := fun d hd => by
    obtain ⟨q, hq, hs⟩ := List.mem_flatMap.1 (h.outs d hd)
    have := hv.mine q hq d.Name hs
    rw [← (h.eqs q hq).2.2.2.2 d.Name hs] at this
    exact this
  intro x hx
  rcases List.mem_append.1 hx with hx | hx
  · obtain ⟨d, hd, rfl⟩ := List.mem_map.1 (show x ∈ n.Outs.map (varNm p (k : Int)) from hx)
    exact key _ (dc d (by simp [hd]))
  · have e : (flowNm p (k : Int) n).Vars = n.Vars.map (varNm p (k : Int)) ++ vs := hv.vars
    rw [e] at hx
    rcases List.mem_append.1 hx with hx | hx
    · obtain ⟨d, hd, rfl⟩ := List.mem_map.1 hx
      exact key _ (dc d (by simp [hd]))
    · exact key x (hv.frs x hx)
theorem in_all {p : DProg} {k : Nat} {n : DNode} {vs : List DVar} (hv : (flowNm p (k : Int) n).Vars = n.Vars.map (varNm p (k : Int)) ++ vs) {s : ByteArray} (hs : isF n s = true ∨ s ∈ vs.map DVar.Name) : s ∈ (allN (flowNm p (k : Int) n)).map DVar.Name := by
  unfold allN
  rw [hv]
  simp only [List.map_append, List.mem_append]
  rcases hs with hs | hs
  · obtain ⟨d, hd, rfl⟩ := is_mem hs
    have hd : d ∈ n.Ins ∨ d ∈ n.Outs ∨ d ∈ n.Vars := by simpa [allV] using hd
    rcases hd with hd | hd | hd
    · exact .inl (List.mem_map.2 ⟨varNm p (k : Int) d, List.mem_map.2 ⟨d, hd, rfl⟩, rfl⟩)
    · exact .inr (.inl (List.mem_map.2 ⟨varNm p (k : Int) d, List.mem_map.2 ⟨d, hd, rfl⟩, rfl⟩))
    · exact .inr (.inr (.inl (List.mem_map.2 ⟨varNm p (k : Int) d, List.mem_map.2 ⟨d, hd, rfl⟩, rfl⟩)))
  · exact .inr (.inr (.inr hs))
theorem need_in {p : DProg} {k : Nat} {n : DNode} (h : NodeFit p k n) : ∀ q ∈ (flowNm p (k : Int) n).Eqs, ∀ s ∈ readsP q ++ q.Names, s ∈ (allN (flowNm p (k : Int) n)).map DVar.Name := by
  obtain ⟨vs, hv⟩ := flow_inv h
  intro q hq s hs
  obtain ⟨g1, g2, g3⟩ := hv.good q hq
  rcases List.mem_append.1 hs with hs | hs
  · unfold readsP rawP at hs
    rw [List.mem_filter] at hs
    obtain ⟨hs, hne⟩ := hs
    have hne : ¬ s = ⟨#[]⟩ := by simpa using hne
    have key : ∀ a : DAtom, inA (fun s => isF n s = true) vs a → a.Var = s → s ∈ (allN (flowNm p (k : Int) n)).map DVar.Name := fun a ha e => by
      rw [← e]
      rcases ha with ha | ha | ha
      · exact absurd (e ▸ ha) hne
      · exact in_all hv.vars (.inl ha)
      · exact in_all hv.vars (.inr ha)
    rcases List.mem_append.1 hs with hs | hs
    · unfold argsP at hs
      split at hs
      · cases hs
      · obtain ⟨a, ha, e⟩ := List.mem_map.1 hs
        exact key a (g1 a ha) e
    · rcases List.mem_append.1 hs with hs | hs
      · split at hs
        · exact key q.Every g2 (List.mem_singleton.1 hs).symm
        · cases hs
      · obtain ⟨c, hc, e⟩ := List.mem_map.1 hs
        exact in_all hv.vars (.inl (by rw [← e]; exact g3 c hc))
  · have hm : s ∈ (prsN (flowNm p (k : Int) n).Eqs).map Prod.fst := List.mem_map.2 ⟨(s, q.On), List.mem_flatMap.2 ⟨q, hq, List.mem_map.2 ⟨s, hs, rfl⟩⟩, rfl⟩
    rcases hv.only s hm with hs2 | hs2
    · obtain ⟨x, hx, hsx⟩ := List.mem_flatMap.1 hs2
      exact in_all hv.vars (.inl ((h.eqs x hx).2.1 s hsx).1)
    · exact in_all hv.vars (.inr hs2)
end Go.Proofs.YtpamokpmlplopaaGreatDoor

namespace Go.Proofs.YtpamokpmlplopaaGreatDoor
open Go.Abs
set_option maxRecDepth 20000
set_option linter.unusedSimpArgs false
set_option linter.unusedVariables false
set_option maxHeartbeats 1000000
attribute [local irreducible] vc vcOps vcStep vcGuard prK hrK gK gsK brK callK ElemK SeqK BlockK ScopeK OpsK CallK LoopK LoopGo finPost ACall PCall PCallE BCall vqOps vqStep vqGuard qrK heK pcK gqK gqsK QOpsK qcallK DrawK
open Go.RowKit
def encsV (l : List DVar) : AV := .lst 5 (l.map (DVar.enc)) none
theorem encsV_eq (l : List DVar) : encsV l = .lst 5 (l.map (DVar.enc)) none := rfl
instance (ls : List (List DVar)) : PureI (.lst 1 (ls.map encsV) none) := ⟨pure_list (fun x => DVar.pures x) _⟩
attribute [go_sem] encsV_eq
abbrev allW (f : DFlow) : List DVar := [f.Ins, f.Outs, f.Vars].flatten
abbrev zeroV : DVar := ⟨⟨#[]⟩, ⟨0, 0, 0⟩, []⟩
def varF (name : ByteArray) : List DVar → DVar × Bool
  | [] => (zeroV, false)
  | d :: l => if d.Name = name then (d, true) else varF name l
abbrev varA (p : DVar × Bool) : AV := .tup [p.1.enc, .b p.2]
theorem pure_varA (p : DVar × Bool) : Go.Abs.Pure (varA p) := .tup _ (pure_cons (DVar.pure _) (pure_cons (.raw _) pure_nil))
theorem varF_next {name : ByteArray} {l : List DVar} {i : Nat} {x : DVar} (hx : l[((i : Int)).toNat]? = some x) (hn : ¬ x.Name = name) {D : DVar × Bool} (hD : varF name (l.drop i) = D) : varF name (l.drop (i + 1)) = D := by
  rw [← hD]
  rw [Int.toNat_natCast] at hx
  obtain ⟨hi, rfl⟩ := List.getElem?_eq_some_iff.1 hx
  rw [List.drop_eq_getElem_cons hi, varF, if_neg hn]
theorem varF_found {name : ByteArray} {l : List DVar} {i : Nat} {x : DVar} (hx : l[((i : Int)).toNat]? = some x) (hn : x.Name = name) {D : DVar × Bool} (hD : varF name (l.drop i) = D) : D = (x, true) := by
  rw [← hD]
  rw [Int.toNat_natCast] at hx
  obtain ⟨hi, rfl⟩ := List.getElem?_eq_some_iff.1 hx
  rw [List.drop_eq_getElem_cons hi, varF, if_pos hn]
theorem varF_in {name : ByteArray} {l : List DVar} (h : name ∈ l.map DVar.Name) : (varF name l).2 = true := by
  induction l with
  | nil => cases h
  | cons d l ih =>
    rw [varF]
    split
    · rfl
    · rename_i hd
      rcases List.mem_cons.1 (by simpa using h : name ∈ d.Name :: l.map DVar.Name) with e | e
      · exact absurd e.symm hd
      · exact ih e
theorem zero_varA {k : Option Nat} : Weak (.tup [.agg [.s ⟨#[]⟩, .i 0, .i 0, .i 0, .raw (.slice none 0 0)], .b false]) (varA (zeroV, false)) := by
  show Weak _ (.tup [zeroV.enc, .b false])
  rw [DVar.enc_eq]
  exact Weak.tups2 ⟨Weak.aggs ⟨.refl _, .refl _, .refl _, .refl _, .nil _, trivial⟩, .refl _, trivial⟩


theorem all14 (n : DFlow) (hl : (allW n).length ≤ 4294967296) : PCall Tryz.prog 14 [n.enc] (.lst 5 ((allW n).map DVar.enc) none) := by
  refine pcall_of_vc tabOK Tryz.func14 (by kernel_rfl) rfl pureL pureI (n := 13) rfl (rs := [.tmp 2]) rfl ?_
  have hl' : n.Ins.length + n.Outs.length + n.Vars.length ≤ 4294967296 := by simpa [allW, Nat.add_assoc] using hl
  have e : (allW n).map DVar.enc = n.Ins.map DVar.enc ++ (n.Outs.map DVar.enc ++ n.Vars.map DVar.enc) := by simp [allW]
  repeat' first
    | exact finB rfl
    | exact finI rfl
    | exact finP rfl
    | exact absurd rfl (by assumption)
    | simp only [go_sem]
    | (intro _)
    | refine brK_dec (fun _ => ?_) (fun _ => ?_)
    | refine brK_any ?_ ?_
    | refine gK_dec (fun _ => ?_) (fun _ => ?_)
    | refine gK_any ?_ ?_
    | refine gqK_dec (fun _ => ?_) (fun _ => ?_)
    | refine ⟨by omega, ?_⟩
    | refine elemHave (by omega) (by assumption) ?_
    | refine elemMap (by omega) (by omega) (fun x hx => ?_)
    | refine drawK mo (by kernel_rfl) ?_
    | (refine ⟨⟨by simp, by simp; omega⟩, ?_⟩)
    | (rw [e]; exact ⟨_, rfl, false, .tok _ _ _⟩)

theorem var17 (n : DFlow) (name : ByteArray) (hl : (allW n).length ≤ 4294967296) : PCall Tryz.prog 17 [n.enc, .s name] (varA (varF name (allW n))) := by
  refine pcall_of_vc tabOK Tryz.func17 (by kernel_rfl) rfl (by first | exact pureL | exact pureI) (pure_varA _) (n := 28) rfl (rs := [.cell 4 45, .tmp 5]) rfl ?_
  repeat' first
    | exact finB rfl
    | exact finI rfl
    | exact finP rfl
    | exact absurd rfl (by assumption)
    | simp only [go_sem]
    | (intro _)
    | refine brK_dec (fun _ => ?_) (fun _ => ?_)
    | refine brK_any ?_ ?_
    | refine gK_dec (fun _ => ?_) (fun _ => ?_)
    | refine gK_any ?_ ?_
    | refine gqK_dec (fun _ => ?_) (fun _ => ?_)
    | refine ⟨by omega, ?_⟩
    | refine elemHave (by omega) (by assumption) ?_
    | refine elemMap (by omega) (by omega) (fun x hx => ?_)
    | refine drawK mo (by kernel_rfl) ?_
    | (refine PCall.call (all14 n hl) ?_)
    | (rw [← hpi, List.drop_of_length_le (by omega)]; simp only [varF]; exact ⟨_, rfl, false, zero_varA (k := none)⟩)
    | (rw [varF_found (by assumption) (by assumption) hpi]; exact ⟨_, (by first | (simp only [go_sem]; done) | (simp only [go_sem]; exact rfl) | exact rfl), false, .refl _⟩)
    | exact loopFrH _ (by omega) ⟨i + 1, by omega, rfl, varF_next (by assumption) (by assumption) hpi, rfl⟩ (.next rfl (by omega) .nil) rfl
    | (refine loop_frH [5, 7, 10, 11, 12, 13, 14, 15, 16, 17, 18, 19, 20, 21, 22, 23, 24, 25, 26] (fun mm_ CC_ => ∃ (i : Nat), i ≤ (allW n).length ∧ mm_ = (allW n).length - i ∧ (varF name ((allW n).drop i) = varF name (allW n)) ∧ CC_ = [(7, .raw (.int .i64 ((i : Nat) : Int)))]) ((allW n).length) _ ⟨0, by omega, by omega, rfl, rfl⟩ (.cons rfl .nil) ?_; rintro mm_ CC_ ji ⟨i, hi, rfl, hpi, rfl⟩)
end Go.Proofs.YtpamokpmlplopaaGreatDoor

namespace Go.Proofs.YtpamokpmlplopaaGreatDoor
open Go.Abs
set_option maxRecDepth 20000
set_option linter.unusedSimpArgs false
set_option linter.unusedVariables false
set_option maxHeartbeats 1000000
attribute [local irreducible] vc vcOps vcStep vcGuard prK hrK gK gsK brK callK ElemK SeqK BlockK ScopeK OpsK CallK LoopK LoopGo finPost ACall PCall PCallE BCall vqOps vqStep vqGuard qrK heK pcK gqK gqsK QOpsK qcallK DrawK
theorem lst_flatN {sz : Nat} {l : List AV} (h : Go.Abs.Pure (.lst sz l none)) : ∀ c ∈ flat l, Go.Abs.Pure c := by cases h with | lst _ _ h => exact h

theorem reads16T (q : DPlain) (hl : q.Args.length + q.On.length ≤ 100000) {h : List Blk} {K : AV → List Blk → Prop} (hK : K (.lst 1 ((readsP q).map AV.s) (some h.length)) (h ++ [.tok 9 1 (readsP q).length])) : ACall Tryz.prog 16 [q.enc] h K := by
  refine tcall (e := 9) (sz := 1) (l := (readsP q).map AV.s) (fun KK hk0 => ?_) (pure_cons (DPlain.pure q) pure_nil) (lst_flatN (pure_strs _)) (by simpa using hK)
  refine acallT_of_vc tabOK Tryz.func16 (by kernel_rfl) rfl (n := 45) rfl (rs := [.tmp 2]) rfl (e := 9) (sz := 1) (l := (readsP q).map AV.s) ?_
  simp only [go_sem]
  intro _
  refine loop_ghost (ghost_cell (t := 46) (cs := [.raw (.slice none 0 0)]) 1 0 9 1 (by rfl) (by rfl)) ?_
  repeat' first
    | exact finB rfl
    | exact finI rfl
    | exact finP rfl
    | exact absurd rfl (by assumption)
    | simp only [go_sem]
    | (intro _)
    | refine brK_dec (fun _ => ?_) (fun _ => ?_)
    | refine brK_split (fun hb_ => ?_) (fun hb_ => ?_)
    | refine gK_dec (fun _ => ?_) (fun _ => ?_)
    | refine gK_split (fun hb_ => ?_) (fun hb_ => ?_)
    | refine gqK_dec (fun _ => ?_) (fun _ => ?_)
    | refine ⟨by omega, ?_⟩
    | refine elemHave (by omega) (by assumption) ?_
    | refine elemMap (by omega) (by omega) (fun x hx => ?_)
    | refine drawK mo (by kernel_rfl) ?_
    | (exact finTk (k := 2) hk0 rfl (by rw [hpj.done (by assumption)]) rfl (by rw [hpj.done (by assumption)]; simp) (lst_flatN (pure_strs _)))
    | (refine need140 _ _ _ _ (by have := hpi.2; omega) (fun r9 => ?_))
    | (refine need140 _ _ _ _ (by have := hpj.2; omega) (fun r9 => ?_))
    | exact loopFr _ (by omega) ⟨i + 1, addF acc x.Var, _, by omega, rfl, hpi.next (by assumption) (by assumption), rfl, (by first | rfl | (simp; done) | (simp; rfl))⟩ (.next rfl (by omega) .nil) rfl
    | (refine loop_fr [6, 13, 14, 15, 16, 17, 18, 19, 20, 21, 22, 23, 24] (fun mm_ CC_ hh_ => ∃ (i : Nat) (acc : List ByteArray) (r_ : List Blk), i ≤ q.Args.length ∧ mm_ = q.Args.length - i ∧ (okN q i acc) ∧ CC_ = [(13, .raw (.int .i64 ((i : Nat) : Int)))] ∧ hh_ = plainB q :: accB acc :: .tok 9 1 acc.length :: r_) (q.Args.length) _ ⟨0, [], _, by omega, by omega, .zero, rfl, (by first | rfl | (simp; done) | (simp; rfl))⟩ (.cons (by first | rfl | (simp; done) | (simp; rfl)) .nil) ?_; rintro mm_ CC_ ji hh_ ⟨i, acc, ri, hi, rfl, hpi, rfl, rfl⟩)
    | exact loopFr _ (by omega) ⟨i + 1, acc, _, by omega, rfl, hpi.skip (by assumption), rfl, (by first | rfl | (simp; done) | (simp; rfl))⟩ (.next rfl (by omega) .nil) rfl
    | (refine loop_fr [6, 13, 14, 15, 16, 17, 18, 19, 20, 21, 22, 23, 24] (fun mm_ CC_ hh_ => ∃ (i : Nat) (acc : List ByteArray) (r_ : List Blk), i ≤ q.Args.length ∧ mm_ = q.Args.length - i ∧ (okN q i acc) ∧ CC_ = [(13, .raw (.int .i64 ((i : Nat) : Int)))] ∧ hh_ = plainB q :: accB acc :: .tok 9 1 acc.length :: r_) (q.Args.length) _ ⟨0, [], _, by omega, by omega, .zero, rfl, (by first | rfl | (simp; done) | (simp; rfl))⟩ (.cons (by first | rfl | (simp; done) | (simp; rfl)) .nil) ?_; rintro mm_ CC_ ji hh_ ⟨i, acc, ri, hi, rfl, hpi, rfl, rfl⟩)
    | exact loopFr _ (by omega) ⟨j + 1, addF ac2 x.Var, _, by omega, rfl, hpj.next (by assumption), rfl, (by first | rfl | (simp; done) | (simp; rfl))⟩ (.next rfl (by omega) .nil) rfl
    | (refine loop_fr [8, 35, 36, 37, 38, 39, 40, 41, 42, 43] (fun mm_ CC_ hh_ => ∃ (j : Nat) (ac2 : List ByteArray) (r_ : List Blk), j ≤ q.On.length ∧ mm_ = q.On.length - j ∧ (okM q j ac2) ∧ CC_ = [(35, .raw (.int .i64 ((j : Nat) : Int)))] ∧ hh_ = plainB q :: accB ac2 :: .tok 9 1 ac2.length :: r_) (q.On.length) _ ⟨0, addF acc q.Every.Var, _, by omega, by omega, .zeroT hpi hi (by assumption) hb_, rfl, (by first | rfl | (simp; done) | (simp; rfl))⟩ (.cons (by first | rfl | (simp; done) | (simp; rfl)) .nil) ?_; rintro mm_ CC_ jj hh_ ⟨j, ac2, rj, hj, rfl, hpj, rfl, rfl⟩)
    | exact loopFr _ (by omega) ⟨j + 1, addF ac2 x.Var, _, by omega, rfl, hpj.next (by assumption), rfl, (by first | rfl | (simp; done) | (simp; rfl))⟩ (.next rfl (by omega) .nil) rfl
    | (refine loop_fr [8, 35, 36, 37, 38, 39, 40, 41, 42, 43] (fun mm_ CC_ hh_ => ∃ (j : Nat) (ac2 : List ByteArray) (r_ : List Blk), j ≤ q.On.length ∧ mm_ = q.On.length - j ∧ (okM q j ac2) ∧ CC_ = [(35, .raw (.int .i64 ((j : Nat) : Int)))] ∧ hh_ = plainB q :: accB ac2 :: .tok 9 1 ac2.length :: r_) (q.On.length) _ ⟨0, acc, _, by omega, by omega, .zeroF hpi hi (by assumption) hb_, rfl, (by first | rfl | (simp; done) | (simp; rfl))⟩ (.cons (by first | rfl | (simp; done) | (simp; rfl)) .nil) ?_; rintro mm_ CC_ jj hh_ ⟨j, ac2, rj, hj, rfl, hpj, rfl, rfl⟩)
noncomputable def cFn (l : List (ByteArray × List DCond)) (x : DVar) : Nat × Bool := ((l.filter fun y => decide (y.1 = x.Name)).length, (l.filter fun y => decide (y.1 = x.Name)).all fun y => eqB y.2 x.On)
theorem cFn_le (l : List (ByteArray × List DCond)) (x : DVar) : (cFn l x).1 ≤ l.length := List.length_filter_le _ _
theorem cFn_yes {l : List (ByteArray × List DCond)} {x : DVar} {s : ByteArray} {on : List DCond} (h : s = x.Name) : cFn (l ++ [(s, on)]) x = ((cFn l x).1 + 1, (cFn l x).2 && eqB on x.On) := by
  unfold cFn
  rw [List.filter_append, List.filter_cons, if_pos (by simp [h])]
  simp
theorem cFn_no {l : List (ByteArray × List DCond)} {x : DVar} {s : ByteArray} {on : List DCond} (h : ¬ s = x.Name) : cFn (l ++ [(s, on)]) x = cFn l x := by
  unfold cFn
  rw [List.filter_append, List.filter_cons, if_neg (by simp [h])]
  simp
theorem prs_next {l : List DPlain} {i : Nat} {q : DPlain} (h : l[i]? = some q) : prsN (l.take (i + 1)) = prsN (l.take i) ++ q.Names.map fun s => (s, q.On) := by
  rw [List.take_add_one, h, prs_app]
  simp [prsN]

theorem count15 (f : DFlow) (x : DVar) (hl : (prsN f.Eqs).length ≤ 1000000) : PCall Tryz.prog 15 [f.enc, x.enc] (.tup [.i ((cFn (prsN f.Eqs) x).1 : Nat), .b (cFn (prsN f.Eqs) x).2]) := by
  have hpre : ∀ i, (prsN (f.Eqs.take i)).length ≤ 1000000 := fun i => by
    have : prsN f.Eqs = prsN (f.Eqs.take i) ++ prsN (f.Eqs.drop i) := by rw [← prs_app, List.take_append_drop]
    rw [this, List.length_append] at hl
    omega
  refine pcall_of_vc tabOK Tryz.func15 (by kernel_rfl) rfl (by first | exact pureL | exact pureI) (.tup _ (pure_cons (.raw _) (pure_cons (.raw _) pure_nil))) (n := 56) rfl (rs := [.tmp 4, .tmp 5]) rfl ?_
  simp only [go_sem]
  refine loop_frH [6, 7, 8, 9, 10, 11, 12, 13, 14, 15, 16, 17, 18, 19, 20, 21, 22, 23, 24, 25, 26, 27, 28, 29, 30, 31, 32, 33, 34, 35, 36, 37, 38, 39, 40, 41, 42, 43, 44, 45, 46, 47, 48, 49, 50, 51, 52, 53] (fun mm C => ∃ i : Nat, i ≤ f.Eqs.length ∧ mm = f.Eqs.length - i ∧ C = [(8, .raw (.int .i64 (i : Nat))), (6, .i ((cFn (prsN (f.Eqs.take i)) x).1 : Nat)), (7, .b (cFn (prsN (f.Eqs.take i)) x).2)]) f.Eqs.length _ ⟨0, by omega, by omega, rfl⟩ (.cons rfl (.cons (by simp [cFn, prsN]) (.cons (by simp [cFn, prsN]) .nil))) ?_
  rintro mm C j1 ⟨i, hi, rfl, rfl⟩
  simp only [go_sem]
  intro _
  refine brK_dec (fun hlt => ?_) (fun hge => ?_)
  · obtain ⟨q, hq⟩ : ∃ q, f.Eqs[i]? = some q := ⟨_, List.getElem?_eq_getElem (by omega)⟩
    have hpr := hpre (i + 1)
    have hnx := prs_next hq
    rw [hnx, List.length_append, List.length_map] at hpr
    generalize prsN (f.Eqs.take i) = L at hpr hnx ⊢
    simp only [go_sem]
    refine loop_frH [6, 7, 9, 17, 18, 19, 20, 21, 22, 23, 24, 25, 26, 27, 28, 29, 30, 31, 32, 33, 34, 35, 36, 37, 38, 39, 40, 41, 42, 43, 44, 45, 46, 47, 48, 49, 50, 51, 52, 53] (fun mm C => ∃ j : Nat, j ≤ q.Names.length ∧ mm = q.Names.length - j ∧ C = [(9, .raw (.int .i64 (j : Nat))), (6, .i ((cFn (L ++ (q.Names.take j).map fun s => (s, q.On)) x).1 : Nat)), (7, .b (cFn (L ++ (q.Names.take j).map fun s => (s, q.On)) x).2)]) q.Names.length _ ⟨0, by omega, by omega, rfl⟩ (.cons rfl (.cons (by simp) (.cons (by simp) .nil))) ?_
    rintro mm C j2 ⟨j, hj, rfl, rfl⟩
    simp only [go_sem]
    refine elemHave (x := q) (by omega) (by simpa using hq) ?_
    simp only [go_sem]
    intro _
    refine brK_dec (fun hlt2 => ?_) (fun hge2 => ?_)
    · obtain ⟨s, hs⟩ : ∃ s, q.Names[j]? = some s := ⟨_, List.getElem?_eq_getElem (by omega)⟩
      have hst : L ++ (q.Names.take (j + 1)).map (fun s => (s, q.On)) = (L ++ (q.Names.take j).map fun s => (s, q.On)) ++ [(s, q.On)] := by
        rw [List.take_add_one, hs]
        simp
      have hle := cFn_le (L ++ (q.Names.take j).map fun s => (s, q.On)) x
      rw [List.length_append, List.length_map, List.length_take] at hle
      have hle2 : (cFn (L ++ (q.Names.take j).map fun s => (s, q.On)) x).1 ≤ 1000000 := by omega
      have hyes := fun h => cFn_yes (l := L ++ (q.Names.take j).map fun s => (s, q.On)) (x := x) (s := s) (on := q.On) h
      have hno := fun h => cFn_no (l := L ++ (q.Names.take j).map fun s => (s, q.On)) (x := x) (s := s) (on := q.On) h
      rw [← hst] at hyes hno
      generalize cFn (L ++ (q.Names.take j).map fun s => (s, q.On)) x = cc at hle2 hyes hno ⊢
      obtain ⟨c, b⟩ := cc
      dsimp only at hle2 hyes hno
      have hw : IntKind.i64.wrap ((c : Int) + 1) = ((c + 1 : Nat) : Int) := by rw [wrap_in _ (by omega) (by omega)]; omega
      simp only [go_sem]
      refine drawK mo (by kernel_rfl) ?_
      simp only [go_sem]
      refine elemHave (x := q) (by omega) (by simpa using hq) ?_
      simp only [go_sem]
      refine elemHave (x := s) (by omega) (by simpa using hs) ?_
      simp only [go_sem]
      refine brK_dec (fun he => ?_) (fun he => ?_)
      · have hy := hyes he
        simp only [go_sem, hw]
        refine drawK mo (by kernel_rfl) ?_
        cases b with
        | true =>
          simp only [go_sem, hw]
          refine elemHave (x := q) (by omega) (by simpa using hq) ?_
          simp only [go_sem, hw]
          refine pcK_of (sameConds _ _) ?_
          generalize he : eqB (α := List DCond) _ _ = e at hy ⊢
          simp only [go_sem, hw]
          exact loopFrH _ (by omega) ⟨j + 1, by omega, rfl, rfl⟩ (.next rfl (by omega) (.cons (by rw [hy]; rfl) (.cons (by rw [hy]; rfl) .nil))) rfl
        | false =>
          simp only [go_sem, hw]
          exact loopFrH _ (by omega) ⟨j + 1, by omega, rfl, rfl⟩ (.next rfl (by omega) (.cons (by rw [hy]; rfl) (.cons (by rw [hy]; rfl) .nil))) rfl
      · have hn := hno he
        simp only [go_sem]
        exact loopFrH _ (by omega) ⟨j + 1, by omega, rfl, rfl⟩ (.next rfl (by omega) (.cons (by rw [hn]; rfl) (.cons (by rw [hn]; rfl) .nil))) rfl
    · rw [List.take_of_length_le (by omega), ← hnx]
      simp only [go_sem]
      exact loopFrH _ (by omega) ⟨i + 1, by omega, rfl, rfl⟩ (.next rfl (by omega) (.cons rfl (.cons rfl .nil))) rfl
  · rw [List.take_of_length_le (by omega)]
    simp only [go_sem]
    exact ⟨_, rfl, false, .refl _⟩
theorem allW_eq (f : DFlow) : allW f = f.Ins ++ (f.Outs ++ f.Vars) := by simp [allW]
theorem prs_len {l : List DPlain} (h : ∀ q ∈ l, szQ q) : (prsN l).length ≤ 20 * l.length := by
  induction l with
  | nil => simp [prsN]
  | cons q l ih =>
    have h1 := (h q List.mem_cons_self).1
    have h2 := ih fun x hx => h x (List.mem_cons_of_mem _ hx)
    have : prsN (q :: l) = (q.Names.map fun s => (s, q.On)) ++ prsN l := rfl
    rw [this, List.length_append, List.length_map, List.length_cons]
    omega
theorem reads_len (q : DPlain) : (readsP q).length ≤ q.Args.length + 1 + q.On.length := by
  unfold readsP
  refine Nat.le_trans (List.length_filter_le _ _) ?_
  unfold rawP argsP
  rw [List.length_append, List.length_append, List.length_map]
  split <;> split <;> simp <;> omega

set_option maxHeartbeats 8000000 in
theorem law_once21 (p : DProg) : PCall Tryz.prog 4 [p.enc] (.b true) := by
  refine pcall_of_vc tabOK Tryz.func4 (by kernel_rfl) rfl (by first | exact pureL | exact pureI) (.raw _) (n := 134) rfl (rs := [.tmp 2]) rfl ?_
  simp only [go_sem]
  refine PCallE.call (small_p p) ?_
  rintro _ ⟨b, rfl, hb⟩
  cases b with
  | false =>
    simp only [go_sem]
    refine PCall.call live21 ?_
    simp only [go_sem]
    exact finBq rfl rfl
  | true =>
  have hp := hb rfl
  have hfl := flows10 p hp
  by_cases h0 : (startF p).Err = 0
  · rw [norm_ok h0] at hfl
    have hnl := nodesNm_len p p.Nodes 0
    have hat := fun i => nodesNm_at p (l := p.Nodes) (i := 0) (j := i)
    have hpl := hp.2.1
    have hall : ∀ (i : Nat) f, (nodesNm p 0 p.Nodes)[i]? = some f → (∀ x ∈ f.Ins, (cntN f x).1 = 0) ∧ (∀ x ∈ f.Outs ++ f.Vars, cntN f x = (1, true)) ∧ (∀ q ∈ f.Eqs, ∀ s ∈ readsP q ++ q.Names, s ∈ (allN f).map DVar.Name) ∧ (∀ q ∈ f.Eqs, szQ q) ∧ f.Eqs.length ≤ 2700 ∧ (allW f).length ≤ 3000 := fun i f hf => by
      rw [hat] at hf
      cases hn : p.Nodes[i]? with
      | none => rw [hn] at hf; cases hf
      | some n =>
        rw [hn] at hf
        have hf := Option.some.inj hf
        rw [Nat.zero_add] at hf
        subst hf
        have hfit := node_fit h0 hn
        obtain ⟨z1, z2, z3, z4, z5⟩ := flow_sz h0 hp hn
        refine ⟨cnt_ins hfit, cnt_outs hfit, need_in hfit, z1, z2, ?_⟩
        rw [allW_eq, List.length_append, List.length_append]
        omega
    clear hat
    generalize nodesNm p 0 p.Nodes = N at hfl hnl hall
    simp only [go_sem]
    refine PCall.call hfl ?_
    simp only [go_sem]
    refine loop_frX [2, 5, 6, 7, 8, 9, 10, 11, 12, 13, 14, 15, 34, 35, 36, 37, 38, 39, 40, 41, 42, 43, 44, 45, 46, 47, 48, 49, 50, 51, 52, 53, 54, 55, 56, 57, 58, 59, 60, 61, 62, 63, 64, 65, 66, 67, 68, 69, 70, 71, 72, 73, 74, 75, 76, 77, 78, 79, 80, 81, 82, 83, 84, 85, 86, 87, 88, 89, 90, 91, 92, 93, 94, 95, 96, 97, 98, 99, 100, 101, 102, 103, 104, 105, 106, 107, 108, 109, 110, 111, 112, 113, 114, 115, 116, 117, 118, 119, 120, 121, 122, 123] (fun mm C => ∃ i : Nat, i ≤ N.length ∧ mm = N.length - i ∧ C = [(5, .raw (.int .i64 (i : Nat)))]) N.length _ ⟨0, by omega, by omega, rfl⟩ (.cons rfl .nil) ?_
    rintro mm C j1 r1 ⟨i, hi, rfl, rfl⟩
    simp only [go_sem]
    intro _
    refine brK_dec (fun hlt => ?_) (fun hge => ?_)
    · obtain ⟨f, hf⟩ : ∃ f, N[i]? = some f := ⟨_, List.getElem?_eq_getElem (by omega)⟩
      obtain ⟨f1, f2, f3, f4, f5, f6⟩ := hall i f hf
      have hprs := prs_len f4
      simp only [go_sem]
      refine elemHave (x := f) (by omega) (by simpa using hf) ?_
      simp only [go_sem]
      refine PCall.call (all14 f (by omega)) ?_
      simp only [go_sem]
      refine loop_frX [2, 8, 9, 10, 48, 49, 50, 51, 52, 53, 54, 55, 56, 57, 58, 59, 60, 61, 62, 63, 64, 65, 66, 67, 68, 69, 70, 71, 72, 73, 74, 75, 76, 77, 78, 79, 80, 81, 82, 83, 84, 85, 86] (fun mm C => ∃ k : Nat, k ≤ (allW f).length ∧ mm = (allW f).length - k ∧ C = [(8, .raw (.int .i64 (k : Nat)))]) (allW f).length _ ⟨0, by omega, by omega, rfl⟩ (.cons rfl .nil) ?_
      rintro mm C j2 r2 ⟨k, hk, rfl, rfl⟩
      simp only [go_sem]
      intro _
      refine brK_dec (fun hlt2 => ?_) (fun hge2 => ?_)
      · obtain ⟨x, hx⟩ : ∃ x, (allW f)[k]? = some x := ⟨_, List.getElem?_eq_getElem (by omega)⟩
        have hc := count15 f x (by omega)
        have hcn : cFn (prsN f.Eqs) x = cntN f x := rfl
        rw [hcn] at hc
        have hcase : (k < f.Ins.length ∧ (cntN f x).1 = 0) ∨ (¬ k < f.Ins.length ∧ cntN f x = (1, true)) := by
          rw [allW_eq] at hx
          by_cases hki : k < f.Ins.length
          · rw [List.getElem?_append_left hki] at hx
            exact .inl ⟨hki, f1 x (List.mem_of_getElem? hx)⟩
          · rw [List.getElem?_append_right (by omega)] at hx
            exact .inr ⟨hki, f2 x (List.mem_of_getElem? hx)⟩
        generalize cntN f x = cc at hc hcase
        obtain ⟨c, b⟩ := cc
        dsimp only at hc hcase
        simp only [go_sem]
        refine drawK mo (by kernel_rfl) ?_
        simp only [go_sem]
        refine elemHave (x := x) (by omega) (by simpa using hx) ?_
        simp only [go_sem]
        refine pcK_of hc ?_
        rcases hcase with ⟨hki, rfl⟩ | ⟨hki, hcc⟩
        · repeat' first
            | simp only [go_sem]
            | (intro _)
            | refine gK_dec (fun _ => ?_) (fun _ => ?_)
            | refine brK_dec (fun _ => ?_) (fun _ => ?_)
            | (exfalso; omega)
            | exact loopFrX _ (by omega) _ ⟨k + 1, by omega, rfl, rfl⟩ (.next rfl (by omega) .nil) rfl (by first | rfl | (simp only [List.append_assoc, List.cons_append, List.nil_append]; rfl))
        · cases hcc
          repeat' first
            | simp only [go_sem]
            | (intro _)
            | refine gK_dec (fun _ => ?_) (fun _ => ?_)
            | refine brK_dec (fun _ => ?_) (fun _ => ?_)
            | (exfalso; omega)
            | exact loopFrX _ (by omega) _ ⟨k + 1, by omega, rfl, rfl⟩ (.next rfl (by omega) .nil) rfl (by first | rfl | (simp only [List.append_assoc, List.cons_append, List.nil_append]; rfl))
      · simp only [go_sem]
        refine loop_frX [2, 11, 12, 13, 14, 15, 87, 88, 89, 90, 91, 92, 93, 94, 95, 96, 97, 98, 99, 100, 101, 102, 103, 104, 105, 106, 107, 108, 109, 110, 111, 112, 113, 114, 115, 116, 117, 118, 119, 120, 121, 122, 123] (fun mm C => ∃ k : Nat, k ≤ f.Eqs.length ∧ mm = f.Eqs.length - k ∧ C = [(11, .raw (.int .i64 (k : Nat)))]) f.Eqs.length _ ⟨0, by omega, by omega, rfl⟩ (.cons rfl .nil) ?_
        rintro mm C j3 r3 ⟨k2, hk2, rfl, rfl⟩
        simp only [go_sem]
        intro _
        refine brK_dec (fun hlt3 => ?_) (fun hge3 => ?_)
        · obtain ⟨q, hq⟩ : ∃ q, f.Eqs[k2]? = some q := ⟨_, List.getElem?_eq_getElem (by omega)⟩
          have hqm := List.mem_of_getElem? hq
          obtain ⟨q1, q2, q3⟩ := f4 q hqm
          have hrl := reads_len q
          have hin := f3 q hqm
          simp only [go_sem]
          refine drawM [] (.pur 0 (.pur 1 (.pur 2 (.pur 3 (.pur 4 (.pur 6 (.pur 7 (.pur 8 (.pur 9 (.pur 10 (.pur 11 (.eff 5 (.eff 12 (.pur 13 .nil)))))))))))))) mo (by kernel_rfl) ?_
          simp only [go_sem]
          refine elemHave (x := q) (by omega) (by simpa using hq) ?_
          simp only [go_sem]
          refine elemHave (x := q) (by omega) (by simpa using hq) ?_
          simp only [go_sem]
          refine reads16T q (by omega) ?_
          simp only [go_sem]
          refine And.intro (by first | omega | (simp; done) | (simp; omega)) ?_
          have hms : (readsP q).map AV.s ++ q.Names.map AV.s = (readsP q ++ q.Names).map AV.s := by rw [List.map_append]
          simp only [hms]
          have hwl : (readsP q ++ q.Names).length ≤ 3000 := by rw [List.length_append]; omega
          generalize readsP q ++ q.Names = W at hin hwl ⊢
          try simp only [go_sem]
          refine loop_frX [2, 13, 14, 15, 107, 108, 109, 110, 111, 112, 113, 114, 115, 116, 117, 118, 119, 120, 121, 122, 123] (fun mm C => ∃ j : Nat, j ≤ W.length ∧ mm = W.length - j ∧ C = [(13, .raw (.int .i64 (j : Nat)))]) W.length _ ⟨0, by omega, by omega, rfl⟩ (.cons rfl .nil) ?_
          rintro mm C j4 r4 ⟨j, hj, rfl, rfl⟩
          simp only [go_sem]
          intro _
          refine brK_dec (fun hlt4 => ?_) (fun hge4 => ?_)
          · obtain ⟨s, hs⟩ : ∃ s, W[j]? = some s := ⟨_, List.getElem?_eq_getElem (by omega)⟩
            have hok : (varF s (allW f)).2 = true := varF_in (by
              rw [allW_eq]
              exact hin s (List.mem_of_getElem? hs))
            have hv := var17 f s (by omega)
            generalize varF s (allW f) = v at hv hok
            obtain ⟨v, ok⟩ := v
            dsimp only at hok
            subst hok
            simp only [go_sem]
            refine drawK mo (by kernel_rfl) ?_
            simp only [go_sem]
            refine elemHave (x := s) (by omega) (by simpa using hs) ?_
            simp only [go_sem]
            refine pcK_of hv ?_
            simp only [go_sem]
            exact loopFrX _ (by omega) _ ⟨j + 1, by omega, rfl, rfl⟩ (.next rfl (by omega) .nil) rfl (by first | rfl | (simp only [List.append_assoc, List.cons_append, List.nil_append]; rfl))
          · simp only [go_sem]
            exact loopFrX _ (by omega) _ ⟨k2 + 1, by omega, rfl, rfl⟩ (.next rfl (by omega) .nil) rfl (by first | rfl | (simp only [List.append_assoc, List.cons_append, List.nil_append]; rfl))
        · simp only [go_sem]
          exact loopFrX _ (by omega) _ ⟨i + 1, by omega, rfl, rfl⟩ (.next rfl (by omega) .nil) rfl (by first | rfl | (simp only [List.append_assoc, List.cons_append, List.nil_append]; rfl))
    · repeat' first
        | simp only [go_sem]
        | (intro _)
        | refine gK_dec (fun _ => ?_) (fun _ => ?_)
        | (exfalso; omega)
        | refine PCall.call live21 ?_
        | exact finBq rfl rfl
  · rw [norm_no h0] at hfl
    simp only [go_sem]
    refine PCall.call hfl ?_
    repeat' first
      | simp only [go_sem]
      | (intro _)
      | refine gK_dec (fun _ => ?_) (fun _ => ?_)
      | (exfalso; omega)
      | refine PCall.call live21 ?_
      | exact finBq rfl rfl
end Go.Proofs.YtpamokpmlplopaaGreatDoor
