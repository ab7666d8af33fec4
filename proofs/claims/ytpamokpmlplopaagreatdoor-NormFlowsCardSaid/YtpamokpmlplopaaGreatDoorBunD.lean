/-
  TyG, TyH, TyO, TyP, TyQ, TyR, TyI, TyW, TyC, TyV, TyX, TyY, TyS, TyT, TyU, TyZ, TyOf, FirstF, ScopeP1, ScopeP2, ScopeP3, ChkP2, ChkP3, ChkP4, ScopeP4, ChkX, ChkX2, ScopeX1, ScopeX2, ScopeX3, ScopeL, TyK, Reverse, Clock, Fits1, Fits2, Fits3, Fits4, Fits5, Fits6, Fits7, Fits8, Fits9: put together.
-/
import Derived.Test.YtpamokpmlplopaaGreatDoorBunA
import Derived.Test.YtpamokpmlplopaaGreatDoorBunB
import Derived.Test.YtpamokpmlplopaaGreatDoorBunC
namespace Go.Proofs.YtpamokpmlplopaaGreatDoor
open Go.Abs
set_option maxRecDepth 20000
set_option linter.unusedSimpArgs false
set_option linter.unusedVariables false
set_option maxHeartbeats 1000000
attribute [local irreducible] vc vcOps vcStep vcGuard prK hrK gK gsK brK callK ElemK SeqK BlockK ScopeK OpsK CallK LoopK LoopGo finPost ACall PCall PCallE BCall vqOps vqStep vqGuard qrK heK pcK gqK gqsK QOpsK qcallK DrawK
def cellsT (L: List DEnum) (subs: List Ex): List Int × DTy × Bool :=
 if (subs.all (fun x => (litT L x).2.2) && sameT (subs.map fun x => (litT L x).2.1)) = true then (subs.map (fun x => (litT L x).1),(subs.map fun x => (litT L x).2.1).headD ty0,true) else ([],ty0,false)
noncomputable def constT (L: List DEnum) (e: Ex): List Int × DTy × Bool :=
 if (rightE e && constE e) = true then (if e.kind = 14 then (if (cellsT L e.subs).2.2 = true then ((cellsT L e.subs).1,⟨(cellsT L e.subs).2.1.Kind,(cellsT L e.subs).2.1.Enum,((cellsT L e.subs).1.length: Int)⟩,true) else ([],ty0,false)) else cellsT L [e]) else ([],ty0,false)
abbrev constA (q: List Int × DTy × Bool): AV := .tup [.lst 1 (q.1.map AV.i) none,q.2.1.enc,.b q.2.2]
theorem pure_constA (q: List Int × DTy × Bool): Go.Abs.Pure (constA q) := .tup _ (pure_cons (pure_ints _) (pure_cons (DTy.pure _) (pure_cons (.raw _) pure_nil)))
theorem weak_constA {v: AV} {l: List Int} {t: DTy} {ok: Bool} {a b c: Int} (hv: Weak v (.lst 1 (l.map AV.i) none)) (ht: t = ⟨a,b,c⟩): Weak (oneOrTup [v,.agg [.i a,.i b,.i c],.b ok]) (constA (l,t,ok)) := by
 subst ht
 show Weak (.tup [v,.agg [.i a,.i b,.i c],.b ok]) (.tup [.lst 1 (l.map AV.i) none,DTy.enc _,.b ok])
 rw [DTy.enc_eq]
 exact Weak.tup _ _ rfl (fun i c d hc hd => by match i with | 0 => (cases hc; cases hd; exact hv) | 1 => (cases hc; cases hd; exact .refl _) | 2 => (cases hc; cases hd; exact .refl _) | i + 3 => simp at hc)
theorem finC0 {T: TypeId → TI} {rs: List ResultVar} {s: List AV} {h: List Blk} {q: List Int × DTy × Bool} (hr: resAV T s h rs = some [.raw (.slice none 0 0),.agg [.i 0,.i 0,.i 0],.b false]) (hq: q = ([],ty0,false)): Go.Abs.Fin T rs (constA q) s h := by
 subst hq
 exact ⟨_,hr,false,weak_constA (.nil _) rfl⟩
theorem finCk {T: TypeId → TI} {rs: List ResultVar} {s: List AV} {h: List Blk} {q: List Int × DTy × Bool} {l: List Int} {k: Nat} {a b c: Int} {ok: Bool} (hr: resAV T s h rs = some [.lst 1 (l.map AV.i) (some k),.agg [.i a,.i b,.i c],.b ok]) (hq: q = (l,⟨a,b,c⟩,ok)): Go.Abs.Fin T rs (constA q) s h := by
 subst hq
 exact ⟨_,hr,false,weak_constA (.tok _ _ _) rfl⟩
theorem finCn {T: TypeId → TI} {rs: List ResultVar} {s: List AV} {h: List Blk} {q: List Int × DTy × Bool} {l: List Int} {a b c: Int} {ok: Bool} (hr: resAV T s h rs = some [.lst 1 (l.map AV.i) none,.agg [.i a,.i b,.i c],.b ok]) (hq: q = (l,⟨a,b,c⟩,ok)): Go.Abs.Fin T rs (constA q) s h := by
 subst hq
 exact ⟨_,hr,false,weak_constA (.refl _) rfl⟩
theorem lit5 {x: Ex} (h: litE x = true): x.kind = 5 → 0 < x.subs.length := by
 intro h5
 unfold litE at h
 rw [if_pos h5] at h
 simp only [Bool.and_eq_true,decide_eq_true_eq] at h
 omega
theorem cells_no {L: List DEnum} {subs: List Ex} {i: Nat} {x: Ex} (hx: subs[((i: Nat): Int).toNat]? = some x) (h: (litT L x).2.2 = false): cellsT L subs = ([],ty0,false) := by
 unfold cellsT
 rw [List.all_eq_false.2 ⟨x,List.mem_of_getElem? hx,by simp [h]⟩]
 rfl
theorem cellsP (L: List DEnum) (subs: List Ex) (hb: subs.length ≤ 100000) (h0: 0 < subs.length) (hl: ∀ x ∈ subs,litE x = true): PCall Tryz.prog 136 [.lst 2 (L.map DEnum.enc) none,.lst 6 (subs.map Ex.enc) none] (constA (cellsT L subs)) := by
 refine pcall_of_vc tabOK Tryz.func136 (by kernel_rfl) rfl (by first | exact pureL | exact pureI) (pure_constA _) (n := 47) rfl (rs := [.tmp 4,.cell 5 42,.tmp 6]) rfl ?_
 simp only [go_sem]
 intro _
 refine loop_ghost (ghost_tok 7 2 1 rfl) ?_
 refine loop_ghost (ghost_tok 8 42 3 rfl) ?_
 refine loop_fr [4,6,7,8,10,11,12,13,16,17,18,19,20,21,22,23,24,25,26,27,28,29,30,31,32,33,34,35,36,37,38] (fun m C hh => ∃ (i: Nat) (r: List Blk),i ≤ subs.length ∧ m = subs.length - i ∧ (∀ x ∈ subs.take i,(litT L x).2.2 = true) ∧ C = [(16,.raw (.int .i64 (i: Nat))),(7,.lst 1 (((subs.take i).map fun x => (litT L x).1).map AV.i) (some 1)),(8,.lst 3 (((subs.take i).map fun x => (litT L x).2.1).map DTy.enc) (some 2))] ∧
  hh = .cells 42 [.i 0,.i 0,.i 0] :: .tok 2 1 (subs.take i).length :: .tok 42 3 (subs.take i).length :: r) subs.length _ ⟨0,[],by omega,by omega,by simp,rfl,rfl⟩ (.cons rfl (.cons rfl (.cons rfl .nil))) ?_
 rintro m C ja hh ⟨i,r,hi,rfl,hp,rfl,rfl⟩
 simp only [go_sem]
 refine brK_dec (fun hlt => ?_) (fun hge => ?_)
 ·
  simp only [go_sem]
  refine elemMap (by omega) (by omega) (fun x hx => ?_)
  have hli: (subs.take i).length = i := by rw [List.length_take]; omega
  have hli2: (subs.take (i + 1)).length = i + 1 := by rw [List.length_take]; omega
  have hst1 := take_mapS (f := fun x => (litT L x).1) hx
  have hst2 := take_mapS (f := fun x => (litT L x).2.1) hx
  try simp only [go_sem]
  refine PCall.call (litP L x (lit5 (hl x (List.mem_of_getElem? hx)))) ?_
  generalize hq: litT L x = q at hst1 hst2
  obtain ⟨v,t,ok⟩ := q
  cases ok with
  | false =>
   simp only [go_sem]
   exact finC0 rfl (cells_no hx (by rw [hq]))
  | true =>
   simp only [go_sem]
   refine ⟨by omega,by omega,?_⟩
   exact loopFr _ (by omega) ⟨i + 1,_,by omega,rfl,take_all hp (by simpa using hx) (by rw [hq]),rfl,by rw [hli2,hli]⟩ (.next rfl (by omega) (.cons (by rw [hst1]; simp [slot]) (.cons (by rw [hst2]; simp [slot]) .nil))) rfl
 ·
  simp only [go_sem]
  rw [List.take_of_length_le (by omega)] at hp ⊢
  have hall: subs.all (fun x => (litT L x).2.2) = true := List.all_eq_true.2 hp
  refine PCall.callW (sameP (subs.map fun x => (litT L x).2.1)) ⟨.tok _ _ _,trivial⟩ ?_
  have hc: cellsT L subs = if sameT (subs.map fun x => (litT L x).2.1) = true then (subs.map (fun x => (litT L x).1),(subs.map fun x => (litT L x).2.1).headD ty0,true) else ([],ty0,false) := by
   unfold cellsT
   rw [hall,Bool.true_and]
  rw [hc]
  generalize sameT (subs.map fun x => (litT L x).2.1) = b
  cases b with
  | false =>
   simp only [go_sem]
   exact finC0 rfl rfl
  | true =>
   have hlen: (subs.map fun x => (litT L x).2.1).length = subs.length := List.length_map _
   generalize (subs.map fun x => (litT L x).2.1) = W at hlen
   simp only [go_sem]
   refine drawC [0] mo (by kernel_rfl) ?_
   simp only [go_sem]
   refine elemMap (by omega) (by omega) (fun t ht => ?_)
   have hh := headD_at ht
   simp only [go_sem]
   exact finCk rfl (by rw [if_pos trivial,hh])
theorem right_self {e: Ex} (h: rightE e = true): partE e = true := by
 unfold rightE at h
 simp only [Bool.and_eq_true] at h
 exact List.all_eq_true.1 h.2 e (self_parts e)
theorem const_lits {e: Ex} (hr: rightE e = true) (hc: constE e = true): (e.kind = 14 → (∀ x ∈ e.subs,litE x = true) ∧ 0 < e.subs.length) ∧ (¬ e.kind = 14 → litE e = true) := by
 unfold constE at hc
 refine ⟨fun h => ?_,fun h => ?_⟩
 ·
  rw [if_pos h] at hc
  refine ⟨List.all_eq_true.1 hc,?_⟩
  have := (partE_len (right_self hr)).1
  have h1: (subsE e).1 = 1 := by simp [subsE,h]
  omega
 ·
  rw [if_neg h] at hc
  exact hc
theorem subs_le {e: Ex} (ho: okE e): e.subs.length ≤ 200 := by
 have h1 := ho.1
 have h2: ∀ l: List Ex,l.length ≤ (partsL l).length := by
  intro l
  induction l with
  | nil => simp [partsL]
  | cons x l ih =>
   have: 1 ≤ (parts x).length := by rw [parts_eq]; simp
   simp only [partsL,List.length_append,List.length_cons]; omega
 have h3 := h2 e.subs
 rw [parts_eq,List.length_cons] at h1
 omega
theorem constP (L: List DEnum) (e: Ex) (ho: okE e): PCall Tryz.prog 94 [.lst 2 (L.map DEnum.enc) none,e.enc] (constA (constT L e)) := by
 have hsl := subs_le ho
 refine pcall_of_vc tabOK Tryz.func94 (by kernel_rfl) rfl (by first | exact pureL | exact pureI) (pure_constA _) (n := 44) rfl (rs := [.tmp 4,.cell 5 42,.tmp 6]) rfl ?_
 unfold constT
 have hlits := const_lits (e := e)
 simp only [go_sem]
 refine PCall.call (right16 e ho) ?_
 generalize rightE e = r at hlits
 cases r with
 | false =>
  simp only [go_sem]
  exact finC0 rfl (by simp)
 | true =>
 simp only [go_sem]
 refine PCall.call (const18 e) ?_
 generalize constE e = k at hlits
 cases k with
 | false =>
  simp only [go_sem]
  exact finC0 rfl (by simp)
 | true =>
 obtain ⟨l1,l2⟩ := hlits rfl rfl
 simp only [go_sem]
 refine brK_dec (fun h => ?_) (fun h => ?_)
 ·
  simp only [go_sem]
  refine PCall.callW (cellsP L [e] (by simp) (by simp) (fun x hx => by rw [List.mem_singleton.1 hx]; exact l2 h)) ⟨.refl _,.tok _ _ _,trivial⟩ ?_
  generalize hq: cellsT L [e] = q
  obtain ⟨l,t,ok⟩ := q
  simp only [go_sem]
  exact finCn rfl (by simp [h])
 ·
  have h14: e.kind = 14 := Classical.not_not.1 h
  simp only [go_sem]
  refine PCall.call (cellsP L e.subs (by omega) (l1 h14).2 (l1 h14).1) ?_
  generalize hq: cellsT L e.subs = q
  obtain ⟨l,t,ok⟩ := q
  cases ok with
  | false =>
   have hq0: l = [] ∧ t = ty0 := by
    unfold cellsT at hq
    split at hq
    ·
     cases hq
    ·
     cases hq; exact ⟨rfl,rfl⟩
   obtain ⟨rfl,rfl⟩ := hq0
   simp only [go_sem]
   refine drawC [1] mo (by kernel_rfl) ?_
   simp only [go_sem]
   exact finCn (l := []) (a := 0) (b := 0) (c := 0) (ok := false) rfl (by simp [h14])
  | true =>
   simp only [go_sem]
   intro _
   refine drawC [1] mo (by kernel_rfl) ?_
   simp only [go_sem]
   exact finCn rfl (by simp [h14])
def opt (q: DTy × Bool): Option DTy := if q.2 = true then some q.1 else none
def allS: List (Option DTy) → Option (List DTy)
 | [] => some []
 | none :: _ => none
 | some t :: l => (allS l).map (t :: ·)
def whenT (p: DProg) (n: DNode) (nm arm: ByteArray): Bool := (decl n nm).2 && armOk p.Enums arm && decide ((decl n nm).1.Ty = (armF p.Enums arm).1)
noncomputable def armsT (L: List DEnum) (t: DTy) (arms: List ByteArray): Bool :=
 if t = tyB then eqB arms [tTrue,tFalse] else if t.Kind = 3 ∧ t.Len = 0 then eqB arms ((L[t.Enum.toNat]?.map DEnum.Ctors).getD []) else false
def nodeD: DNode := ⟨⟨#[]⟩,[],[],[],[]⟩
noncomputable def callT (p: DProg) (e: Ex) (ts: List DTy): DNode × Bool :=
 if findF p e.name < 0 then (nodeD,false)
 else if e.n = 1 ∧ ¬ ts.getD (ts.length - e.n.toNat) ty0 = tyB then (nodeD,false)
 else (p.Nodes[(findF p e.name).toNat]?.getD nodeD,eqB ((p.Nodes[(findF p e.name).toNat]?.getD nodeD).Ins.map DDecl.Ty) (ts.take (ts.length - e.n.toNat)))
noncomputable def flowT (p: DProg) (n: DNode) (e: Ex) (ts: List DTy): DTy × Bool :=
 if e.kind = 9 then (ts.getD 0 ty0,decide (ts.getD 0 ty0 = ts.getD 1 ty0))
 else if e.kind = 11 then (ts.getD 0 ty0,whenT p n e.name (e.arms.headD ⟨#[]⟩))
 else if e.kind = 12 then (ts.getD 0 ty0,(decl n e.name).2 && sameT ts && armsT p.Enums (decl n e.name).1.Ty e.arms)
 else if e.kind = 13 then (if (callT p e ts).2 = true ∧ (callT p e ts).1.Outs.length = 1 then (((callT p e ts).1.Outs.headD zeroD).Ty,true) else (ty0,false))
 else (ts.getD 0 ty0,true)
def oneT (t: DTy): DTy := ⟨t.Kind,t.Enum,0⟩
def plainT (e: Ex) (ts: List DTy): DTy × Bool :=
 if e.kind = 5 then unT e.op (ts.getD 0 ty0)
 else if e.kind = 6 then binT e.op (ts.getD 0 ty0) (ts.getD 1 ty0)
 else if e.kind = 7 then (ts.getD 1 ty0,decide (ts.getD 0 ty0 = tyB) && decide (ts.getD 1 ty0 = ts.getD 2 ty0))
 else if e.kind = 14 then (⟨(ts.getD 0 ty0).Kind,(ts.getD 0 ty0).Enum,(ts.length: Int)⟩,sameT ts && decide ((ts.getD 0 ty0).Len = 0))
 else if e.kind = 15 then (oneT (ts.getD 0 ty0),decide ((ts.getD 0 ty0).Len > 0) && decide (ts.getD 1 ty0 = tyI))
 else (ts.getD 0 ty0,decide ((ts.getD 0 ty0).Len > 0) && decide (ts.getD 1 ty0 = tyI) && decide (ts.getD 2 ty0 = oneT (ts.getD 0 ty0)))
noncomputable def headP (p: DProg) (n: DNode) (e: Ex) (S: List (Option DTy)): DTy × Bool :=
 if e.kind = 1 ∨ e.kind = 2 ∨ e.kind = 4 then ((constT p.Enums e).2.1,(constT p.Enums e).2.2)
 else if e.kind = 3 then ((decl n e.name).1.Ty,(decl n e.name).2)
 else if e.kind = 8 then ((constT p.Enums (e.subs.headD e)).2.1,(constT p.Enums (e.subs.headD e)).2.2 && decide (S.getD 1 none = some (constT p.Enums (e.subs.headD e)).2.1))
 else if e.kind = 17 then (ty0,false)
 else match allS S with
  | none => (ty0,false)
  | some ts => if 9 ≤ e.kind ∧ e.kind ≤ 13 then flowT p n e ts else plainT e ts
mutual
noncomputable def ofT (p: DProg) (n: DNode): Ex → Option DTy
 | .mk k m nm op arms subs => opt (headP p n (.mk k m nm op arms subs) (ofL p n subs))
noncomputable def ofL (p: DProg) (n: DNode): List Ex → List (Option DTy)
 | [] => []
 | x :: l => ofT p n x :: ofL p n l
end
theorem ofT_eq (p: DProg) (n: DNode) (e: Ex): ofT p n e = opt (headP p n e (ofL p n e.subs)) := by cases e; rw [ofT]; rfl
theorem ofL_map (p: DProg) (n: DNode) (l: List Ex): ofL p n l = l.map (ofT p n) := by
 induction l with
 | nil => rw [ofL]; rfl
 | cons x l ih => rw [ofL,ih]; rfl
abbrev plE (p: DProg) (n: DNode): AV := .agg [.lst 2 (p.Enums.map DEnum.enc) none,.lst 5 (p.Nodes.map DNode.enc) none,.s n.Name,.lst 6 (n.Ins.map DDecl.enc) none,.lst 6 (n.Outs.map DDecl.enc) none,.lst 6 (n.Vars.map DDecl.enc) none,.lst 7 (n.Eqs.map DEq.enc) none]
theorem pure_plE (p: DProg) (n: DNode): Go.Abs.Pure (plE p n) := .agg _ (pure_cons (DEnum.pures _) (pure_cons (DNode.pures _) (pure_cons (.raw _) (pure_cons (DDecl.pures _) (pure_cons (DDecl.pures _) (pure_cons (DDecl.pures _) (pure_cons (DEq.pures _) pure_nil)))))))
theorem whenP (p: DProg) (n: DNode) (hl: (allV n).length ≤ 60) (nm arm: ByteArray): PCall Tryz.prog 197 [plE p n,.s nm,.s arm] (.b (whenT p n nm arm)) := by
 refine pcall_of_vc tabOK Tryz.func197 (by kernel_rfl) rfl (pure_cons (pure_plE p n) (pure_cons (.raw _) (pure_cons (.raw _) pure_nil))) (.raw _) (n := 38) rfl (rs := [.tmp 6]) rfl ?_
 unfold whenT armOk
 repeat' first
  | exact finB rfl
  | exact finI rfl
  | exact finP rfl
  | exact absurd rfl (by assumption)
  | simp only [go_sem]
  | (intro _)
  | refine brK_dec (fun _ => ?_) (fun _ => ?_)
  | refine brK_split (fun hb_ => ?_) (fun hb_ => ?_)
  | refine gK_dec (fun _ => ?_) (fun _ => ?_)
  | refine gK_split (fun hb_ => ?_) (fun hb_ => ?_)
  | refine gqK_dec (fun _ => ?_) (fun _ => ?_)
  | refine ⟨by omega,?_⟩
  | refine elemHave (by omega) (by assumption) ?_
  | refine elemMap (by omega) (by omega) (fun x hx => ?_)
  | refine drawK mo (by kernel_rfl) ?_
  | (refine PCall.call (decl25 n nm (by omega)) ?_; generalize decl n nm = d; obtain ⟨d,ok⟩ := d)
  | (refine PCall.call (arm146 p.Enums arm) ?_; generalize armF p.Enums arm = q; obtain ⟨t,v,is⟩ := q)
  | (exact finBq rfl (by simp [*]))
theorem armsP (p: DProg) (n: DNode) (t: DTy) (arms: List ByteArray) (hT: t.Kind = 3 → 0 ≤ t.Enum ∧ t.Enum < p.Enums.length): PCall Tryz.prog 267 [plE p n,t.enc,.lst 1 (arms.map AV.s) none] (.b (armsT p.Enums t arms)) := by
 refine pcall_of_vc tabOK Tryz.func267 (by kernel_rfl) rfl (pure_cons (pure_plE p n) (pure_cons (DTy.pure _) (pure_cons (pure_strs _) pure_nil))) (.raw _) (n := 32) rfl (rs := [.tmp 6]) rfl ?_
 unfold armsT
 repeat' first
  | exact finB rfl
  | exact finI rfl
  | exact finP rfl
  | exact absurd rfl (by assumption)
  | simp only [go_sem]
  | (intro _)
  | refine brK_dec (fun _ => ?_) (fun _ => ?_)
  | refine brK_any ?_ ?_
  | refine gK_dec (fun _ => ?_) (fun _ => ?_)
  | refine gK_any ?_ ?_
  | refine gqK_dec (fun _ => ?_) (fun _ => ?_)
  | refine ⟨by omega,?_⟩
  | refine elemHave (by omega) (by assumption) ?_
  | refine elemMap (by omega) (by omega) (fun x hx => ?_)
  | refine drawK mo (by kernel_rfl) ?_
  | (refine PCall.call (truthP t) ?_)
  | (refine PCall.callW (equalStr arms [tTrue,tFalse]) ⟨.refl _,.tok _ _ _,trivial⟩ ?_)
  | (have hk3: t.Kind = 3 := (by omega); have hk4 := hT hk3; refine elemMap (by omega) (by omega) (fun x hx => ?_))
  | (refine PCall.call (equalStr arms x.Ctors) ?_)
  | (exact finBq rfl (by simp [*]))
  | (exact finBq rfl (by rw [if_neg (by assumption),if_pos ⟨by assumption,by assumption⟩,hx]; rfl))
theorem call182 (d: DDecl) (t: DTy): PCall Tryz.prog 303 [d.enc,t.enc] (.b (decide (d.Ty = t))) := by
 refine pcall_of_vc tabOK Tryz.func303 (by kernel_rfl) rfl pureL pureI (n := 9) rfl (rs := [.tmp 4]) rfl ?_
 repeat' first
  | exact finB rfl
  | exact finI rfl
  | exact finP rfl
  | exact absurd rfl (by assumption)
  | simp only [go_sem]
  | (intro _)
  | refine brK_dec (fun _ => ?_) (fun _ => ?_)
  | refine brK_any ?_ ?_
  | refine gK_dec (fun _ => ?_) (fun _ => ?_)
  | refine gK_any ?_ ?_
  | refine gqK_dec (fun _ => ?_) (fun _ => ?_)
  | refine ⟨by omega,?_⟩
  | refine elemHave (by omega) (by assumption) ?_
  | refine elemMap (by omega) (by omega) (fun x hx => ?_)
  | refine drawK mo (by kernel_rfl) ?_
  | (exact finBq rfl rfl)
theorem dt_step {l: List DDecl} {m: List DTy} {i: Nat} {y: DDecl} {x: DTy} (h: (l.take i).map DDecl.Ty = m.take i) (hy: l[((i: Nat): Int).toNat]? = some y) (hx: m[((i: Nat): Int).toNat]? = some x) (e: y.Ty = x): (l.take (i + 1)).map DDecl.Ty = m.take (i + 1) := by
 rw [take_mapS hy,h,e]
 rw [Int.toNat_natCast] at hx
 obtain ⟨hi,rfl⟩ := List.getElem?_eq_some_iff.1 hx
 rw [List.take_succ_eq_append_getElem hi]
theorem dt_no {l: List DDecl} {m: List DTy} {i: Nat} {y: DDecl} {x: DTy} (hy: l[((i: Nat): Int).toNat]? = some y) (hx: m[((i: Nat): Int).toNat]? = some x) (e: ¬ y.Ty = x): eqB (l.map DDecl.Ty) m = false := by
 refine eqB_ne fun h => e ?_
 rw [Int.toNat_natCast] at hx hy
 rw [← h,List.getElem?_map,hy] at hx
 exact Option.some.inj hx
theorem dt_len {l: List DDecl} {m: List DTy} (h: ¬ (l.length: Int) = (m.length: Int)): eqB (l.map DDecl.Ty) m = false := eqB_ne fun e => h (by rw [← e,List.length_map])
theorem dt_yes {l: List DDecl} {m: List DTy} {i: Nat} (h: (l.take i).map DDecl.Ty = m.take i) (hl: (l.length: Int) = (m.length: Int)) (hi: l.length ≤ i): eqB (l.map DDecl.Ty) m = true := by
 rw [List.take_of_length_le hi,List.take_of_length_le (by omega)] at h
 exact eqB_eq h
theorem eqDT (l: List DDecl) (m: List DTy): PCall Tryz.prog 304 [.lst 6 (l.map DDecl.enc) none,.lst 3 (m.map DTy.enc) none,.fn (.func 303) [] []] (.b (eqB (l.map DDecl.Ty) m)) := by
 refine pcall_of_vc tabOK Tryz.func304 (by kernel_rfl) rfl pureL pureI (n := 32) rfl (rs := [.tmp 6]) rfl ?_
 repeat' first
  | exact finB rfl
  | exact finI rfl
  | exact finP rfl
  | exact absurd rfl (by assumption)
  | simp only [go_sem]
  | (intro _)
  | refine brK_dec (fun _ => ?_) (fun _ => ?_)
  | refine brK_any ?_ ?_
  | refine gK_dec (fun _ => ?_) (fun _ => ?_)
  | refine gK_any ?_ ?_
  | refine gqK_dec (fun _ => ?_) (fun _ => ?_)
  | refine ⟨by omega,?_⟩
  | refine elemHave (by omega) (by assumption) ?_
  | ((fail_if_success (clear hy)); refine elemMap (by omega) (by omega) (fun y hy => ?_))
  | refine elemMap (by omega) (by omega) (fun x hx => ?_)
  | refine drawK mo (by kernel_rfl) ?_
  | (refine PCall.call (call182 y x) ?_)
  | (refine finBq rfl ?_; rw [dt_len (by assumption)]; done)
  | (refine finBq rfl ?_; rw [dt_no hy hx (by assumption)]; done)
  | (refine finBq rfl ?_; rw [dt_yes hpi (by first | assumption | omega) (by omega)]; done)
  | exact loopFrX _ (by omega) _ ⟨i + 1,by omega,rfl,dt_step hpi hy hx (by first | assumption | exact Classical.not_not.1 (by assumption)),rfl⟩ (.next rfl (by omega) .nil) rfl (by first | rfl | (simp only [List.append_assoc,List.cons_append,List.nil_append]; rfl))
  | (refine loop_frX [6,7,8,9,17,18,19,20,21,22,23,24,25,26,27,28,29,30,31] (fun mm_ CC_ => ∃ (i: Nat),i ≤ l.length ∧ mm_ = l.length - i ∧ ((l.take i).map DDecl.Ty = m.take i) ∧ CC_ = [(17,.raw (.int .i64 ((i: Nat): Int)))]) (l.length) _ ⟨0,by omega,by omega,rfl,rfl⟩ (.cons rfl .nil) ?_; rintro mm_ CC_ ji ri ⟨i,hi,rfl,hpi,rfl⟩)
theorem find_at {p: DProg} {s: ByteArray} (h: ¬ findF p s < 0): ∃ m,p.Nodes[(findF p s).toNat]? = some m := by
 unfold findF at *
 rcases idxOf_cases (fun n: DNode => decide (n.Name = s)) p.Nodes with ⟨h1,h2⟩ | ⟨i,x,h1,h2,h3,_,h4⟩
 ·
  rw [h1] at h; omega
 ·
  rw [h1]
  exact ⟨x,by rw [Int.toNat_natCast]; exact h2⟩
abbrev nodeA (q: DNode × Bool): AV := .tup [q.1.enc,.b q.2]
theorem pure_nodeA (q: DNode × Bool): Go.Abs.Pure (nodeA q) := .tup _ (pure_cons (DNode.pure _) (pure_cons (.raw _) pure_nil))
theorem finNode {T: TypeId → TI} {rs: List ResultVar} {s: List AV} {h: List Blk} {q: DNode × Bool} {nm: ByteArray} {a b c: List DDecl} {es: List DEq} {ok: Bool} (hr: resAV T s h rs = some [.agg [.s nm,.lst 6 (a.map DDecl.enc) none,.lst 6 (b.map DDecl.enc) none,.lst 6 (c.map DDecl.enc) none,.lst 7 (es.map DEq.enc) none],.b ok]) (hp: q = (⟨nm,a,b,c,es⟩,ok)): Go.Abs.Fin T rs (nodeA q) s h := by
 subst hp
 exact ⟨_,hr,false,by rw [show nodeA (⟨nm,a,b,c,es⟩,ok) = .tup [.agg [.s nm,.lst 6 (a.map DDecl.enc) none,.lst 6 (b.map DDecl.enc) none,.lst 6 (c.map DDecl.enc) none,.lst 7 (es.map DEq.enc) none],.b ok] by show AV.tup [DNode.enc _,_] = _; rw [DNode.enc_eq]]; exact .refl _⟩
theorem finNode0 {T: TypeId → TI} {rs: List ResultVar} {s: List AV} {h: List Blk} {q: DNode × Bool} (hr: resAV T s h rs = some [.agg [.s ⟨#[]⟩,.raw (.slice none 0 0),.raw (.slice none 0 0),.raw (.slice none 0 0),.raw (.slice none 0 0)],.b false]) (hp: q = (nodeD,false)): Go.Abs.Fin T rs (nodeA q) s h := by
 subst hp
 refine ⟨_,hr,false,?_⟩
 show Weak (.tup [_,_]) (.tup [DNode.enc _,_])
 rw [DNode.enc_eq]
 refine Weak.tup _ _ rfl (fun i c d hc hd => ?_)
 match i with
 | 0 =>
  cases hc; cases hd
  exact Weak.aggs ⟨.refl _,.nil _,.nil _,.nil _,.nil _,trivial⟩
 | 1 => (cases hc; cases hd; exact .refl _)
 | i + 2 => simp at hc
theorem callP (p: DProg) (n: DNode) (e: Ex) (ts: List DTy) (hn: e.n = 0 ∨ e.n = 1) (hts: e.n ≤ (ts.length: Int)): PCall Tryz.prog 268 [plE p n,e.enc,.lst 3 (ts.map DTy.enc) none] (nodeA (callT p e ts)) := by
 refine pcall_of_vc tabOK Tryz.func268 (by kernel_rfl) rfl (pure_cons (pure_plE p n) (pure_cons (pure_enc e) (pure_cons (DTy.pures _) pure_nil))) (pure_nodeA _) (n := 52) rfl (rs := [.cell 6 68,.tmp 7]) rfl ?_
 simp only [go_sem]
 refine PCall.call (find23 p e.name) ?_
 by_cases hi: findF p e.name < 0
 ·
  have hc: callT p e ts = (nodeD,false) := by unfold callT; rw [if_pos hi]
  rw [hc]
  generalize findF p e.name = f at hi
  simp only [go_sem]
  refine brK_dec (fun _ => ?_) (fun hq => absurd hi hq)
  simp only [go_sem]
  exact finNode0 rfl rfl
 ·
  obtain ⟨m,hm⟩ := find_at hi
  have hc: callT p e ts = if e.n = 1 ∧ ¬ ts.getD (ts.length - e.n.toNat) ty0 = tyB then (nodeD,false) else (m,eqB (m.Ins.map DDecl.Ty) (ts.take (ts.length - e.n.toNat))) := by
   unfold callT; rw [if_neg hi,hm]; rfl
  rw [hc]
  generalize findF p e.name = f at hi hm
  simp only [go_sem]
  refine brK_dec (fun hq => absurd hq hi) (fun _ => ?_)
  simp only [go_sem]
  refine elemHave (by omega) hm ?_
  simp only [go_sem]
  rcases hn with h0 | h1
  ·
   rw [h0,if_neg (by simp)]
   intro hle
   rw [wrap_in _ (by omega) (by omega)]
   have e0: ((ts.length: Int) - 0).toNat = ts.length := by omega
   have e1: ts.length - Int.toNat 0 = ts.length := by simp
   rw [e0,e1]
   refine ⟨⟨by omega,by omega⟩,?_⟩
   repeat' first
    | simp only [go_sem]
    | refine drawC [2] mo (by kernel_rfl) ?_
    | (refine pcK_of (eqDT m.Ins (ts.take ts.length)) ?_)
    | exact finNode rfl rfl
  ·
   rw [h1]
   intro hle
   rw [wrap_in _ (by omega) (by omega)]
   have e0: ((ts.length: Int) - 1).toNat = ts.length - 1 := by omega
   have e1: ts.length - Int.toNat 1 = ts.length - 1 := by simp
   have e2: (ts.take (ts.length - 1)).length = ts.length - 1 := by rw [List.length_take]; omega
   rw [e0,e1]
   refine ⟨⟨by omega,by omega⟩,?_⟩
   obtain ⟨x,hx⟩: ∃ x,ts[ts.length - 1]? = some x := ⟨_,List.getElem?_eq_getElem (by rw [h1] at hts; omega)⟩
   have hg: ts.getD (ts.length - 1) ty0 = x := by rw [List.getD_eq_getElem?_getD,hx]; rfl
   rw [hg]
   simp only [go_sem]
   rw [h1] at hts
   try intro _
   try rw [e2]
   try simp only [go_sem]
   refine elemHave (x := x) (by omega) (by simpa using hx) ?_
   repeat' first
    | simp only [go_sem]
    | (refine PCall.call (truthP x) ?_)
    | refine brK_dec (fun _ => ?_) (fun _ => ?_)
    | refine drawC [2] mo (by kernel_rfl) ?_
    | (refine pcK_of (eqDT m.Ins (ts.take (ts.length - 1))) ?_)
    | exact finNode0 rfl (by simp [*])
    | exact finNode rfl (by simp [*])
theorem getD_at {l: List DTy} {i: Nat} {x: DTy} (hx: l[i]? = some x): l.getD i ty0 = x := by rw [List.getD_eq_getElem?_getD,hx]; rfl
theorem arms_hd {l: List ByteArray} {x: ByteArray} (hx: l[((0: Int)).toNat]? = some x): l.headD ⟨#[]⟩ = x := by
 match l with
 | y :: l => simp at hx; rw [hx]; rfl
theorem outs_hd {l: List DDecl} {x: DDecl} (hx: l[((0: Int)).toNat]? = some x): l.headD zeroD = x := by
 match l with
 | y :: l => simp at hx; rw [hx]; rfl
theorem flowP (p: DProg) (n: DNode) (hl: (allV n).length ≤ 60) (e: Ex) (ts: List DTy) (hk: 9 ≤ e.kind ∧ e.kind ≤ 13) (hlen: ¬ e.kind = 13 → 0 < ts.length) (h9: e.kind = 9 → 1 < ts.length) (h11: e.kind = 11 → 0 < e.arms.length) (h12: (decl n e.name).1.Ty.Kind = 3 → 0 ≤ (decl n e.name).1.Ty.Enum ∧ (decl n e.name).1.Ty.Enum < p.Enums.length)
  (h13: e.kind = 13 → (e.n = 0 ∨ e.n = 1) ∧ e.n ≤ (ts.length: Int)): PCall Tryz.prog 222 [plE p n,e.enc,.lst 3 (ts.map DTy.enc) none] (tyA (flowT p n e ts)) := by
 refine pcall_of_vc tabOK Tryz.func222 (by kernel_rfl) rfl (pure_cons (pure_plE p n) (pure_cons (pure_enc e) (pure_cons (DTy.pures _) pure_nil))) (pure_tyA _) (n := 91) rfl (rs := [.cell 6 42,.tmp 7]) rfl ?_
 rcases (show e.kind = 9 ∨ e.kind = 11 ∨ e.kind = 12 ∨ e.kind = 13 ∨ e.kind = 10 by omega) with hk | hk | hk | hk | hk
 ·
  have h1 := h9 hk
  obtain ⟨t0,ht0⟩: ∃ t,ts[0]? = some t := ⟨_,List.getElem?_eq_getElem (by omega)⟩
  obtain ⟨t1,ht1⟩: ∃ t,ts[1]? = some t := ⟨_,List.getElem?_eq_getElem (by omega)⟩
  have hf: flowT p n e ts = (t0,decide (t0 = t1)) := by unfold flowT; rw [if_pos hk,getD_at ht0,getD_at ht1]
  rw [hf]
  repeat' first
   | simp only [go_sem,hk]
   | refine drawC [2] mo (by kernel_rfl) ?_
   | refine elemHave (x := t0) (by omega) ht0 ?_
   | refine elemHave (x := t1) (by omega) ht1 ?_
   | exact finTy rfl rfl
 ·
  obtain ⟨t0,ht0⟩: ∃ t,ts[0]? = some t := ⟨_,List.getElem?_eq_getElem (hlen (by omega))⟩
  obtain ⟨a,ha⟩: ∃ a,e.arms[0]? = some a := ⟨_,List.getElem?_eq_getElem (h11 hk)⟩
  have hf: flowT p n e ts = (t0,whenT p n e.name a) := by unfold flowT; rw [if_neg (by omega),if_pos hk,getD_at ht0,arms_hd (by simpa using ha)]
  rw [hf]
  repeat' first
   | simp only [go_sem,hk]
   | refine drawC [2] mo (by kernel_rfl) ?_
   | refine elemHave (x := t0) (by omega) ht0 ?_
   | refine elemHave (x := a) (by omega) ha ?_
   | (refine pcK_of (whenP p n hl e.name a) ?_)
   | exact finTy rfl rfl
 ·
  obtain ⟨t0,ht0⟩: ∃ t,ts[0]? = some t := ⟨_,List.getElem?_eq_getElem (hlen (by omega))⟩
  have hf: flowT p n e ts = (t0,(decl n e.name).2 && sameT ts && armsT p.Enums (decl n e.name).1.Ty e.arms) := by unfold flowT; rw [if_neg (by omega),if_neg (by omega),if_pos hk,getD_at ht0]
  rw [hf]
  simp only [go_sem,hk]
  refine PCall.call (decl25 n e.name (by omega)) ?_
  generalize decl n e.name = d at h12
  obtain ⟨d,ok⟩ := d
  repeat' first
   | simp only [go_sem,hk]
   | refine drawC [2] mo (by kernel_rfl) ?_
   | refine elemHave (x := t0) (by omega) ht0 ?_
   | (refine pcK_of (sameP ts) ?_; generalize sameT ts = b; cases b)
   | (refine pcK_of (armsP p n d.Ty e.arms h12) ?_)
   | exact finTy rfl (by simp)
   | (cases ok)
 ·
  have h14 := h13 hk
  have hf: flowT p n e ts = if (callT p e ts).2 = true ∧ (callT p e ts).1.Outs.length = 1 then (((callT p e ts).1.Outs.headD zeroD).Ty,true) else (ty0,false) := by unfold flowT; rw [if_neg (by omega),if_neg (by omega),if_neg (by omega),if_pos hk]
  rw [hf]
  repeat' first
   | (exfalso; omega)
   | simp only [go_sem]
   | (intro _)
   | (refine PCall.call (callP p n e ts h14.1 h14.2) ?_; generalize callT p e ts = q; obtain ⟨m,ok⟩ := q; cases ok)
   | refine gK_dec (fun _ => ?_) (fun _ => ?_)
   | refine brK_dec (fun _ => ?_) (fun _ => ?_)
   | refine elemMap (by omega) (by omega) (fun x hx => ?_)
   | (have hz: m.Outs.length = 1 := (by omega); have ho := outs_hd hx; refine finTy rfl ?_; rw [if_pos hz,ho])
   | (have hz: ¬ m.Outs.length = 1 := (by omega); refine finTy rfl ?_; rw [if_neg hz])
   | (refine finTy rfl ?_; simp; done)
 ·
  obtain ⟨t0,ht0⟩: ∃ t,ts[0]? = some t := ⟨_,List.getElem?_eq_getElem (hlen (by omega))⟩
  have hf: flowT p n e ts = (t0,true) := by unfold flowT; rw [if_neg (by omega),if_neg (by omega),if_neg (by omega),if_neg (by omega),getD_at ht0]
  rw [hf]
  repeat' first
   | simp only [go_sem,hk]
   | refine elemHave (x := t0) (by omega) ht0 ?_
   | exact finTy rfl rfl
theorem cells_one {L: List DEnum} {e: Ex} {v: Int} {t: DTy} {ok: Bool} (h: litT L e = (v,t,ok)): cellsT L [e] = if ok = true then ([v],t,true) else ([],ty0,false) := by
 unfold cellsT sameT
 simp [h]
theorem same_no {L: List DEnum} {subs: List Ex} {i: Nat} {x u: Ex} (hx: subs[((i: Nat): Int).toNat]? = some x) (hu: subs[((0: Int)).toNat]? = some u) (hne: ¬ (litT L x).2.1 = (litT L u).2.1): cellsT L subs = ([],ty0,false) := by
 have h0: (subs.map fun x => (litT L x).2.1).headD ty0 = (litT L u).2.1 := by
  match subs,hu with
  | y :: l,hu => simp at hu; rw [hu]; rfl
 unfold cellsT sameT
 rw [List.all_eq_false.2 ⟨(litT L x).2.1,List.mem_map.2 ⟨x,List.mem_of_getElem? hx,rfl⟩,by rw [h0]; simpa using hne⟩,Bool.and_false]
 rfl
theorem same_yes {L: List DEnum} {subs: List Ex} {u: Ex} (hu: subs[((0: Int)).toNat]? = some u) (h1: ∀ x ∈ subs,(litT L x).2.2 = true ∧ (litT L x).2.1 = (litT L u).2.1): cellsT L subs = (subs.map (fun x => (litT L x).1),(litT L u).2.1,true) := by
 have h0: (subs.map fun x => (litT L x).2.1).headD ty0 = (litT L u).2.1 := by
  match subs,hu with
  | y :: l,hu => simp at hu; rw [hu]; rfl
 unfold cellsT sameT
 rw [List.all_eq_true.2 (fun x hx => (h1 x hx).1),List.all_eq_true.2 (fun t ht => by obtain ⟨x,hx,rfl⟩ := List.mem_map.1 ht; rw [h0]; exact decide_eq_true (h1 x hx).2),h0]
 rfl
theorem constX (L: List DEnum) (e: Ex) (ho: okE e): PCall Tryz.prog 142 [.lst 2 (L.map DEnum.enc) none,e.enc] (constA (constT L e)) := by
 have hsl := subs_le ho
 refine pcall_of_vc tabOK Tryz.func142 (by kernel_rfl) rfl (by first | exact pureL | exact pureI) (pure_constA _) (n := 83) rfl (rs := [.tmp 4,.cell 5 42,.tmp 6]) rfl ?_
 unfold constT
 have hlits := const_lits (e := e)
 simp only [go_sem]
 refine PCall.call (right17x e ho) ?_
 generalize rightE e = r at hlits
 cases r with
 | false =>
  simp only [go_sem]
  exact finC0 rfl (by simp)
 | true =>
 simp only [go_sem]
 refine PCall.call (const19 e) ?_
 generalize constE e = k at hlits
 cases k with
 | false =>
  simp only [go_sem]
  exact finC0 rfl (by simp)
 | true =>
 obtain ⟨l1,l2⟩ := hlits rfl rfl
 simp only [go_sem]
 refine brK_dec (fun h => ?_) (fun h => ?_)
 ·
  simp only [go_sem]
  refine PCall.call (litX L e (lit5 (l2 h))) ?_
  generalize hq: litT L e = q
  obtain ⟨v,t,ok⟩ := q
  have hc := cells_one hq
  cases ok with
  | false =>
   simp only [go_sem]
   exact finC0 rfl (by simp [h,hc])
  | true =>
   simp only [go_sem]
   refine drawC [1] mo (by kernel_rfl) ?_
   simp only [go_sem]
   exact finCk (l := [v]) rfl (by simp [h,hc])
 ·
  have h14: e.kind = 14 := Classical.not_not.1 h
  obtain ⟨l3,l4⟩ := l1 h14
  obtain ⟨u,hu⟩: ∃ u,e.subs[0]? = some u := ⟨_,List.getElem?_eq_getElem l4⟩
  simp only [go_sem]
  refine loop_fr [4,6,10,12,13,14,15,43,44,45,46,47,48,49,50,51,52,53,54,55,56,57,58,59,60,61,62,63,64,65,66,67,68,69,70,71,72,73,74,75,76,77] (fun m C hh => ∃ (i: Nat) (r: List Blk) (F: DTy),i ≤ e.subs.length ∧ m = e.subs.length - i ∧ (∀ x ∈ e.subs.take i,(litT L x).2.2 = true ∧ (litT L x).2.1 = (litT L u).2.1) ∧ ((i = 0 ∧ F = ty0) ∨ (0 < i ∧ F = (litT L u).2.1)) ∧
   C = [(12,.raw (.int .i64 (i: Nat))),(10,.lst 1 (((e.subs.take i).map fun x => (litT L x).1).map AV.i) (some 2))] ∧
   hh = .cells 72 [.i e.kind,.i e.n,.s e.name,.i e.op,.lst 1 (e.arms.map AV.s) none,.lst 6 (e.subs.map Ex.enc) none] :: .cells 42 [.i 0,.i 0,.i 0] :: .tok 2 1 (e.subs.take i).length :: .cells 42 [.i F.Kind,.i F.Enum,.i F.Len] :: r) e.subs.length _ ⟨0,[],ty0,by omega,by omega,by simp,.inl ⟨rfl,rfl⟩,rfl,rfl⟩ (.cons rfl (.cons rfl .nil)) ?_
  rintro m C ja hh ⟨i,r,F,hi,rfl,hp,hF,rfl,rfl⟩
  simp only [go_sem]
  intro _
  refine brK_dec (fun hlt => ?_) (fun hge => ?_)
  ·
   simp only [go_sem]
   refine elemMap (by omega) (by omega) (fun x hx => ?_)
   have hli: (e.subs.take i).length = i := by rw [List.length_take]; omega
   have hli2: (e.subs.take (i + 1)).length = i + 1 := by rw [List.length_take]; omega
   have hst := take_mapS (f := fun x => (litT L x).1) hx
   simp only [go_sem]
   refine PCall.call (litX L x (lit5 (l3 x (List.mem_of_getElem? hx)))) ?_
   generalize hq: litT L x = q at hst
   obtain ⟨v,t,ok⟩ := q
   cases ok with
   | false =>
    simp only [go_sem]
    exact finC0 rfl (by rw [cells_no hx (by rw [hq])]; simp [h14])
   | true =>
    have hx0: i = 0 → x = u := fun h0 => by
     subst h0
     have := hx.symm.trans (by simpa using hu)
     exact Option.some.inj this
    simp only [go_sem]
    refine gK_dec (fun hpos => ?_) (fun hpos => ?_)
    ·
     have hFu: F = (litT L u).2.1 := by rcases hF with ⟨h0,_⟩ | ⟨_,h1⟩; omega; exact h1
     simp only [go_sem]
     refine brK_dec (fun hne => ?_) (fun hne => ?_)
     ·
      simp only [go_sem]
      exact finC0 rfl (by rw [same_no hx (by simpa using hu) (by rw [hq,← hFu]; exact hne)]; simp [h14])
     ·
      have hte: t = F := Classical.not_not.1 hne
      simp only [go_sem]
      refine drawC [3] mo (by kernel_rfl) ?_
      simp only [go_sem]
      refine ⟨by omega,?_⟩
      exact loopFr _ (by omega) ⟨i + 1,_,t,by omega,rfl,take_all hp (by simpa using hx) ⟨by rw [hq],by rw [hq]; exact hte.trans hFu⟩,.inr ⟨by omega,hte.trans hFu⟩,rfl,by rw [hli2,hli]⟩ (.next rfl (by omega) (.cons (by rw [hst]; simp [slot]) .nil)) rfl
    ·
     have hi0: i = 0 := by omega
     have hxu := hx0 hi0
     have hte: t = (litT L u).2.1 := by rw [← hxu,hq]
     simp only [go_sem]
     refine drawC [3] mo (by kernel_rfl) ?_
     simp only [go_sem]
     refine ⟨by omega,?_⟩
     exact loopFr _ (by omega) ⟨i + 1,_,t,by omega,rfl,take_all hp (by simpa using hx) ⟨by rw [hq],by rw [hq]; exact hte⟩,.inr ⟨by omega,hte⟩,rfl,by rw [hli2,hli]⟩ (.next rfl (by omega) (.cons (by rw [hst]; simp [slot]) .nil)) rfl
  ·
   have hil: i = e.subs.length := by omega
   subst hil
   rw [List.take_length] at hp ⊢
   have hFu: F = (litT L u).2.1 := by rcases hF with ⟨h0,_⟩ | ⟨_,h1⟩; omega; exact h1
   have hc := same_yes (by simpa using hu) hp
   rw [hc,← hFu]
   simp only [go_sem]
   intro _
   refine drawC [1] mo (by kernel_rfl) ?_
   simp only [go_sem]
   exact finCk rfl (by simp [h14])
abbrev ibA (q: Int × Bool): AV := .tup [.i q.1,.b q.2]
theorem pure_ibA (q: Int × Bool): Go.Abs.Pure (ibA q) := .tup _ (pure_cons (.raw _) (pure_cons (.raw _) pure_nil))
theorem finIB {T: TypeId → TI} {rs: List ResultVar} {s: List AV} {h: List Blk} {q: Int × Bool} {a: Int} {ok: Bool} (hr: resAV T s h rs = some [.i a,.b ok]) (hq: q = (a,ok)): Go.Abs.Fin T rs (ibA q) s h := by
 subst hq
 exact ⟨_,hr,false,.refl _⟩
noncomputable def callXT (p: DProg) (e: Ex) (ts: List DTy): Int × Bool := if (callT p e ts).2 = true then (findF p e.name,true) else (0,false)
theorem callXT_no {p: DProg} {e: Ex} {ts: List DTy} (h: (callT p e ts).2 = false): callXT p e ts = (0,false) := by unfold callXT; rw [if_neg (by rw [h]; simp)]
theorem callXT_yes {p: DProg} {e: Ex} {ts: List DTy} (h: (callT p e ts).2 = true): callXT p e ts = (findF p e.name,true) := by unfold callXT; rw [if_pos h]
theorem callX (p: DProg) (e: Ex) (ts: List DTy) (hn: e.n = 0 ∨ e.n = 1) (hts: e.n ≤ (ts.length: Int)) (hb: ts.length ≤ 100000): PCall Tryz.prog 183 [p.enc,e.enc,.lst 3 (ts.map DTy.enc) none] (ibA (callXT p e ts)) := by
 refine pcall_of_vc tabOK Tryz.func183 (by kernel_rfl) rfl (pure_cons (DProg.pure _) (pure_cons (pure_enc e) (pure_cons (DTy.pures _) pure_nil))) (pure_ibA _) (n := 65) rfl (rs := [.tmp 6,.tmp 7]) rfl ?_
 simp only [go_sem]
 refine PCall.call (find24 p e.name) ?_
 by_cases hi: findF p e.name < 0
 ·
  have hc: (callT p e ts).2 = false := by unfold callT; rw [if_pos hi]
  rw [callXT_no hc]
  generalize findF p e.name = f at hi
  simp only [go_sem]
  refine brK_dec (fun _ => ?_) (fun hq => absurd hi hq)
  simp only [go_sem]
  exact finIB rfl rfl
 ·
  obtain ⟨m,hm⟩ := find_at hi
  obtain ⟨N,hNd⟩: ∃ N: Nat,N = ts.length - e.n.toNat := ⟨_,rfl⟩
  have hc: (callT p e ts).2 = if e.n = 1 ∧ ¬ ts.getD N ty0 = tyB then false else eqB (m.Ins.map DDecl.Ty) (ts.take N) := by
   unfold callT; rw [if_neg hi,hm,← hNd]
   split <;> rfl
  have hN: IntKind.i64.wrap ((ts.length: Int) - e.n) = (N: Int) := by rw [wrap_in _ (by omega) (by omega)]; omega
  have hNl: N ≤ ts.length := by omega
  have htk: (ts.take N).length = N := by rw [List.length_take]; omega
  have hyes := callXT_yes (p := p) (e := e) (ts := ts)
  have hno := callXT_no (p := p) (e := e) (ts := ts)
  generalize callXT p e ts = R at hyes hno
  generalize (callT p e ts).2 = cb at hc hyes hno
  generalize findF p e.name = f at hi hm hyes
  simp only [go_sem]
  refine brK_dec (fun hq => absurd hq hi) (fun _ => ?_)
  simp only [go_sem]
  intro _
  rw [hN]
  refine elemHave (by omega) hm ?_
  simp only [go_sem]
  intro _
  refine gK_dec (fun hne => ?_) (fun hne => ?_)
  ·
   have hcf: cb = false := by
    rw [hc]
    split
    ·
     rfl
    ·
     exact eqB_ne fun h => hne (by have := congrArg List.length h; rw [List.length_map,htk] at this; omega)
   rw [hno hcf]
   simp only [go_sem]
   exact finIB rfl rfl
  ·
   have hlen: m.Ins.length = N := by omega
   have hloop: ¬ (e.n = 1 ∧ ¬ ts.getD N ty0 = tyB) → cb = eqB (m.Ins.map DDecl.Ty) (ts.take N) := fun h => by rw [hc,if_neg h]
   have fin0: ∀ (i: Nat) (d: DDecl) (t: DTy),i < N → m.Ins[i]? = some d → ts[i]? = some t → ¬ d.Ty = t → cb = eqB (m.Ins.map DDecl.Ty) (ts.take N) → cb = false := fun i d t hi hd ht hne h => by
    rw [h]
    refine eqB_ne fun h2 => hne ?_
    have h3 := congrArg (fun l => l[i]?) h2
    simp only [List.getElem?_map,hd,Option.map_some] at h3
    rw [List.getElem?_take_of_lt hi,ht] at h3
    exact Option.some.inj h3
   have fin1: (m.Ins.take N).map DDecl.Ty = ts.take N → cb = eqB (m.Ins.map DDecl.Ty) (ts.take N) → cb = true := fun h h2 => by
    rw [h2]
    rw [List.take_of_length_le (by omega)] at h
    exact eqB_eq h
   simp only [go_sem]
   refine gK_dec (fun h1 => ?_) (fun h1 => ?_)
   ·
    obtain ⟨u,hu⟩: ∃ u,ts[N]? = some u := ⟨_,List.getElem?_eq_getElem (by omega)⟩
    have hg := getD_at hu
    simp only [go_sem]
    refine elemHave (x := u) (by omega) (by simpa using hu) ?_
    simp only [go_sem]
    refine PCall.call (truthX u) ?_
    simp only [go_sem]
    refine brK_dec (fun hq => ?_) (fun hq => ?_)
    ·
     have hcf: cb = false := by rw [hc,if_pos ⟨h1,by rw [hg]; exact hq⟩]
     rw [hno hcf]
     simp only [go_sem]
     exact finIB rfl rfl
    ·
     have hcb := hloop (fun h => h.2 (by rw [hg]; exact Classical.not_not.1 hq))
     simp only [go_sem]
     refine loop_frH [6,7,10,44,45,46,47,48,49,50,51,52,53,54,55,56,57,58,59,60,61,62,63] (fun m_ C => ∃ i: Nat,i ≤ N ∧ m_ = N - i ∧ (m.Ins.take i).map DDecl.Ty = ts.take i ∧ C = [(10,.raw (.int .i64 (i: Nat)))]) N _ ⟨0,by omega,by omega,rfl,rfl⟩ (.cons rfl .nil) ?_
     rintro m_ C ja ⟨i,hi',rfl,hp,rfl⟩
     simp only [go_sem]
     refine brK_dec (fun hlt => ?_) (fun hge => ?_)
     ·
      obtain ⟨d,hd⟩: ∃ d,m.Ins[i]? = some d := ⟨_,List.getElem?_eq_getElem (by omega)⟩
      obtain ⟨t,ht⟩: ∃ t,ts[i]? = some t := ⟨_,List.getElem?_eq_getElem (by omega)⟩
      repeat' first
       | simp only [go_sem]
       | refine drawK mo (by kernel_rfl) ?_
       | refine elemHave (x := m) (by omega) hm ?_
       | refine elemHave (x := d) (by omega) (by simpa using hd) ?_
       | refine elemHave (x := t) (by omega) (by simpa using ht) ?_
      refine brK_dec (fun hne2 => ?_) (fun hne2 => ?_)
      ·
       rw [hno (fin0 i d t (by omega) hd ht hne2 hcb)]
       simp only [go_sem]
       exact finIB rfl rfl
      ·
       simp only [go_sem]
       exact loopFrH _ (by omega) ⟨i + 1,by omega,rfl,dt_step hp (by simpa using hd) (by simpa using ht) (Classical.not_not.1 hne2),rfl⟩ (.next rfl (by omega) .nil) rfl
     ·
      have hiN: i = N := by omega
      subst hiN
      rw [hyes (fin1 hp hcb)]
      simp only [go_sem]
      exact finIB rfl rfl
   ·
    have hcb := hloop (fun h => h1 h.1)
    simp only [go_sem]
    refine loop_frH [6,7,10,44,45,46,47,48,49,50,51,52,53,54,55,56,57,58,59,60,61,62,63] (fun m_ C => ∃ i: Nat,i ≤ N ∧ m_ = N - i ∧ (m.Ins.take i).map DDecl.Ty = ts.take i ∧ C = [(10,.raw (.int .i64 (i: Nat)))]) N _ ⟨0,by omega,by omega,rfl,rfl⟩ (.cons rfl .nil) ?_
    rintro m_ C ja ⟨i,hi',rfl,hp,rfl⟩
    simp only [go_sem]
    refine brK_dec (fun hlt => ?_) (fun hge => ?_)
    ·
     obtain ⟨d,hd⟩: ∃ d,m.Ins[i]? = some d := ⟨_,List.getElem?_eq_getElem (by omega)⟩
     obtain ⟨t,ht⟩: ∃ t,ts[i]? = some t := ⟨_,List.getElem?_eq_getElem (by omega)⟩
     repeat' first
      | simp only [go_sem]
      | refine drawK mo (by kernel_rfl) ?_
      | refine elemHave (x := m) (by omega) hm ?_
      | refine elemHave (x := d) (by omega) (by simpa using hd) ?_
      | refine elemHave (x := t) (by omega) (by simpa using ht) ?_
     refine brK_dec (fun hne2 => ?_) (fun hne2 => ?_)
     ·
      rw [hno (fin0 i d t (by omega) hd ht hne2 hcb)]
      simp only [go_sem]
      exact finIB rfl rfl
     ·
      simp only [go_sem]
      exact loopFrH _ (by omega) ⟨i + 1,by omega,rfl,dt_step hp (by simpa using hd) (by simpa using ht) (Classical.not_not.1 hne2),rfl⟩ (.next rfl (by omega) .nil) rfl
    ·
     have hiN: i = N := by omega
     subst hiN
     rw [hyes (fin1 hp hcb)]
     simp only [go_sem]
     exact finIB rfl rfl
end Go.Proofs.YtpamokpmlplopaaGreatDoor
namespace Go.Proofs.YtpamokpmlplopaaGreatDoor
open Go.Abs
set_option maxRecDepth 20000
set_option linter.unusedSimpArgs false
set_option linter.unusedVariables false
set_option maxHeartbeats 1000000
attribute [local irreducible] vc vcOps vcStep vcGuard prK hrK gK gsK brK callK ElemK SeqK BlockK ScopeK OpsK CallK LoopK LoopGo finPost ACall PCall PCallE BCall vqOps vqStep vqGuard qrK heK pcK gqK gqsK QOpsK qcallK DrawK
set_option maxHeartbeats 8000000
section
variable {op: Int} {t u: DTy}
theorem binT_1 (h: 3 ≤ op ∧ op ≤ 7): binT op t u = if t = tyI ∧ u = tyI then (tyI,true) else (ty0,false) := by
 unfold binT
 by_cases q: t = tyI ∧ u = tyI
 ·
  rw [if_pos ⟨h.1,h.2,q.1,q.2⟩,if_pos q]
 ·
  rw [if_neg (fun k => q ⟨k.2.2.1,k.2.2.2⟩),if_neg q,if_neg (fun k => by rcases k with k | k | k <;> omega)]
theorem binT_2 (h: 8 ≤ op ∧ op ≤ 10): binT op t u = if t = tyB ∧ u = tyB then (tyB,true) else (ty0,false) := by
 unfold binT
 rw [if_neg (fun k => by omega)]
 by_cases q: t = tyB ∧ u = tyB
 ·
  rw [if_pos (.inl ⟨h.1,h.2,q.1,q.2⟩),if_pos q]
 ·
  rw [if_neg (fun k => by rcases k with k | k | k; exact q ⟨k.2.2.1,k.2.2.2⟩; omega; omega),if_neg q]
theorem binT_3 (h: op = 11 ∨ op = 12): binT op t u = if t = u ∧ t.Len = 0 then (tyB,true) else (ty0,false) := by
 unfold binT
 rw [if_neg (fun k => by omega)]
 by_cases q: t = u ∧ t.Len = 0
 ·
  rw [if_pos (.inr (.inr ⟨h,q.1,q.2⟩)),if_pos q]
 ·
  rw [if_neg (fun k => by rcases k with k | k | k; omega; omega; exact q ⟨k.2.1,k.2.2⟩),if_neg q]
theorem binT_4 (h: 13 ≤ op ∧ op ≤ 16): binT op t u = if t = tyI ∧ u = tyI then (tyB,true) else (ty0,false) := by
 unfold binT
 rw [if_neg (fun k => by omega)]
 by_cases q: t = tyI ∧ u = tyI
 ·
  rw [if_pos (.inr (.inl ⟨h.1,h.2,q.1,q.2⟩)),if_pos q]
 ·
  rw [if_neg (fun k => by rcases k with k | k | k; omega; exact q ⟨k.2.2.1,k.2.2.2⟩; omega),if_neg q]
theorem binT_0 (h: op < 3 ∨ 16 < op): binT op t u = (ty0,false) := by
 unfold binT
 rw [if_neg (fun k => by omega),if_neg (fun k => by rcases k with k | k | k <;> omega)]
end
theorem binX (op: Int) (t u: DTy): PCall Tryz.prog 185 [.i op,t.enc,u.enc] (tyA (binT op t u)) := by
 refine pcall_of_vc tabOK Tryz.func185 (by kernel_rfl) rfl (by first | exact pureL | exact pureI) (pure_tyA _) (n := 76) rfl (rs := [.cell 6 42,.tmp 7]) rfl ?_
 have hg: (3 ≤ op ∧ op ≤ 7) ∨ (8 ≤ op ∧ op ≤ 10) ∨ (op = 11 ∨ op = 12) ∨ (13 ≤ op ∧ op ≤ 16) ∨ (op < 3 ∨ 16 < op) := by omega
 rcases hg with hg | hg | hg | hg | hg
 ·
  rw [binT_1 hg]
  (repeat' first
   | (exfalso; omega)
   | (have h1: t = tyI := (by assumption); have h2: t = tyB := (by assumption); exact absurd (h1.symm.trans h2) (by decide))
   | simp only [go_sem]
   | refine brK_dec (fun _ => ?_) (fun _ => ?_)
   | refine gK_dec (fun _ => ?_) (fun _ => ?_)
   | refine gqK_dec (fun _ => ?_) (fun _ => ?_)
   | refine drawK mo (by kernel_rfl) ?_
   | (refine PCall.call (plainK _) ?_) | (refine pcK_of (plainK _) ?_) | (simp only [ty000,ty100,ty200])
   | (refine finTy rfl ?_; simp [*]; done))
 ·
  rw [binT_2 hg]
  (repeat' first
   | (exfalso; omega)
   | (have h1: t = tyI := (by assumption); have h2: t = tyB := (by assumption); exact absurd (h1.symm.trans h2) (by decide))
   | simp only [go_sem]
   | refine brK_dec (fun _ => ?_) (fun _ => ?_)
   | refine gK_dec (fun _ => ?_) (fun _ => ?_)
   | refine gqK_dec (fun _ => ?_) (fun _ => ?_)
   | refine drawK mo (by kernel_rfl) ?_
   | (refine PCall.call (plainK _) ?_) | (refine pcK_of (plainK _) ?_) | (simp only [ty000,ty100,ty200])
   | (refine finTy rfl ?_; simp [*]; done))
 ·
  rw [binT_3 hg]
  (repeat' first
   | (exfalso; omega)
   | (have h1: t = tyI := (by assumption); have h2: t = tyB := (by assumption); exact absurd (h1.symm.trans h2) (by decide))
   | simp only [go_sem]
   | refine brK_dec (fun _ => ?_) (fun _ => ?_)
   | refine gK_dec (fun _ => ?_) (fun _ => ?_)
   | refine gqK_dec (fun _ => ?_) (fun _ => ?_)
   | refine drawK mo (by kernel_rfl) ?_
   | (refine PCall.call (plainK _) ?_) | (refine pcK_of (plainK _) ?_) | (simp only [ty000,ty100,ty200])
   | (have hz: t = u ∧ t.Len = 0 := ⟨by assumption,by assumption⟩; rw [if_pos hz]; exact finTy rfl rfl)
   | (have hz: ¬ (t = u ∧ t.Len = 0) := (by rintro ⟨h1,h2⟩; contradiction); rw [if_neg hz]; exact finTy rfl rfl))
 ·
  rw [binT_4 hg]
  (repeat' first
   | (exfalso; omega)
   | (have h1: t = tyI := (by assumption); have h2: t = tyB := (by assumption); exact absurd (h1.symm.trans h2) (by decide))
   | simp only [go_sem]
   | refine brK_dec (fun _ => ?_) (fun _ => ?_)
   | refine gK_dec (fun _ => ?_) (fun _ => ?_)
   | refine gqK_dec (fun _ => ?_) (fun _ => ?_)
   | refine drawK mo (by kernel_rfl) ?_
   | (refine PCall.call (plainK _) ?_) | (refine pcK_of (plainK _) ?_) | (simp only [ty000,ty100,ty200])
   | (refine finTy rfl ?_; simp [*]; done))
 ·
  rw [binT_0 hg]
  (repeat' first
   | (exfalso; omega)
   | (have h1: t = tyI := (by assumption); have h2: t = tyB := (by assumption); exact absurd (h1.symm.trans h2) (by decide))
   | simp only [go_sem]
   | refine brK_dec (fun _ => ?_) (fun _ => ?_)
   | refine gK_dec (fun _ => ?_) (fun _ => ?_)
   | refine gqK_dec (fun _ => ?_) (fun _ => ?_)
   | refine drawK mo (by kernel_rfl) ?_
   | (refine PCall.call (plainK _) ?_) | (refine pcK_of (plainK _) ?_) | (simp only [ty000,ty100,ty200])
   | exact finTy rfl rfl)
end Go.Proofs.YtpamokpmlplopaaGreatDoor
namespace Go.Proofs.YtpamokpmlplopaaGreatDoor
open Go.Abs
set_option maxRecDepth 20000
set_option linter.unusedSimpArgs false
set_option linter.unusedVariables false
set_option maxHeartbeats 1000000
attribute [local irreducible] vc vcOps vcStep vcGuard prK hrK gK gsK brK callK ElemK SeqK BlockK ScopeK OpsK CallK LoopK LoopGo finPost ACall PCall PCallE BCall vqOps vqStep vqGuard qrK heK pcK gqK gqsK QOpsK qcallK DrawK
theorem plainX (p: DProg) (n: DNode) (e: Ex) (ts: List DTy) (hk: e.kind = 5 ∨ e.kind = 6 ∨ e.kind = 7 ∨ e.kind = 14 ∨ e.kind = 15 ∨ e.kind = 16) (hlen: 0 < ts.length) (h2: e.kind = 6 ∨ e.kind = 15 → 1 < ts.length) (h3: e.kind = 7 ∨ e.kind = 16 → 2 < ts.length): PCall Tryz.prog 147 [e.enc,.lst 3 (ts.map DTy.enc) none] (tyA (plainT e ts)) := by
 refine pcall_of_vc tabOK Tryz.func147 (by kernel_rfl) rfl (by repeat' first | exact pure_nil | refine pure_cons ?_ ?_ | exact pure_plE _ _ | exact pure_enc _ | exact DTy.pures _) (pure_tyA _) (n := 109) rfl (rs := [.cell 4 42,.tmp 5]) rfl ?_
 obtain ⟨t0,ht0⟩: ∃ t,ts[0]? = some t := ⟨_,List.getElem?_eq_getElem (by omega)⟩
 rcases hk with hk | hk | hk | hk | hk | hk
 ·
  have hf: plainT e ts = unT e.op t0 := by unfold plainT; rw [if_pos hk,getD_at ht0]
  rw [hf]
  repeat' first
   | simp only [go_sem,hk]
   | refine drawC [1] mo (by kernel_rfl) ?_
   | refine elemHave (x := t0) (by omega) ht0 ?_
   | (refine pcK_of (unX e.op t0) ?_; generalize unT e.op t0 = q; obtain ⟨t,ok⟩ := q)
   | (refine PCall.call (unX e.op t0) ?_; generalize unT e.op t0 = q; obtain ⟨t,ok⟩ := q)
   | exact finTy rfl rfl
 ·
  have h2' := h2 (.inl hk)
  obtain ⟨t1,ht1⟩: ∃ t,ts[1]? = some t := ⟨_,List.getElem?_eq_getElem (by omega)⟩
  have hf: plainT e ts = binT e.op t0 t1 := by unfold plainT; rw [if_neg (by omega),if_pos hk,getD_at ht0,getD_at ht1]
  rw [hf]
  repeat' first
   | simp only [go_sem,hk]
   | refine drawC [1] mo (by kernel_rfl) ?_
   | refine elemHave (x := t0) (by omega) ht0 ?_
   | refine elemHave (x := t1) (by omega) ht1 ?_
   | (refine pcK_of (binX e.op t0 t1) ?_; generalize binT e.op t0 t1 = q; obtain ⟨t,ok⟩ := q)
   | (refine PCall.call (binX e.op t0 t1) ?_; generalize binT e.op t0 t1 = q; obtain ⟨t,ok⟩ := q)
   | exact finTy rfl rfl
 ·
  have h3' := h3 (.inl hk)
  obtain ⟨t1,ht1⟩: ∃ t,ts[1]? = some t := ⟨_,List.getElem?_eq_getElem (by omega)⟩
  obtain ⟨t2,ht2⟩: ∃ t,ts[2]? = some t := ⟨_,List.getElem?_eq_getElem (by omega)⟩
  have hf: plainT e ts = (t1,decide (t0 = tyB) && decide (t1 = t2)) := by unfold plainT; rw [if_neg (by omega),if_neg (by omega),if_pos hk,getD_at ht0,getD_at ht1,getD_at ht2]
  rw [hf]
  repeat' first
   | simp only [go_sem,hk]
   | refine drawC [1] mo (by kernel_rfl) ?_
   | refine elemHave (x := t0) (by omega) ht0 ?_
   | refine elemHave (x := t1) (by omega) ht1 ?_
   | refine elemHave (x := t2) (by omega) ht2 ?_
   | (refine pcK_of (truthX t0) ?_)
   | refine gqK_dec (fun _ => ?_) (fun _ => ?_)
   | exact finTy rfl (by simp [*])
 ·
  have hf: plainT e ts = (⟨t0.Kind,t0.Enum,(ts.length: Int)⟩,sameT ts && decide (t0.Len = 0)) := by unfold plainT; rw [if_neg (by omega),if_neg (by omega),if_neg (by omega),if_pos hk,getD_at ht0]
  rw [hf]
  repeat' first
   | simp only [go_sem,hk]
   | (intro _)
   | refine drawC [1] mo (by kernel_rfl) ?_
   | refine elemHave (x := t0) (by omega) ht0 ?_
   | (refine pcK_of (allX ts) ?_; generalize sameT ts = b; cases b)
   | exact finTy rfl (by simp)
 ·
  have h2' := h2 (.inr hk)
  obtain ⟨t1,ht1⟩: ∃ t,ts[1]? = some t := ⟨_,List.getElem?_eq_getElem (by omega)⟩
  have hf: plainT e ts = (oneT t0,decide (t0.Len > 0) && decide (t1 = tyI)) := by unfold plainT; rw [if_neg (by omega),if_neg (by omega),if_neg (by omega),if_neg (by omega),if_pos hk,getD_at ht0,getD_at ht1]
  rw [hf]
  repeat' first
   | simp only [go_sem,hk]
   | refine drawC [1] mo (by kernel_rfl) ?_
   | refine elemHave (x := t0) (by omega) ht0 ?_
   | refine elemHave (x := t1) (by omega) ht1 ?_
   | (refine pcK_of (oneX t0) ?_)
   | (refine pcK_of (wholeX t1) ?_)
   | refine gqK_dec (fun _ => ?_) (fun _ => ?_)
   | exact finTy rfl (by simp [oneT,*])
 ·
  have h3' := h3 (.inr hk)
  obtain ⟨t1,ht1⟩: ∃ t,ts[1]? = some t := ⟨_,List.getElem?_eq_getElem (by omega)⟩
  obtain ⟨t2,ht2⟩: ∃ t,ts[2]? = some t := ⟨_,List.getElem?_eq_getElem (by omega)⟩
  have hf: plainT e ts = (t0,decide (t0.Len > 0) && decide (t1 = tyI) && decide (t2 = oneT t0)) := by unfold plainT; rw [if_neg (by omega),if_neg (by omega),if_neg (by omega),if_neg (by omega),if_neg (by omega),getD_at ht0,getD_at ht1,getD_at ht2]
  rw [hf]
  unfold oneT
  repeat' first
   | simp only [go_sem,hk]
   | refine drawC [1] mo (by kernel_rfl) ?_
   | refine elemHave (x := t0) (by omega) ht0 ?_
   | refine elemHave (x := t1) (by omega) ht1 ?_
   | refine elemHave (x := t2) (by omega) ht2 ?_
   | (refine pcK_of (oneX t0) ?_)
   | (refine pcK_of (wholeX t1) ?_)
   | refine gqK_dec (fun _ => ?_) (fun _ => ?_)
   | exact finTy rfl (by simp [*])
theorem two_no {arms: List ByteArray} {i: Nat} {x y: ByteArray} (hx: arms[i]? = some x) (hy: [tTrue,tFalse][i]? = some y) (h: ¬ x = y): eqB arms [tTrue,tFalse] = false := eqB_ne fun e => h (by rw [e,hy] at hx; exact (Option.some.inj hx).symm)
theorem two_len {arms: List ByteArray} (h: ¬ arms.length = 2): eqB arms [tTrue,tFalse] = false := eqB_ne fun e => h (by rw [e]; rfl)
theorem two_yes {arms: List ByteArray} (hl: arms.length = 2) (h0: arms[0]? = some tTrue) (h1: arms[1]? = some tFalse): eqB arms [tTrue,tFalse] = true := by
 match arms,hl with
 | [a,b],_ =>
  cases h0
  cases h1
  exact eqB_eq rfl
theorem two_val {arms: List ByteArray} {a b: ByteArray} (hl: arms.length = 2) (h0: arms[0]? = some a) (h1: arms[1]? = some b): eqB arms [tTrue,tFalse] = (decide (a = tTrue) && decide (b = tFalse)) := by
 by_cases h2: a = tTrue
 ·
  by_cases h3: b = tFalse
  ·
   subst h2 h3
   rw [two_yes hl h0 h1]; simp
  ·
   rw [two_no (i := 1) h1 rfl h3]; simp [h3]
 ·
  rw [two_no (i := 0) h0 rfl h2]; simp [h2]
theorem armsX (L: List DEnum) (t: DTy) (arms: List ByteArray) (hT: t.Kind = 3 → 0 ≤ t.Enum ∧ t.Enum < L.length): PCall Tryz.prog 182 [.lst 2 (L.map DEnum.enc) none,t.enc,.lst 1 (arms.map AV.s) none] (.b (armsT L t arms)) := by
 refine pcall_of_vc tabOK Tryz.func182 (by kernel_rfl) rfl (pure_cons (DEnum.pures _) (pure_cons (DTy.pure _) (pure_cons (pure_strs _) pure_nil))) (.raw _) (n := 65) rfl (rs := [.tmp 6]) rfl ?_
 unfold armsT
 by_cases hB: t = tyB
 ·
  rw [if_pos hB]
  by_cases h2: arms.length = 2
  ·
   obtain ⟨a,ha⟩: ∃ a,arms[0]? = some a := ⟨_,List.getElem?_eq_getElem (by omega)⟩
   obtain ⟨b,hb⟩: ∃ b,arms[1]? = some b := ⟨_,List.getElem?_eq_getElem (by omega)⟩
   rw [two_val h2 ha hb]
   repeat' first
    | (exfalso; omega)
    | simp only [go_sem]
    | (intro _)
    | (refine PCall.call (truthX t) ?_; rw [decide_eq_true hB])
    | refine gK_dec (fun _ => ?_) (fun _ => ?_)
    | refine gqK_dec (fun _ => ?_) (fun _ => ?_)
    | refine brK_dec (fun _ => ?_) (fun _ => ?_)
    | refine drawK mo (by kernel_rfl) ?_
    | refine elemHave (x := a) (by omega) ha ?_
    | refine elemHave (x := b) (by omega) hb ?_
    | exact finBq rfl (by simp [*])
  ·
   rw [two_len h2]
   repeat' first
    | (exfalso; omega)
    | simp only [go_sem]
    | (intro _)
    | (refine PCall.call (truthX t) ?_; rw [decide_eq_true hB])
    | refine gK_dec (fun _ => ?_) (fun _ => ?_)
    | refine gqK_dec (fun _ => ?_) (fun _ => ?_)
    | refine brK_dec (fun _ => ?_) (fun _ => ?_)
    | refine drawK mo (by kernel_rfl) ?_
    | (exact finBq rfl rfl)
 ·
  rw [if_neg hB]
  by_cases h3: t.Kind = 3 ∧ t.Len = 0
  ·
   rw [if_pos h3]
   have hr := hT h3.1
   obtain ⟨c,hc⟩: ∃ c,L[t.Enum.toNat]? = some c := ⟨_,List.getElem?_eq_getElem (by omega)⟩
   rw [hc]
   have hgd: ((some c).map DEnum.Ctors).getD [] = c.Ctors := rfl
   rw [hgd]
   repeat' first
    | (exfalso; omega)
    | simp only [go_sem]
    | (intro _)
    | (refine PCall.call (truthX t) ?_; rw [decide_eq_false hB])
    | refine gK_dec (fun _ => ?_) (fun _ => ?_)
    | refine elemHave (x := c) (by omega) hc ?_
   refine brK_dec (fun hlen => ?_) (fun hlen => ?_)
   ·
    rw [eqB_ne (len_ne (l := arms) (m := c.Ctors) (by omega))]
    simp only [go_sem]
    exact finBq rfl rfl
   ·
    simp only [go_sem]
    refine loop_frH [6,7,45,46,47,48,49,50,51,52,53,54,55,56,57,58,59,60,61,62,63,64] (fun m_ C => ∃ i: Nat,i ≤ arms.length ∧ m_ = arms.length - i ∧ arms.take i = c.Ctors.take i ∧ C = [(7,.raw (.int .i64 (i: Nat)))]) arms.length _ ⟨0,by omega,by omega,rfl,rfl⟩ (.cons rfl .nil) ?_
    rintro m_ C ja ⟨i,hi,rfl,hp,rfl⟩
    simp only [go_sem]
    intro _
    refine brK_dec (fun hlt => ?_) (fun hge => ?_)
    ·
     obtain ⟨x,hx⟩: ∃ x,arms[i]? = some x := ⟨_,List.getElem?_eq_getElem (by omega)⟩
     obtain ⟨y,hy⟩: ∃ y,c.Ctors[i]? = some y := ⟨_,List.getElem?_eq_getElem (by omega)⟩
     repeat' first
      | simp only [go_sem]
      | refine drawK mo (by kernel_rfl) ?_
      | refine elemHave (x := c) (by omega) hc ?_
      | refine elemHave (x := x) (by omega) (by simpa using hx) ?_
      | refine elemHave (x := y) (by omega) (by simpa using hy) ?_
     refine brK_dec (fun hne => ?_) (fun hne => ?_)
     ·
      rw [eqB_ne (at_ne' (l := arms) (m := c.Ctors) (i := i) (by simpa using hx) (by simpa using hy) hne)]
      simp only [go_sem]
      exact finBq rfl rfl
     ·
      simp only [go_sem]
      exact loopFrH _ (by omega) ⟨i + 1,by omega,rfl,take_eq_step' hp (by simpa using hx) (by simpa using hy) (Classical.not_not.1 hne),rfl⟩ (.next rfl (by omega) .nil) rfl
    ·
     rw [eqB_eq (take_eq_full (l := arms) (m := c.Ctors) (i := i) (by omega) hp (by omega))]
     simp only [go_sem]
     exact finBq rfl rfl
  ·
   rw [if_neg h3]
   repeat' first
    | (exfalso; omega)
    | simp only [go_sem]
    | (intro _)
    | (refine PCall.call (truthX t) ?_; rw [decide_eq_false hB])
    | refine gK_dec (fun _ => ?_) (fun _ => ?_)
    | refine brK_dec (fun _ => ?_) (fun _ => ?_)
    | (exact finBq rfl rfl)
    | (exfalso; exact h3 ⟨by omega,by omega⟩)
theorem flowX (p: DProg) (j: Nat) (n: DNode) (hj: p.Nodes[j]? = some n) (hl: (allV n).length ≤ 60) (e: Ex) (ts: List DTy) (hb: ts.length ≤ 100000) (hk: 9 ≤ e.kind ∧ e.kind ≤ 13) (hlen: ¬ e.kind = 13 → 0 < ts.length) (h9: e.kind = 9 → 1 < ts.length) (h11: e.kind = 11 → 0 < e.arms.length) (h12: (decl n e.name).1.Ty.Kind = 3 → 0 ≤ (decl n e.name).1.Ty.Enum ∧ (decl n e.name).1.Ty.Enum < p.Enums.length)
  (h13: e.kind = 13 → (e.n = 0 ∨ e.n = 1) ∧ e.n ≤ (ts.length: Int)): PCall Tryz.prog 146 [p.enc,.i (j: Int),e.enc,.lst 3 (ts.map DTy.enc) none] (tyA (flowT p n e ts)) := by
 refine pcall_of_vc tabOK Tryz.func146 (by kernel_rfl) rfl (pure_cons (DProg.pure _) (pure_cons (.raw _) (pure_cons (pure_enc e) (pure_cons (DTy.pures _) pure_nil)))) (pure_tyA _) (n := 123) rfl (rs := [.cell 8 42,.tmp 9]) rfl ?_
 rcases (show e.kind = 9 ∨ e.kind = 11 ∨ e.kind = 12 ∨ e.kind = 13 ∨ e.kind = 10 by omega) with hk | hk | hk | hk | hk
 ·
  have h1 := h9 hk
  obtain ⟨t0,ht0⟩: ∃ t,ts[0]? = some t := ⟨_,List.getElem?_eq_getElem (by omega)⟩
  obtain ⟨t1,ht1⟩: ∃ t,ts[1]? = some t := ⟨_,List.getElem?_eq_getElem (by omega)⟩
  have hf: flowT p n e ts = (t0,decide (t0 = t1)) := by unfold flowT; rw [if_pos hk,getD_at ht0,getD_at ht1]
  rw [hf]
  repeat' first
   | simp only [go_sem,hk]
   | refine drawC [2] mo (by kernel_rfl) ?_
   | refine elemHave (x := t0) (by omega) ht0 ?_
   | refine elemHave (x := t1) (by omega) ht1 ?_
   | exact finTy rfl rfl
 ·
  obtain ⟨t0,ht0⟩: ∃ t,ts[0]? = some t := ⟨_,List.getElem?_eq_getElem (hlen (by omega))⟩
  obtain ⟨a,ha⟩: ∃ a,e.arms[0]? = some a := ⟨_,List.getElem?_eq_getElem (h11 hk)⟩
  have hf: flowT p n e ts = (t0,whenT p n e.name a) := by unfold flowT; rw [if_neg (by omega),if_pos hk,getD_at ht0,arms_hd (by simpa using ha)]
  rw [hf]
  unfold whenT armOk
  repeat' first
   | simp only [go_sem,hk]
   | refine drawC [2] mo (by kernel_rfl) ?_
   | refine elemHave (x := n) (by omega) hj ?_
   | refine elemHave (x := t0) (by omega) ht0 ?_
   | refine elemHave (x := a) (by omega) ha ?_
   | (refine pcK_of (decl26 n e.name (by omega)) ?_; generalize decl n e.name = d; obtain ⟨d,ok⟩ := d)
   | (refine pcK_of (arm91 p.Enums a) ?_; generalize armF p.Enums a = q; obtain ⟨u,v,is⟩ := q)
   | refine gqK_split (fun _ => ?_) (fun _ => ?_)
   | refine gqK_dec (fun _ => ?_) (fun _ => ?_)
   | (refine finTy rfl ?_; simp [*]; done)
   | (refine finTy rfl ?_; simp [*]; exact eq_comm)
 ·
  obtain ⟨t0,ht0⟩: ∃ t,ts[0]? = some t := ⟨_,List.getElem?_eq_getElem (hlen (by omega))⟩
  have hf: flowT p n e ts = (t0,(decl n e.name).2 && sameT ts && armsT p.Enums (decl n e.name).1.Ty e.arms) := by unfold flowT; rw [if_neg (by omega),if_neg (by omega),if_pos hk,getD_at ht0]
  rw [hf]
  have hd26 := decl26 n e.name (by omega)
  generalize decl n e.name = d at h12 hd26
  obtain ⟨d,ok⟩ := d
  repeat' first
   | simp only [go_sem,hk]
   | refine drawC [2] mo (by kernel_rfl) ?_
   | refine elemHave (x := n) (by omega) hj ?_
   | refine elemHave (x := t0) (by omega) ht0 ?_
   | (refine pcK_of hd26 ?_)
   | (refine pcK_of (allX ts) ?_; generalize sameT ts = b; cases b)
   | (refine pcK_of (armsX p.Enums d.Ty e.arms h12) ?_)
   | refine gqK_split (fun _ => ?_) (fun _ => ?_)
   | exact finTy rfl (by simp [*])
 ·
  have h14 := h13 hk
  have hf: flowT p n e ts = if (callT p e ts).2 = true ∧ (callT p e ts).1.Outs.length = 1 then (((callT p e ts).1.Outs.headD zeroD).Ty,true) else (ty0,false) := by unfold flowT; rw [if_neg (by omega),if_neg (by omega),if_neg (by omega),if_pos hk]
  rw [hf]
  have hcX := callX p e ts h14.1 h14.2 hb
  have hd26 := decl26 n e.name (by omega)
  generalize decl n e.name = d at hd26
  obtain ⟨d,dok⟩ := d
  cases hc: (callT p e ts).2 with
  | false =>
   rw [callXT_no hc] at hcX
   rw [if_neg (by rintro ⟨h,_⟩; cases h)]
   repeat' first
    | (exfalso; omega)
    | simp only [go_sem]
    | (refine PCall.call hcX ?_)
    | refine brK_dec (fun _ => ?_) (fun _ => ?_)
    | refine drawC [2] mo (by kernel_rfl) ?_
    | refine elemHave (x := n) (by omega) hj ?_
    | (refine pcK_of hd26 ?_)
    | exact finTy rfl rfl
  | true =>
   rw [callXT_yes hc] at hcX
   have hfi: ¬ findF p e.name < 0 := fun h => by unfold callT at hc; rw [if_pos h] at hc; cases hc
   obtain ⟨m,hm⟩ := find_at hfi
   have hcm: (callT p e ts).1 = m := by
    unfold callT at hc ⊢
    rw [if_neg hfi] at hc ⊢
    split at hc
    ·
     cases hc
    ·
     rename_i h1
     rw [if_neg h1,hm]; rfl
   rw [hcm]
   generalize findF p e.name = f at hcX hfi hm
   repeat' first
    | (exfalso; omega)
    | simp only [go_sem]
    | (intro _)
    | (refine PCall.call hcX ?_)
    | refine brK_dec (fun _ => ?_) (fun _ => ?_)
    | refine gK_dec (fun _ => ?_) (fun _ => ?_)
    | refine drawC [2] mo (by kernel_rfl) ?_
    | refine elemHave (x := n) (by omega) hj ?_
    | refine elemHave (x := m) (by omega) hm ?_
    | (refine pcK_of hd26 ?_)
    | refine elemMap (by omega) (by omega) (fun x hx => ?_)
    | (have hz: m.Outs.length = 1 := (by omega); have ho := outs_hd hx; refine finTy rfl ?_; rw [if_pos hz,ho])
    | (have hz: ¬ m.Outs.length = 1 := (by omega); refine finTy rfl ?_; simp [hz]; done)
 ·
  obtain ⟨t0,ht0⟩: ∃ t,ts[0]? = some t := ⟨_,List.getElem?_eq_getElem (hlen (by omega))⟩
  have hf: flowT p n e ts = (t0,true) := by unfold flowT; rw [if_neg (by omega),if_neg (by omega),if_neg (by omega),if_neg (by omega),getD_at ht0]
  rw [hf]
  repeat' first
   | simp only [go_sem,hk]
   | refine elemHave (x := t0) (by omega) ht0 ?_
   | exact finTy rfl rfl
theorem plainP (p: DProg) (n: DNode) (e: Ex) (ts: List DTy) (hk: e.kind = 5 ∨ e.kind = 6 ∨ e.kind = 7 ∨ e.kind = 14 ∨ e.kind = 15 ∨ e.kind = 16) (hlen: 0 < ts.length) (h2: e.kind = 6 ∨ e.kind = 15 → 1 < ts.length) (h3: e.kind = 7 ∨ e.kind = 16 → 2 < ts.length): PCall Tryz.prog 223 [plE p n,e.enc,.lst 3 (ts.map DTy.enc) none] (tyA (plainT e ts)) := by
 refine pcall_of_vc tabOK Tryz.func223 (by kernel_rfl) rfl (by repeat' first | exact pure_nil | refine pure_cons ?_ ?_ | exact pure_plE _ _ | exact pure_enc _ | exact DTy.pures _) (pure_tyA _) (n := 111) rfl (rs := [.cell 6 42,.tmp 7]) rfl ?_
 obtain ⟨t0,ht0⟩: ∃ t,ts[0]? = some t := ⟨_,List.getElem?_eq_getElem (by omega)⟩
 rcases hk with hk | hk | hk | hk | hk | hk
 ·
  have hf: plainT e ts = unT e.op t0 := by unfold plainT; rw [if_pos hk,getD_at ht0]
  rw [hf]
  repeat' first
   | simp only [go_sem,hk]
   | refine drawC [2] mo (by kernel_rfl) ?_
   | refine elemHave (x := t0) (by omega) ht0 ?_
   | (refine pcK_of (unP e.op t0) ?_; generalize unT e.op t0 = q; obtain ⟨t,ok⟩ := q)
   | (refine PCall.call (unP e.op t0) ?_; generalize unT e.op t0 = q; obtain ⟨t,ok⟩ := q)
   | exact finTy rfl rfl
 ·
  have h2' := h2 (.inl hk)
  obtain ⟨t1,ht1⟩: ∃ t,ts[1]? = some t := ⟨_,List.getElem?_eq_getElem (by omega)⟩
  have hf: plainT e ts = binT e.op t0 t1 := by unfold plainT; rw [if_neg (by omega),if_pos hk,getD_at ht0,getD_at ht1]
  rw [hf]
  repeat' first
   | simp only [go_sem,hk]
   | refine drawC [2] mo (by kernel_rfl) ?_
   | refine elemHave (x := t0) (by omega) ht0 ?_
   | refine elemHave (x := t1) (by omega) ht1 ?_
   | (refine pcK_of (binP e.op t0 t1) ?_; generalize binT e.op t0 t1 = q; obtain ⟨t,ok⟩ := q)
   | (refine PCall.call (binP e.op t0 t1) ?_; generalize binT e.op t0 t1 = q; obtain ⟨t,ok⟩ := q)
   | exact finTy rfl rfl
 ·
  have h3' := h3 (.inl hk)
  obtain ⟨t1,ht1⟩: ∃ t,ts[1]? = some t := ⟨_,List.getElem?_eq_getElem (by omega)⟩
  obtain ⟨t2,ht2⟩: ∃ t,ts[2]? = some t := ⟨_,List.getElem?_eq_getElem (by omega)⟩
  have hf: plainT e ts = (t1,decide (t0 = tyB) && decide (t1 = t2)) := by unfold plainT; rw [if_neg (by omega),if_neg (by omega),if_pos hk,getD_at ht0,getD_at ht1,getD_at ht2]
  rw [hf]
  repeat' first
   | simp only [go_sem,hk]
   | refine drawC [2] mo (by kernel_rfl) ?_
   | refine elemHave (x := t0) (by omega) ht0 ?_
   | refine elemHave (x := t1) (by omega) ht1 ?_
   | refine elemHave (x := t2) (by omega) ht2 ?_
   | (refine pcK_of (truthP t0) ?_)
   | refine gqK_dec (fun _ => ?_) (fun _ => ?_)
   | exact finTy rfl (by simp [*])
 ·
  have hf: plainT e ts = (⟨t0.Kind,t0.Enum,(ts.length: Int)⟩,sameT ts && decide (t0.Len = 0)) := by unfold plainT; rw [if_neg (by omega),if_neg (by omega),if_neg (by omega),if_pos hk,getD_at ht0]
  rw [hf]
  repeat' first
   | simp only [go_sem,hk]
   | (intro _)
   | refine drawC [2] mo (by kernel_rfl) ?_
   | refine elemHave (x := t0) (by omega) ht0 ?_
   | (refine pcK_of (sameP ts) ?_; generalize sameT ts = b; cases b)
   | exact finTy rfl (by simp)
 ·
  have h2' := h2 (.inr hk)
  obtain ⟨t1,ht1⟩: ∃ t,ts[1]? = some t := ⟨_,List.getElem?_eq_getElem (by omega)⟩
  have hf: plainT e ts = (oneT t0,decide (t0.Len > 0) && decide (t1 = tyI)) := by unfold plainT; rw [if_neg (by omega),if_neg (by omega),if_neg (by omega),if_neg (by omega),if_pos hk,getD_at ht0,getD_at ht1]
  rw [hf]
  repeat' first
   | simp only [go_sem,hk]
   | refine drawC [2] mo (by kernel_rfl) ?_
   | refine elemHave (x := t0) (by omega) ht0 ?_
   | refine elemHave (x := t1) (by omega) ht1 ?_
   | (refine pcK_of (oneP t0) ?_)
   | (refine pcK_of (wholeP t1) ?_)
   | refine gqK_dec (fun _ => ?_) (fun _ => ?_)
   | exact finTy rfl (by simp [oneT,*])
 ·
  have h3' := h3 (.inr hk)
  obtain ⟨t1,ht1⟩: ∃ t,ts[1]? = some t := ⟨_,List.getElem?_eq_getElem (by omega)⟩
  obtain ⟨t2,ht2⟩: ∃ t,ts[2]? = some t := ⟨_,List.getElem?_eq_getElem (by omega)⟩
  have hf: plainT e ts = (t0,decide (t0.Len > 0) && decide (t1 = tyI) && decide (t2 = oneT t0)) := by unfold plainT; rw [if_neg (by omega),if_neg (by omega),if_neg (by omega),if_neg (by omega),if_neg (by omega),getD_at ht0,getD_at ht1,getD_at ht2]
  rw [hf]
  unfold oneT
  repeat' first
   | simp only [go_sem,hk]
   | refine drawC [2] mo (by kernel_rfl) ?_
   | refine elemHave (x := t0) (by omega) ht0 ?_
   | refine elemHave (x := t1) (by omega) ht1 ?_
   | refine elemHave (x := t2) (by omega) ht2 ?_
   | (refine pcK_of (oneP t0) ?_)
   | (refine pcK_of (wholeP t1) ?_)
   | refine gqK_dec (fun _ => ?_) (fun _ => ?_)
   | exact finTy rfl (by simp [*])
abbrev subsA (o: Option (List DTy)): AV := .tup [.lst 3 ((o.getD []).map DTy.enc) none,.b o.isSome]
theorem pure_subsA (o: Option (List DTy)): Go.Abs.Pure (subsA o) := .tup _ (pure_cons (DTy.pures _) (pure_cons (.raw _) pure_nil))
theorem finS0 {T: TypeId → TI} {rs: List ResultVar} {s: List AV} {h: List Blk} {o: Option (List DTy)} (hr: resAV T s h rs = some [.raw (.slice none 0 0),.b false]) (ho: o = none): Go.Abs.Fin T rs (subsA o) s h := by
 subst ho
 refine ⟨_,hr,false,Weak.tup _ _ rfl (fun i c d hc hd => ?_)⟩
 match i with
 | 0 => (cases hc; cases hd; exact .nil _)
 | 1 => (cases hc; cases hd; exact .refl _)
 | i + 2 => simp at hc
theorem finSk {T: TypeId → TI} {rs: List ResultVar} {s: List AV} {h: List Blk} {o: Option (List DTy)} {ts: List DTy} {k: Nat} (hr: resAV T s h rs = some [.lst 3 (ts.map DTy.enc) (some k),.b true]) (ho: o = some ts): Go.Abs.Fin T rs (subsA o) s h := by
 subst ho
 refine ⟨_,hr,false,Weak.tup _ _ rfl (fun i c d hc hd => ?_)⟩
 match i with
 | 0 => (cases hc; cases hd; exact .tok _ _ _)
 | 1 => (cases hc; cases hd; exact .refl _)
 | i + 2 => simp at hc
theorem allS_len: ∀ {l: List (Option DTy)} {ts: List DTy},allS l = some ts → ts.length = l.length
 | [],ts,h => by cases h; rfl
 | none :: l,ts,h => by cases h
 | some t :: l,ts,h => by
  rw [allS] at h
  cases hq: allS l with
  | none => rw [hq] at h; cases h
  | some us => rw [hq] at h; cases h; simp [allS_len hq]
theorem allS_snoc: ∀ {l: List (Option DTy)} {ts: List DTy} (t: DTy),allS l = some ts → allS (l ++ [some t]) = some (ts ++ [t])
 | [],ts,t,h => by cases h; rfl
 | none :: l,ts,t,h => by cases h
 | some u :: l,ts,t,h => by
  rw [allS] at h
  cases hq: allS l with
  | none => rw [hq] at h; cases h
  | some us => rw [hq] at h; cases h; rw [List.cons_append,allS,allS_snoc t hq]; rfl
theorem allS_none: ∀ {l: List (Option DTy)},none ∈ l → allS l = none
 | [],h => by simp at h
 | none :: l,_ => rfl
 | some u :: l,h => by
  rw [allS,allS_none (l := l) (by simpa using h)]
  rfl
abbrev OfC (p: DProg) (n: DNode) (x: Ex): Prop := PCall Tryz.prog 174 [plE p n,x.enc] (tyA (headP p n x (ofL p n x.subs)))
theorem subsP (p: DProg) (n: DNode) (e: Ex) (hb: e.subs.length ≤ 200) (ih: ∀ x ∈ e.subs,OfC p n x): PCall Tryz.prog 221 [plE p n,e.enc] (subsA (allS (ofL p n e.subs))) := by
 refine pcall_of_vc tabOK Tryz.func221 (by kernel_rfl) rfl (pure_cons (pure_plE p n) (pure_cons (pure_enc e) pure_nil)) (pure_subsA _) (n := 32) rfl (rs := [.tmp 4,.tmp 5]) rfl ?_
 rw [ofL_map]
 simp only [go_sem]
 intro _
 refine loop_ghost (ghost_tok 6 42 3 rfl) ?_
 refine loop_fr [4,5,6,8,9,10,14,15,16,17,18,19,20,21,22,23,24,25,26,27,28,29,30] (fun m C hh => ∃ (i: Nat) (r: List Blk) (ts: List DTy),i ≤ e.subs.length ∧ m = e.subs.length - i ∧ allS ((e.subs.take i).map (ofT p n)) = some ts ∧ ts.length = i ∧ C = [(14,.raw (.int .i64 (i: Nat))),(6,.lst 3 (ts.map DTy.enc) (some 2))] ∧
  hh = .cells 204 [.lst 2 (p.Enums.map DEnum.enc) none,.lst 5 (p.Nodes.map DNode.enc) none,.s n.Name,.lst 6 (n.Ins.map DDecl.enc) none,.lst 6 (n.Outs.map DDecl.enc) none,.lst 6 (n.Vars.map DDecl.enc) none,.lst 7 (n.Eqs.map DEq.enc) none] :: .cells 72 [.i e.kind,.i e.n,.s e.name,.i e.op,.lst 1 (e.arms.map AV.s) none,.lst 6 (e.subs.map Ex.enc) none] :: .tok 42 3 i :: r) e.subs.length _ ⟨0,[],[],by omega,by omega,rfl,rfl,rfl,rfl⟩ (.cons rfl (.cons rfl .nil)) ?_
 rintro m C ja hh ⟨i,r,ts,hi,rfl,hA,hl,rfl,rfl⟩
 simp only [go_sem]
 refine brK_dec (fun hlt => ?_) (fun hge => ?_)
 ·
  simp only [go_sem]
  refine elemMap (by omega) (by omega) (fun x hx => ?_)
  have hxm := List.mem_of_getElem? hx
  have hst := take_mapS (f := ofT p n) hx
  have hoT := ofT_eq p n x
  simp only [go_sem]
  refine PCall.call (ih x hxm) ?_
  generalize headP p n x (ofL p n x.subs) = q at hoT
  obtain ⟨t,ok⟩ := q
  cases ok with
  | false =>
   simp only [go_sem]
   exact finS0 rfl (allS_none (List.mem_map.2 ⟨x,hxm,by rw [hoT]; rfl⟩))
  | true =>
   simp only [go_sem]
   refine ⟨by omega,?_⟩
   exact loopFr _ (by omega) ⟨i + 1,_,ts ++ [t],by omega,rfl,by rw [hst,hoT]; exact allS_snoc t hA,by simp [hl],rfl,by rw [hl]⟩ (.next rfl (by omega) (.cons (by simp [slot]) .nil)) rfl
 ·
  rw [List.take_of_length_le (by omega)] at hA
  simp only [go_sem]
  exact finSk rfl hA
theorem delayedP (p: DProg) (n: DNode) (e c x: Ex) (hs: e.subs = [c,x]) (h8: e.kind = 8) (hc: okE c) (ih: OfC p n x): PCall Tryz.prog 220 [plE p n,e.enc] (tyA (headP p n e (ofL p n e.subs))) := by
 refine pcall_of_vc tabOK Tryz.func220 (by kernel_rfl) rfl (pure_cons (pure_plE p n) (pure_cons (pure_enc e) pure_nil)) (pure_tyA _) (n := 42) rfl (rs := [.cell 4 42,.tmp 5]) rfl ?_
 have hf: headP p n e (ofL p n e.subs) = ((constT p.Enums c).2.1,(constT p.Enums c).2.2 && decide (ofT p n x = some (constT p.Enums c).2.1)) := by
  unfold headP
  rw [if_neg (by omega),if_neg (by omega),if_pos h8,hs,ofL_map]
  rfl
 have hoT := ofT_eq p n x
 rw [hf]
 have e0: e.subs[0]? = some c := by rw [hs]; rfl
 have e1: e.subs[1]? = some x := by rw [hs]; rfl
 generalize hq: constT p.Enums c = q
 obtain ⟨l,t,ok⟩ := q
 generalize hq2: headP p n x (ofL p n x.subs) = q2 at hoT
 obtain ⟨u,is⟩ := q2
 have hcP := constP p.Enums c hc
 rw [hq] at hcP
 have hx := ih
 unfold OfC at hx
 rw [hq2] at hx
 repeat' first
  | simp only [go_sem]
  | refine drawC [2] mo (by kernel_rfl) ?_
  | refine elemHave (x := c) (by omega) e0 ?_
  | refine elemHave (x := x) (by omega) e1 ?_
  | (refine pcK_of hcP ?_)
  | (refine pcK_of hx ?_)
  | refine gqK_split (fun _ => ?_) (fun _ => ?_)
  | refine gqK_dec (fun _ => ?_) (fun _ => ?_)
 all_goals (refine finTy rfl ?_; rw [hoT]; first | (simp [opt,*]; done) | (simp [opt,*]; exact eq_comm))
theorem part_facts {e: Ex} (h: partE e = true): (1 ≤ e.kind ∧ e.kind ≤ 17) ∧ (subsE e).1 ≤ e.subs.length ∧ (e.subs.length: Int) ≤ (subsE e).2 ∧ (e.kind = 11 → 0 < e.arms.length) ∧ (e.kind = 12 → 0 < e.arms.length) ∧ (e.kind = 13 → e.n = 0 ∨ e.n = 1) := by
 obtain ⟨h1,h2,_⟩ := partE_len h
 unfold partE at h
 simp only [Bool.and_eq_true,decide_eq_true_eq] at h
 obtain ⟨⟨⟨⟨⟨⟨hk,hn⟩,_⟩,ha⟩,_⟩,_⟩,_⟩ := h
 refine ⟨hk,h1,h2,fun k => ?_,fun k => ?_,fun k => ?_⟩
 ·
  unfold armsE at ha
  rw [if_pos k] at ha
  simp only [Bool.and_eq_true,decide_eq_true_eq] at ha
  omega
 ·
  unfold armsE at ha
  rw [if_neg (by omega),if_pos k] at ha
  simp only [Bool.and_eq_true,decide_eq_true_eq] at ha
  omega
 ·
  unfold numbersE at hn
  rw [if_neg (by omega),if_neg (by omega),if_neg (by omega),if_pos (.inr k)] at hn
  simp only [Bool.and_eq_true,decide_eq_true_eq] at hn
  exact hn.2
def tyOK (p: DProg) (n: DNode): Prop := (allV n).length ≤ 60 ∧ ∀ nm,(decl n nm).1.Ty.Kind = 3 → 0 ≤ (decl n nm).1.Ty.Enum ∧ (decl n nm).1.Ty.Enum < p.Enums.length
theorem sub_ok {e x: Ex} (h: ∀ y ∈ parts e,partE y = true) (hx: x ∈ e.subs): ∀ y ∈ parts x,partE y = true := fun y hy => h y (sub_parts hx hy)
theorem sub_okE {e x: Ex} (h: okE e) (hx: x ∈ e.subs): okE x := ok_part h (sub_parts hx (self_parts x))
theorem ofP (p: DProg) (n: DNode) (ho: tyOK p n): ∀ (e: Ex),(∀ y ∈ parts e,partE y = true) → okE e → OfC p n e := by
 intro e
 induction e using Ex.ind with
 | _ e ih =>
 intro hp hok
 have hsl := subs_le hok
 obtain ⟨hk,hlo,hhi,ha11,ha12,hn13⟩ := part_facts (hp e (self_parts e))
 have ih': ∀ x ∈ e.subs,OfC p n x := fun x hx => ih x hx (sub_ok hp hx) (sub_okE hok hx)
 unfold OfC
 refine pcall_of_vc tabOK Tryz.func174 (by kernel_rfl) rfl (pure_cons (pure_plE p n) (pure_cons (pure_enc e) pure_nil)) (pure_tyA _) (n := 82) rfl (rs := [.cell 4 42,.tmp 5]) rfl ?_
 by_cases h124: e.kind = 1 ∨ e.kind = 2 ∨ e.kind = 4
 ·
  have hf: headP p n e (ofL p n e.subs) = ((constT p.Enums e).2.1,(constT p.Enums e).2.2) := by unfold headP; rw [if_pos h124]
  rw [hf]
  have hc := constP p.Enums e hok
  generalize constT p.Enums e = q at hc
  obtain ⟨l,t,ok⟩ := q
  repeat' first
   | (exfalso; omega)
   | simp only [go_sem]
   | refine brK_dec (fun _ => ?_) (fun _ => ?_)
   | (refine PCall.call hc ?_)
   | exact finTy rfl rfl
 by_cases h3: e.kind = 3
 ·
  have hf: headP p n e (ofL p n e.subs) = ((decl n e.name).1.Ty,(decl n e.name).2) := by unfold headP; rw [if_neg h124,if_pos h3]
  rw [hf]
  have hc := decl25 n e.name (by have := ho.1; omega)
  generalize decl n e.name = q at hc
  obtain ⟨d,ok⟩ := q
  repeat' first
   | (exfalso; omega)
   | simp only [go_sem]
   | refine brK_dec (fun _ => ?_) (fun _ => ?_)
   | (refine PCall.call hc ?_)
   | exact finTy rfl rfl
 by_cases h8: e.kind = 8
 ·
  have hs2: (subsE e).1 = 2 ∧ (subsE e).2 = 2 := by simp [subsE,h8]
  match hs: e.subs,(show e.subs.length = 2 by omega) with
  | [c,x],_ =>
   have hd := delayedP p n e c x hs h8 (sub_okE hok (by rw [hs]; simp)) (ih' x (by rw [hs]; simp))
   rw [hs] at hd
   generalize headP p n e (ofL p n [c,x]) = q at hd
   obtain ⟨t,ok⟩ := q
   repeat' first
    | (exfalso; omega)
    | simp only [go_sem]
    | refine brK_dec (fun _ => ?_) (fun _ => ?_)
    | (refine PCall.call hd ?_)
    | exact finTy rfl rfl
 by_cases h17: e.kind = 17
 ·
  have hf: headP p n e (ofL p n e.subs) = (ty0,false) := by unfold headP; rw [if_neg h124,if_neg h3,if_neg h8,if_pos h17]
  rw [hf]
  repeat' first
   | (exfalso; omega)
   | simp only [go_sem]
   | refine brK_dec (fun _ => ?_) (fun _ => ?_)
   | exact finTy rfl rfl
 have hf0: allS (ofL p n e.subs) = none → headP p n e (ofL p n e.subs) = (ty0,false) := fun h => by
  unfold headP; rw [if_neg h124,if_neg h3,if_neg h8,if_neg h17,h]
 have hf1: ∀ ts,allS (ofL p n e.subs) = some ts → headP p n e (ofL p n e.subs) = if 9 ≤ e.kind ∧ e.kind ≤ 13 then flowT p n e ts else plainT e ts := fun ts h => by
  unfold headP; rw [if_neg h124,if_neg h3,if_neg h8,if_neg h17,h]
 have hsub := subsP p n e hsl ih'
 have hlen: ∀ ts,allS (ofL p n e.subs) = some ts → ts.length = e.subs.length := fun ts h => by rw [allS_len h,ofL_map,List.length_map]
 generalize headP p n e (ofL p n e.subs) = HH at hf0 hf1 ⊢
 generalize allS (ofL p n e.subs) = S at hsub hlen hf0 hf1
 cases S with
 | none =>
  rw [hf0 rfl]
  have hsub: PCall Tryz.prog 221 [plE p n,e.enc] (.tup [.lst 3 [] none,.b false]) := hsub
  repeat' first
   | (exfalso; omega)
   | simp only [go_sem]
   | refine brK_dec (fun _ => ?_) (fun _ => ?_)
   | (refine PCall.call hsub ?_)
   | exact finTy rfl rfl
 | some ts =>
  have hl := hlen ts rfl
  have hsub: PCall Tryz.prog 221 [plE p n,e.enc] (.tup [.lst 3 (ts.map DTy.enc) none,.b true]) := hsub
  rw [hf1 ts rfl]
  by_cases hfl: 9 ≤ e.kind ∧ e.kind ≤ 13
  ·
   rw [if_pos hfl]
   have hfp := flowP p n ho.1 e ts hfl
    (fun h => by
     have: 1 ≤ (subsE e).1 := by
      rcases (show e.kind = 9 ∨ e.kind = 10 ∨ e.kind = 11 ∨ e.kind = 12 by omega) with k | k | k | k
      ·
       simp [subsE,k]
      ·
       simp [subsE,k]
      ·
       simp [subsE,k]
      ·
       have := ha12 k; simp [subsE,k]; omega
     omega)
    (fun h => by have: (subsE e).1 = 2 := by simp [subsE,h]
                 omega) ha11 (ho.2 e.name)
    (fun h => ⟨hn13 h,by have: (subsE e).1 = e.n := by simp [subsE,h]
                         omega⟩)
   generalize flowT p n e ts = q at hfp
   obtain ⟨t,ok⟩ := q
   repeat' first
    | (exfalso; omega)
    | simp only [go_sem]
    | refine brK_dec (fun _ => ?_) (fun _ => ?_)
    | (refine PCall.call hsub ?_)
    | (refine PCall.call hfp ?_)
    | exact finTy rfl rfl
  ·
   rw [if_neg hfl]
   have hk2: e.kind = 5 ∨ e.kind = 6 ∨ e.kind = 7 ∨ e.kind = 14 ∨ e.kind = 15 ∨ e.kind = 16 := by omega
   have hpp := plainP p n e ts hk2
    (by
     have: 1 ≤ (subsE e).1 := by rcases hk2 with k | k | k | k | k | k <;> simp [subsE,k]
     omega)
    (fun h => by
     have: (subsE e).1 = 2 := by rcases h with k | k <;> simp [subsE,k]
     omega)
    (fun h => by
     have: (subsE e).1 = 3 := by rcases h with k | k <;> simp [subsE,k]
     omega)
   generalize plainT e ts = q at hpp
   obtain ⟨t,ok⟩ := q
   repeat' first
    | (exfalso; omega)
    | simp only [go_sem]
    | refine brK_dec (fun _ => ?_) (fun _ => ?_)
    | (refine PCall.call hsub ?_)
    | (refine PCall.call hpp ?_)
    | exact finTy rfl rfl
def normT (o: Option DTy): DTy × Bool := (o.getD ty0,o.isSome)
theorem normT_opt (q: DTy × Bool): normT (opt q) = if q.2 = true then q else (ty0,false) := by
 obtain ⟨t,ok⟩ := q
 cases ok <;> rfl
noncomputable def headX (p: DProg) (n: DNode) (e: Ex) (S: List (Option DTy)): DTy × Bool :=
 if e.kind = 8 then ((normT (S.getD 1 none)).1,(constT p.Enums (e.subs.headD e)).2.2 && decide (S.getD 1 none = some (constT p.Enums (e.subs.headD e)).2.1)) else headP p n e S
theorem opt_headX (p: DProg) (n: DNode) (e: Ex) (S: List (Option DTy)): opt (headX p n e S) = opt (headP p n e S) := by
 unfold headX
 by_cases h8: e.kind = 8
 ·
  rw [if_pos h8]
  unfold headP
  rw [if_neg (by omega),if_neg (by omega),if_pos h8]
  generalize constT p.Enums (e.subs.headD e) = c
  obtain ⟨l,t,ok⟩ := c
  by_cases h: S.getD 1 none = some t
  ·
   rw [h]; cases ok <;> simp [opt,normT]
  ·
   rw [decide_eq_false h]; cases ok <;> simp [opt]
 ·
  rw [if_neg h8]
abbrev OfXC (p: DProg) (j: Nat) (n: DNode) (x: Ex): Prop := PCall Tryz.prog 66 [p.enc,.i (j: Int),x.enc] (tyA (normT (ofT p n x)))
theorem subsX (p: DProg) (j: Nat) (n: DNode) (e: Ex) (hb: e.subs.length ≤ 200) (ih: ∀ x ∈ e.subs,OfXC p j n x): PCall Tryz.prog 145 [p.enc,.i (j: Int),e.enc] (subsA (allS (ofL p n e.subs))) := by
 refine pcall_of_vc tabOK Tryz.func145 (by kernel_rfl) rfl (pure_cons (DProg.pure _) (pure_cons (.raw _) (pure_cons (pure_enc e) pure_nil))) (pure_subsA _) (n := 38) rfl (rs := [.tmp 6,.tmp 7]) rfl ?_
 rw [ofL_map]
 simp only [go_sem]
 refine loop_fr [6,7,8,9,10,11,13,14,15,16,17,18,19,20,21,22,23,24,25,26,27,28,29,30,31,32,33,34,35,36] (fun m C hh => ∃ (i: Nat) (r: List Blk) (ts: List DTy),i ≤ e.subs.length ∧ m = e.subs.length - i ∧ allS ((e.subs.take i).map (ofT p n)) = some ts ∧ ts.length = i ∧ C = [(9,.raw (.int .i64 (i: Nat))),(8,.lst 3 (ts.map DTy.enc) (some 2))] ∧
  hh = .cells 25 [.lst 2 (p.Enums.map DEnum.enc) none,.lst 5 (p.Nodes.map DNode.enc) none] :: .cells 72 [.i e.kind,.i e.n,.s e.name,.i e.op,.lst 1 (e.arms.map AV.s) none,.lst 6 (e.subs.map Ex.enc) none] :: .tok 42 3 i :: r) e.subs.length _ ⟨0,[],[],by omega,by omega,rfl,rfl,rfl,rfl⟩ (.cons rfl (.cons rfl .nil)) ?_
 rintro m C ja hh ⟨i,r,ts,hi,rfl,hA,hl,rfl,rfl⟩
 simp only [go_sem]
 intro _
 refine brK_dec (fun hlt => ?_) (fun hge => ?_)
 ·
  simp only [go_sem]
  refine drawK mo (by kernel_rfl) ?_
  simp only [go_sem]
  refine elemMap (by omega) (by omega) (fun x hx => ?_)
  have hxm := List.mem_of_getElem? hx
  have hst := take_mapS (f := ofT p n) hx
  have hx' := ih x hxm
  unfold OfXC at hx'
  generalize hoT: ofT p n x = o at hst hx'
  cases o with
  | none =>
   have hx': PCall Tryz.prog 66 [p.enc,.i (j: Int),x.enc] (tyA (ty0,false)) := hx'
   simp only [go_sem]
   refine pcK_of hx' ?_
   simp only [go_sem]
   exact finS0 rfl (allS_none (List.mem_map.2 ⟨x,hxm,hoT⟩))
  | some t =>
   have hx': PCall Tryz.prog 66 [p.enc,.i (j: Int),x.enc] (tyA (t,true)) := hx'
   simp only [go_sem]
   refine pcK_of hx' ?_
   simp only [go_sem]
   refine ⟨by omega,?_⟩
   exact loopFr _ (by omega) ⟨i + 1,_,ts ++ [t],by omega,rfl,by rw [hst]; exact allS_snoc t hA,by simp [hl],rfl,by rw [hl]⟩ (.next rfl (by omega) (.cons (by simp [slot]) .nil)) rfl
 ·
  rw [List.take_of_length_le (by omega)] at hA
  simp only [go_sem]
  exact finSk rfl hA
theorem ofX (p: DProg) (j: Nat) (n: DNode) (hj: p.Nodes[j]? = some n) (ho: tyOK p n) (e: Ex) (hp: ∀ y ∈ parts e,partE y = true) (hok: okE e) (ih: ∀ x ∈ e.subs,OfXC p j n x): PCall Tryz.prog 107 [p.enc,.i (j: Int),e.enc] (tyA (headX p n e (ofL p n e.subs))) := by
 have hsl := subs_le hok
 obtain ⟨hk,hlo,hhi,ha11,ha12,hn13⟩ := part_facts (hp e (self_parts e))
 refine pcall_of_vc tabOK Tryz.func107 (by kernel_rfl) rfl (pure_cons (DProg.pure _) (pure_cons (.raw _) (pure_cons (pure_enc e) pure_nil))) (pure_tyA _) (n := 118) rfl (rs := [.cell 6 42,.tmp 7]) rfl ?_
 by_cases h8: e.kind = 8
 ·
  have hs2: (subsE e).1 = 2 ∧ (subsE e).2 = 2 := by simp [subsE,h8]
  match hs: e.subs,(show e.subs.length = 2 by omega) with
  | [c,x],_ =>
   have hf: headX p n e (ofL p n [c,x]) = ((normT (ofT p n x)).1,(constT p.Enums c).2.2 && decide (ofT p n x = some (constT p.Enums c).2.1)) := by
    unfold headX
    rw [if_pos h8,hs,ofL_map]
    rfl
   rw [hf]
   have e0: e.subs[0]? = some c := by rw [hs]; rfl
   have e1: e.subs[1]? = some x := by rw [hs]; rfl
   have hcX := constX p.Enums c (sub_okE hok (by rw [hs]; simp))
   generalize constT p.Enums c = q at hcX
   obtain ⟨l,t,ok⟩ := q
   have hx := ih x (by rw [hs]; simp)
   unfold OfXC at hx
   generalize ofT p n x = o at hx
   cases o with
   | none =>
    have hx: PCall Tryz.prog 66 [p.enc,.i (j: Int),x.enc] (tyA (ty0,false)) := hx
    repeat' first
     | (exfalso; omega)
     | simp only [go_sem]
     | refine brK_dec (fun _ => ?_) (fun _ => ?_)
     | refine drawC [2] mo (by kernel_rfl) ?_
     | refine elemHave (x := c) (by omega) e0 ?_
     | refine elemHave (x := x) (by omega) e1 ?_
     | (refine pcK_of hcX ?_)
     | (refine pcK_of hx ?_)
     | refine gqK_split (fun _ => ?_) (fun _ => ?_)
     | refine gqK_dec (fun _ => ?_) (fun _ => ?_)
     | (refine finTy rfl ?_; simp [normT,*]; done)
   | some u =>
    have hx: PCall Tryz.prog 66 [p.enc,.i (j: Int),x.enc] (tyA (u,true)) := hx
    repeat' first
     | (exfalso; omega)
     | simp only [go_sem]
     | refine brK_dec (fun _ => ?_) (fun _ => ?_)
     | refine drawC [2] mo (by kernel_rfl) ?_
     | refine elemHave (x := c) (by omega) e0 ?_
     | refine elemHave (x := x) (by omega) e1 ?_
     | (refine pcK_of hcX ?_)
     | (refine pcK_of hx ?_)
     | refine gqK_split (fun _ => ?_) (fun _ => ?_)
     | refine gqK_dec (fun _ => ?_) (fun _ => ?_)
     | (refine finTy rfl ?_; simp [normT,*]; done)
     | (refine finTy rfl ?_; simp [normT,*]; exact eq_comm)
 have hhx: headX p n e (ofL p n e.subs) = headP p n e (ofL p n e.subs) := by unfold headX; rw [if_neg h8]
 rw [hhx]
 by_cases h124: e.kind = 1 ∨ e.kind = 2 ∨ e.kind = 4
 ·
  have hf: headP p n e (ofL p n e.subs) = ((constT p.Enums e).2.1,(constT p.Enums e).2.2) := by unfold headP; rw [if_pos h124]
  rw [hf]
  have hc := constX p.Enums e hok
  generalize constT p.Enums e = q at hc
  obtain ⟨l,t,ok⟩ := q
  repeat' first
   | (exfalso; omega)
   | simp only [go_sem]
   | refine brK_dec (fun _ => ?_) (fun _ => ?_)
   | (refine PCall.call hc ?_)
   | exact finTy rfl rfl
 by_cases h3: e.kind = 3
 ·
  have hf: headP p n e (ofL p n e.subs) = ((decl n e.name).1.Ty,(decl n e.name).2) := by unfold headP; rw [if_neg h124,if_pos h3]
  rw [hf]
  have hc := decl26 n e.name (by have := ho.1; omega)
  generalize decl n e.name = q at hc
  obtain ⟨d,ok⟩ := q
  repeat' first
   | (exfalso; omega)
   | simp only [go_sem]
   | refine brK_dec (fun _ => ?_) (fun _ => ?_)
   | refine drawC [2] mo (by kernel_rfl) ?_
   | refine elemHave (x := n) (by omega) hj ?_
   | (refine pcK_of hc ?_)
   | exact finTy rfl rfl
 by_cases h17: e.kind = 17
 ·
  have hf: headP p n e (ofL p n e.subs) = (ty0,false) := by unfold headP; rw [if_neg h124,if_neg h3,if_neg h8,if_pos h17]
  rw [hf]
  repeat' first
   | (exfalso; omega)
   | simp only [go_sem]
   | refine brK_dec (fun _ => ?_) (fun _ => ?_)
   | exact finTy rfl rfl
 have hf0: allS (ofL p n e.subs) = none → headP p n e (ofL p n e.subs) = (ty0,false) := fun h => by
  unfold headP; rw [if_neg h124,if_neg h3,if_neg h8,if_neg h17,h]
 have hf1: ∀ ts,allS (ofL p n e.subs) = some ts → headP p n e (ofL p n e.subs) = if 9 ≤ e.kind ∧ e.kind ≤ 13 then flowT p n e ts else plainT e ts := fun ts h => by
  unfold headP; rw [if_neg h124,if_neg h3,if_neg h8,if_neg h17,h]
 have hsub := subsX p j n e hsl ih
 have hlen: ∀ ts,allS (ofL p n e.subs) = some ts → ts.length = e.subs.length := fun ts h => by rw [allS_len h,ofL_map,List.length_map]
 clear hhx
 generalize headP p n e (ofL p n e.subs) = HH at hf0 hf1 ⊢
 generalize allS (ofL p n e.subs) = S at hsub hlen hf0 hf1
 cases S with
 | none =>
  rw [hf0 rfl]
  have hsub: PCall Tryz.prog 145 [p.enc,.i (j: Int),e.enc] (.tup [.lst 3 [] none,.b false]) := hsub
  repeat' first
   | (exfalso; omega)
   | simp only [go_sem]
   | refine brK_dec (fun _ => ?_) (fun _ => ?_)
   | (refine PCall.call hsub ?_)
   | exact finTy rfl rfl
 | some ts =>
  have hl := hlen ts rfl
  have hsub: PCall Tryz.prog 145 [p.enc,.i (j: Int),e.enc] (.tup [.lst 3 (ts.map DTy.enc) none,.b true]) := hsub
  rw [hf1 ts rfl]
  by_cases hfl: 9 ≤ e.kind ∧ e.kind ≤ 13
  ·
   rw [if_pos hfl]
   have hfp := flowX p j n hj ho.1 e ts (by omega) hfl
    (fun h => by
     have: 1 ≤ (subsE e).1 := by
      rcases (show e.kind = 9 ∨ e.kind = 10 ∨ e.kind = 11 ∨ e.kind = 12 by omega) with k | k | k | k
      ·
       simp [subsE,k]
      ·
       simp [subsE,k]
      ·
       simp [subsE,k]
      ·
       have := ha12 k; simp [subsE,k]; omega
     omega)
    (fun h => by have: (subsE e).1 = 2 := by simp [subsE,h]
                 omega) ha11 (ho.2 e.name)
    (fun h => ⟨hn13 h,by have: (subsE e).1 = e.n := by simp [subsE,h]
                         omega⟩)
   generalize flowT p n e ts = q at hfp
   obtain ⟨t,ok⟩ := q
   repeat' first
    | (exfalso; omega)
    | simp only [go_sem]
    | refine brK_dec (fun _ => ?_) (fun _ => ?_)
    | refine gK_dec (fun _ => ?_) (fun _ => ?_)
    | (refine PCall.call hsub ?_)
    | (refine PCall.call hfp ?_)
    | exact finTy rfl rfl
  ·
   rw [if_neg hfl]
   have hk2: e.kind = 5 ∨ e.kind = 6 ∨ e.kind = 7 ∨ e.kind = 14 ∨ e.kind = 15 ∨ e.kind = 16 := by omega
   have hpp := plainX p n e ts hk2
    (by
     have: 1 ≤ (subsE e).1 := by rcases hk2 with k | k | k | k | k | k <;> simp [subsE,k]
     omega)
    (fun h => by
     have: (subsE e).1 = 2 := by rcases h with k | k <;> simp [subsE,k]
     omega)
    (fun h => by
     have: (subsE e).1 = 3 := by rcases h with k | k <;> simp [subsE,k]
     omega)
   generalize plainT e ts = q at hpp
   obtain ⟨t,ok⟩ := q
   repeat' first
    | (exfalso; omega)
    | simp only [go_sem]
    | refine brK_dec (fun _ => ?_) (fun _ => ?_)
    | refine gK_dec (fun _ => ?_) (fun _ => ?_)
    | (refine PCall.call hsub ?_)
    | (refine PCall.call hpp ?_)
    | exact finTy rfl rfl
theorem OfXj (p: DProg) (j: Nat) (n: DNode) (hj: p.Nodes[j]? = some n) (ho: tyOK p n): ∀ (e: Ex),(∀ y ∈ parts e,partE y = true) → okE e → OfXC p j n e := by
 intro e
 induction e using Ex.ind with
 | _ e ih =>
 intro hp hok
 have hjl: j < p.Nodes.length := (List.getElem?_eq_some_iff.1 hj).1
 have hof := ofX p j n hj ho e hp hok (fun x hx => ih x hx (sub_ok hp hx) (sub_okE hok hx))
 unfold OfXC
 rw [ofT_eq,← opt_headX,normT_opt]
 refine pcall_of_vc tabOK Tryz.func66 (by kernel_rfl) rfl (pure_cons (DProg.pure _) (pure_cons (.raw _) (pure_cons (pure_enc e) pure_nil))) (pure_tyA _) (n := 31) rfl (rs := [.cell 6 42,.tmp 7]) rfl ?_
 generalize headX p n e (ofL p n e.subs) = q at hof
 obtain ⟨t,ok⟩ := q
 cases ok
 all_goals
  repeat' first
   | (exfalso; omega)
   | simp only [go_sem]
   | (intro _)
   | refine brK_dec (fun _ => ?_) (fun _ => ?_)
   | refine gK_dec (fun _ => ?_) (fun _ => ?_)
   | (refine PCall.call hof ?_)
   | exact finTy rfl rfl
theorem check_nodes {p: DProg} (h: checkF p = 0): p.Nodes.all (nodeF p.Enums.length) = true := by
 unfold checkF at h
 split at h
 ·
  rename_i h0; exact absurd h h0
 ·
  split at h
  ·
   omega
  ·
   split at h
   ·
    omega
   ·
    split at h
    ·
     assumption
    ·
     omega
theorem declF_mem (nm: ByteArray): ∀ l: List DDecl,(declF nm l).1 ∈ l ∨ (declF nm l).1 = zeroD
 | [] => .inr rfl
 | d :: l => by
  rw [declF]
  split
  ·
   exact .inl List.mem_cons_self
  ·
   rcases declF_mem nm l with h | h
   ·
    exact .inl (List.mem_cons_of_mem _ h)
   ·
    exact .inr h
theorem tyOK_of {p: DProg} (hp: okProg p) (h: checkF p = 0): ∀ n ∈ p.Nodes,tyOK p n := by
 intro n hn
 have h0 := hp.2.2 n hn
 have h1 := h0.1.1
 have h2 := h0.2.1.1
 have h3 := h0.2.2.1.1
 refine ⟨by simp [allV]; omega,fun nm hk => ?_⟩
 have hnf := List.all_eq_true.1 (check_nodes h) n hn
 unfold nodeF at hnf
 simp only [Bool.and_eq_true] at hnf
 rcases declF_mem nm (allV n) with hm | hm
 ·
  have hd := List.all_eq_true.1 hnf.1.1.1 _ hm
  unfold declaredF at hd
  simp only [Bool.and_eq_true] at hd
  have hr := hd.1.2
  unfold rightTyF at hr
  have hr := of_decide_eq_true hr
  have hk': (declF nm (allV n)).1.Ty.Kind = 3 := hk
  show 0 ≤ (declF nm (allV n)).1.Ty.Enum ∧ (declF nm (allV n)).1.Ty.Enum < p.Enums.length
  omega
 ·
  have hk': (declF nm (allV n)).1.Ty.Kind = 3 := hk
  rw [hm] at hk'
  cases hk'
def ofN0 (o: Option (DTy × Bool)): DTy × Bool := o.getD (ty0,false)
noncomputable def ofN (p: DProg) (k: Int) (e: Ex): DTy × Bool := if k < 0 then (ty0,false) else ofN0 (p.Nodes[k.toNat]?.map fun n => normT (ofT p n e))
theorem OfPk (p: DProg) (k: Int) (e: Ex) (hty: ∀ n ∈ p.Nodes,tyOK p n) (hp: ∀ y ∈ parts e,partE y = true) (hok: okE e): PCall Tryz.prog 138 [p.enc,.i k,e.enc] (tyA (ofN p k e)) := by
 refine pcall_of_vc tabOK Tryz.func138 (by kernel_rfl) rfl (pure_cons (DProg.pure _) (pure_cons (.raw _) (pure_cons (pure_enc e) pure_nil))) (pure_tyA _) (n := 36) rfl (rs := [.cell 6 42,.tmp 7]) rfl ?_
 by_cases hk: k < 0
 ·
  have hf: ofN p k e = (ty0,false) := by unfold ofN; rw [if_pos hk]
  rw [hf]
  repeat' first
   | (exfalso; omega)
   | simp only [go_sem]
   | (intro _)
   | refine brK_dec (fun _ => ?_) (fun _ => ?_)
   | refine gK_dec (fun _ => ?_) (fun _ => ?_)
   | exact finTy rfl rfl
 ·
  cases hn: p.Nodes[k.toNat]? with
  | none =>
   have hl: p.Nodes.length ≤ k.toNat := List.getElem?_eq_none_iff.1 hn
   have hf: ofN p k e = (ty0,false) := by unfold ofN; rw [if_neg hk,hn]; rfl
   rw [hf]
   repeat' first
    | (exfalso; omega)
    | simp only [go_sem]
    | (intro _)
    | refine brK_dec (fun _ => ?_) (fun _ => ?_)
    | refine gK_dec (fun _ => ?_) (fun _ => ?_)
    | exact finTy rfl rfl
  | some n =>
   have hl: k.toNat < p.Nodes.length := (List.getElem?_eq_some_iff.1 hn).1
   have hf: ofN p k e = normT (ofT p n e) := by unfold ofN; rw [if_neg hk,hn]; rfl
   have hof := ofP p n (hty n (List.mem_of_getElem? hn)) e hp hok
   unfold OfC at hof
   rw [hf,ofT_eq,normT_opt]
   generalize headP p n e (ofL p n e.subs) = q at hof
   obtain ⟨t,ok⟩ := q
   cases ok
   all_goals
    repeat' first
     | (exfalso; omega)
     | simp only [go_sem]
     | (intro _)
     | refine brK_dec (fun _ => ?_) (fun _ => ?_)
     | refine gK_dec (fun _ => ?_) (fun _ => ?_)
     | refine drawK mo (by kernel_rfl) ?_
     | refine elemHave (x := n) (by omega) hn ?_
     | (refine pcK_of hof ?_)
     | exact finTy rfl rfl
theorem OfXk (p: DProg) (k: Int) (e: Ex) (hty: ∀ n ∈ p.Nodes,tyOK p n) (hp: ∀ y ∈ parts e,partE y = true) (hok: okE e): PCall Tryz.prog 66 [p.enc,.i k,e.enc] (tyA (ofN p k e)) := by
 by_cases hk: k < 0
 ·
  refine pcall_of_vc tabOK Tryz.func66 (by kernel_rfl) rfl (pure_cons (DProg.pure _) (pure_cons (.raw _) (pure_cons (pure_enc e) pure_nil))) (pure_tyA _) (n := 31) rfl (rs := [.cell 6 42,.tmp 7]) rfl ?_
  have hf: ofN p k e = (ty0,false) := by unfold ofN; rw [if_pos hk]
  rw [hf]
  repeat' first
   | (exfalso; omega)
   | simp only [go_sem]
   | (intro _)
   | refine brK_dec (fun _ => ?_) (fun _ => ?_)
   | refine gK_dec (fun _ => ?_) (fun _ => ?_)
   | exact finTy rfl rfl
 ·
  cases hn: p.Nodes[k.toNat]? with
  | none =>
   refine pcall_of_vc tabOK Tryz.func66 (by kernel_rfl) rfl (pure_cons (DProg.pure _) (pure_cons (.raw _) (pure_cons (pure_enc e) pure_nil))) (pure_tyA _) (n := 31) rfl (rs := [.cell 6 42,.tmp 7]) rfl ?_
   have hl: p.Nodes.length ≤ k.toNat := List.getElem?_eq_none_iff.1 hn
   have hf: ofN p k e = (ty0,false) := by unfold ofN; rw [if_neg hk,hn]; rfl
   rw [hf]
   repeat' first
    | (exfalso; omega)
    | simp only [go_sem]
    | (intro _)
    | refine brK_dec (fun _ => ?_) (fun _ => ?_)
    | refine gK_dec (fun _ => ?_) (fun _ => ?_)
    | exact finTy rfl rfl
  | some n =>
   have hf: ofN p k e = normT (ofT p n e) := by unfold ofN; rw [if_neg hk,hn]; rfl
   have h := OfXj p k.toNat n hn (hty n (List.mem_of_getElem? hn)) e hp hok
   unfold OfXC at h
   rw [hf,show k = ((k.toNat: Nat): Int) by omega]
   exact h
theorem right_parts {e: Ex} (h: rightE e = true): ∀ y ∈ parts e,partE y = true := by
 unfold rightE at h
 simp only [Bool.and_eq_true] at h
 exact fun y hy => List.all_eq_true.1 h.2 y hy
def firstF (f: Nat → DNode → DFault): Nat → List DNode → DFault
 | _,[] => ⟨0,0,0⟩
 | i,n :: r => if (f i n).Err = 0 then firstF f (i + 1) r else f i n
def firstE (a err: Int) (f: Nat → DEq → Bool): Nat → List DEq → DFault
 | _,[] => ⟨0,0,0⟩
 | k,q :: r => if f k q = true then firstE a err f (k + 1) r else ⟨a,(k: Int),err⟩
theorem first_next {f: Nat → DNode → DFault} {l: List DNode} {i: Nat} {n: DNode} {E: DFault} (hE: firstF f i (l.drop i) = E) (hx: l[i]? = some n) (h: (f i n).Err = 0): firstF f (i + 1) (l.drop (i + 1)) = E := by
 obtain ⟨hi,rfl⟩ := List.getElem?_eq_some_iff.1 hx
 rw [List.drop_eq_getElem_cons hi,firstF,if_pos h] at hE
 exact hE
theorem first_at {f: Nat → DNode → DFault} {l: List DNode} {i: Nat} {n: DNode} {E: DFault} (hE: firstF f i (l.drop i) = E) (hx: l[i]? = some n) (h: ¬ (f i n).Err = 0): E = f i n := by
 obtain ⟨hi,rfl⟩ := List.getElem?_eq_some_iff.1 hx
 rw [List.drop_eq_getElem_cons hi,firstF,if_neg h] at hE
 exact hE.symm
theorem first_0 {f: Nat → DNode → DFault} {l: List DNode} {i: Nat} {E: DFault} (hE: firstF f i (l.drop i) = E) (hi: l.length ≤ i): E = ⟨0,0,0⟩ := by
 rw [List.drop_of_length_le hi,firstF] at hE
 exact hE.symm
theorem firstE_next {a err: Int} {f: Nat → DEq → Bool} {l: List DEq} {i: Nat} {q: DEq} {E: DFault} (hE: firstE a err f i (l.drop i) = E) (hx: l[i]? = some q) (h: f i q = true): firstE a err f (i + 1) (l.drop (i + 1)) = E := by
 obtain ⟨hi,rfl⟩ := List.getElem?_eq_some_iff.1 hx
 rw [List.drop_eq_getElem_cons hi,firstE,if_pos h] at hE
 exact hE
theorem firstE_at {a err: Int} {f: Nat → DEq → Bool} {l: List DEq} {i: Nat} {q: DEq} {E: DFault} (hE: firstE a err f i (l.drop i) = E) (hx: l[i]? = some q) (h: f i q = false): E = ⟨a,(i: Int),err⟩ := by
 obtain ⟨hi,rfl⟩ := List.getElem?_eq_some_iff.1 hx
 rw [List.drop_eq_getElem_cons hi,firstE,if_neg (by rw [h]; simp)] at hE
 exact hE.symm
theorem firstE_0 {a err: Int} {f: Nat → DEq → Bool} {l: List DEq} {i: Nat} {E: DFault} (hE: firstE a err f i (l.drop i) = E) (hi: l.length ≤ i): E = ⟨0,0,0⟩ := by
 rw [List.drop_of_length_le hi,firstE] at hE
 exact hE.symm
theorem firstE_zero {a err: Int} {f: Nat → DEq → Bool} (he: ¬ err = 0): ∀ {l: List DEq} {i: Nat},(firstE a err f i l).Err = 0 → firstE a err f i l = ⟨0,0,0⟩ ∧ ∀ (k: Nat) q,l[k]? = some q → f (i + k) q = true
 | [],i,_ => ⟨rfl,fun k q h => by simp at h⟩
 | q :: r,i,h => by
  rw [firstE] at h ⊢
  split at h
  ·
   rename_i hq
   obtain ⟨h1,h2⟩ := firstE_zero he h
   refine ⟨by rw [if_pos hq]; exact h1,fun k x hk => ?_⟩
   match k with
   | 0 => simp at hk; subst hk; exact hq
   | k + 1 => have := h2 k x (by simpa using hk); rw [show i + (k + 1) = i + 1 + k by omega]; exact this
  ·
   exact absurd h he
theorem firstF_zero {f: Nat → DNode → DFault}: ∀ {l: List DNode} {i: Nat},(firstF f i l).Err = 0 → firstF f i l = ⟨0,0,0⟩ ∧ ∀ (k: Nat) n,l[k]? = some n → (f (i + k) n).Err = 0
 | [],i,_ => ⟨rfl,fun k q h => by simp at h⟩
 | n :: r,i,h => by
  rw [firstF] at h ⊢
  split at h
  ·
   rename_i hq
   obtain ⟨h1,h2⟩ := firstF_zero h
   refine ⟨by rw [if_pos hq]; exact h1,fun k x hk => ?_⟩
   match k with
   | 0 => simp at hk; subst hk; exact hq
   | k + 1 => have := h2 k x (by simpa using hk); rw [show i + (k + 1) = i + 1 + k by omega]; exact this
  ·
   rename_i hq; exact absurd h hq
end Go.Proofs.YtpamokpmlplopaaGreatDoor
namespace Go.Proofs.YtpamokpmlplopaaGreatDoor
open Go.Abs
set_option maxRecDepth 20000
set_option linter.unusedSimpArgs false
set_option linter.unusedVariables false
set_option maxHeartbeats 1000000
attribute [local irreducible] vc vcOps vcStep vcGuard prK hrK gK gsK brK callK ElemK SeqK BlockK ScopeK OpsK CallK LoopK LoopGo finPost ACall PCall PCallE BCall vqOps vqStep vqGuard qrK heK pcK gqK gqsK QOpsK qcallK DrawK
abbrev HS (A: List Blk) (p: DProg) (at_: Int) (c: Nat) (f: Value → Option AV) (r: List Blk): List Blk := A ++ .mp .str c f :: .cells 268 [.lst 2 (p.Enums.map DEnum.enc) none,.lst 5 (p.Nodes.map DNode.enc) none,.i at_,.map A.length] :: r
theorem finKb {T: TypeId → TI} {s: List AV} {h: List Blk} {rs: List ResultVar} {K: AV → List Blk → Prop} {b c: Bool} (hl: resAV T s h rs = some [.b b]) (e: c = b) (hK: K (.b c) h): FinK T rs K s h := by
 subst e
 exact finK hl hK
theorem HS_app {A r r': List Blk} {p: DProg} {at_: Int} {c: Nat} {f: Value → Option AV}: HS A p at_ c f (r ++ r') = HS A p at_ c f r ++ r' := by simp
section
variable {A r: List Blk} {p: DProg} {at_: Int} {c: Nat} {f: Value → Option AV} {n: DNode} {D: List ByteArray} {K: AV → List Blk → Prop}
theorem is138 (hM: MapN f (knF n D)) (s: ByteArray) (hK: ∀ r',K (.b (isF n s)) (HS A p at_ c f (r ++ r'))): ACall Tryz.prog 290 [.ptr (A.length + 1) 0,.s s] (HS A p at_ c f r) K := by
 have hMx := hM s
 have his := kn_is n D s
 have hk := hK []
 rw [List.append_nil] at hk
 rw [← his] at hk
 refine acallK_of_vc tabOK Tryz.func290 (by kernel_rfl) rfl (n := 12) rfl (rs := [.tmp 4]) rfl ?_
 simp only [go_sem,hMx]
 refine finK (r := .b (decide (0 < knF n D s))) ?_ hk
 have e: decide (((knF n D s: Nat): Int) > 0) = decide (0 < knF n D s) := decide_eq_decide.2 (by omega)
 rw [e]
 rfl
theorem arm139 (s: ByteArray) (hK: ∀ r',K (.b (armOk p.Enums s)) (HS A p at_ c f (r ++ r'))): ACall Tryz.prog 291 [.ptr (A.length + 1) 0,.s s] (HS A p at_ c f r) K := by
 refine acallK_of_vc tabOK Tryz.func291 (by kernel_rfl) rfl (n := 20) rfl (rs := [.tmp 4]) rfl ?_
 simp only [go_sem]
 refine PCall.call (arm146 p.Enums s) ?_
 unfold armOk at hK
 generalize armF p.Enums s = q at hK
 obtain ⟨t,v,ok⟩ := q
 simp only [go_sem]
 refine finK (r := .b ok) rfl ?_
 have hk := hK [.cells 42 [.i t.Kind,.i t.Enum,.i t.Len]]
 simpa using hk
theorem define140 (hM: MapN f (knF n D)) (s: ByteArray) (h5: isF n s = false → ∀ r',K (.i 5) (HS A p at_ c f (r ++ r'))) (h6: isF n s = true → (inF n s = true ∨ s ∈ D) → ∀ r',K (.i 6) (HS A p at_ c f (r ++ r')))
  (h0: isF n s = true → inF n s = false → s ∉ D → ∀ c' f' r',MapN f' (knF n (D ++ [s])) → K (.i 0) (HS A p at_ c' f' (r ++ r'))): ACall Tryz.prog 292 [.ptr (A.length + 1) 0,.s s] (HS A p at_ c f r) K := by
 have hMx := hM s
 refine acallK_of_vc tabOK Tryz.func292 (by kernel_rfl) rfl (n := 21) rfl (rs := [.tmp 4]) rfl ?_
 simp only [go_sem]
 refine is138 hM s (fun r1 => ?_)
 cases hi: isF n s with
 | false =>
  simp only [go_sem]
  exact finK (r := .i 5) rfl (h5 hi r1)
 | true =>
  simp only [go_sem,hMx]
  have hfr := kn_free (D := D) hi
  refine brK_dec (fun hq => ?_) (fun hq => ?_)
  ·
   simp only [go_sem]
   refine finK (r := .i 6) rfl (h6 hi ?_ r1)
   by_cases hz: inF n s = true ∨ s ∈ D
   ·
    exact hz
   ·
    exact absurd (by have := hfr.2 hz; omega) hq
  ·
   have hz: knF n D s = 2 := by omega
   have hnz := hfr.1 hz
   obtain ⟨k1,k2⟩ := kn_put hz
   simp only [go_sem]
   refine finK (r := .i 0) rfl (h0 hi (by cases hh: inF n s; rfl; exact absurd (.inl hh) hnz) (fun hm => hnz (.inr hm)) _ _ r1 ?_)
   exact hM.put s 3 (knF n (D ++ [s])) k1 k2
theorem clocked88 (hM: MapN f (knF n D)) (d: DDecl) (hK: ∀ r',K (.b (clockedF p.Enums n d)) (HS A p at_ c f (r ++ r'))): ACall Tryz.prog 245 [.ptr (A.length + 1) 0,d.enc] (HS A p at_ c f r) K := by
 unfold clockedF at hK
 refine acallK_of_vc tabOK Tryz.func245 (by kernel_rfl) rfl (n := 20) rfl (rs := [.tmp 4]) rfl ?_
 repeat' first
  | simp only [go_sem]
  | refine gK_dec (fun _ => ?_) (fun _ => ?_)
  | refine gK_split (fun _ => ?_) (fun _ => ?_)
  | ((fail_if_success (clear hi)); refine is138 hM d.On (fun r1 => ?_); generalize hi: isF n d.On = i at hK ⊢; cases i)
  | (refine arm139 d.Ctor (fun r2 => ?_); generalize armOk p.Enums d.Ctor = i at hK ⊢; cases i)
  | exact finKb rfl (by simp [*]) (hK _)
theorem node87 {j: Nat} (hj: p.Nodes[j]? = some n) (hK: ∀ r',K n.enc (HS A p (j: Int) c f (r ++ r'))): ACall Tryz.prog 244 [.ptr (A.length + 1) 0] (HS A p (j: Int) c f r) K := by
 refine acallK_of_vc tabOK Tryz.func244 (by kernel_rfl) rfl (n := 14) rfl (rs := [.cell 2 68]) rfl ?_
 simp only [go_sem]
 refine drawZ mo (by kernel_rfl) rfl ?_
 simp only [List.dropLast_cons_cons,List.dropLast_singleton,List.getLast_cons_cons,List.getLast_singleton]
 repeat' first
  | simp only [go_sem]
  | refine elemHave (by omega) hj ?_
 refine ⟨[n.enc],?_,n.enc,.refl _,hK _⟩
 rw [DNode.enc_eq]
 simp only [go_sem]
theorem leads178 (s: ByteArray) {h: List Blk} {k: Nat} (hk: h[k]? = some (.cells 234 [.ptr (A.length + 1) 0])) (hh: ∃ r,h = HS A p at_ c f r) (hK: K (.b (!(armOk p.Enums s))) h): ACall Tryz.prog 318 [.s s,.ptr k 0] h K := by
 obtain ⟨r,rfl⟩ := hh
 refine acall_of_vc tabOK Tryz.func318 (by kernel_rfl) rfl (n := 8) rfl (rs := [.tmp 3]) rfl ?_
 simp only [go_sem,hk]
 refine arm139 s (fun r' => ?_)
 simp only [go_sem]
 rw [HS_app]
 exact finH0 r' rfl (.raw _) hK
theorem leads141 (hM: MapN f (knF n D)) (e: Ex) (hK: ∀ r',K (.b (leadsF p at_ n e)) (HS A p at_ c f (r ++ r'))): ACall Tryz.prog 293 [.ptr (A.length + 1) 0,e.enc] (HS A p at_ c f r) K := by
 have hall: e.arms.all (armOk p.Enums) = !(e.arms.any fun s => !(armOk p.Enums s)) := List.all_eq_not_any_not
 unfold leadsF at hK
 rw [hall] at hK
 refine acallK_of_vc tabOK Tryz.func293 (by kernel_rfl) rfl (n := 47) rfl (rs := [.tmp 4]) rfl ?_
 simp only [go_sem]
 refine containsStrR (p := fun s => !(armOk p.Enums s)) (fun s hs K hK => leads178 s (by simp only [go_sem]) ⟨_,rfl⟩ hK) ?_
 generalize (e.arms.any fun s => !(armOk p.Enums s)) = b at hK ⊢
 cases b
 all_goals
  repeat' first
   | (exfalso; omega)
   | simp only [go_sem]
   | refine brK_dec (fun _ => ?_) (fun _ => ?_)
   | refine gK_dec (fun _ => ?_) (fun _ => ?_)
   | (refine is138 hM e.name (fun r1 => ?_))
   | (refine arm139 e.name (fun r1 => ?_))
   | (refine drawZ mo (by kernel_rfl) rfl ?_; simp only [List.dropLast_cons_cons,List.dropLast_singleton,List.getLast_cons_cons,List.getLast_singleton])
   | (refine pcK_of (find23 p e.name) ?_)
   | exact finKb rfl (by simp [*]) (hK _)
end
end Go.Proofs.YtpamokpmlplopaaGreatDoor
namespace Go.Proofs.YtpamokpmlplopaaGreatDoor
open Go.Abs
set_option maxRecDepth 20000
set_option linter.unusedSimpArgs false
set_option linter.unusedVariables false
set_option maxHeartbeats 1000000
attribute [local irreducible] vc vcOps vcStep vcGuard prK hrK gK gsK brK callK ElemK SeqK BlockK ScopeK OpsK CallK LoopK LoopGo finPost ACall PCall PCallE BCall vqOps vqStep vqGuard qrK heK pcK gqK gqsK QOpsK qcallK DrawK
theorem eqErr_names {p: DProg} {a: Int} {n: DNode} {D: List ByteArray} {q: DEq} {E: Int} (h: namesErr n D q.Names = E) (hE: ¬ E = 0): eqErr p a n D q = E := by
 subst h
 unfold eqErr
 rw [if_neg hE]
theorem eqErr_parts {p: DProg} {a: Int} {n: DNode} {D: List ByteArray} {q: DEq} (h: namesErr n D q.Names = 0): eqErr p a n D q = if (parts q.E).all (leadsF p a n) = true then 0 else 5 := by
 unfold eqErr
 rw [if_pos h]
theorem snoc6 {α: Type} (A r r': List α) (a b c d e w z: α): A ++ a :: b :: (r ++ c :: d :: e :: (r' ++ [w,z])) = (A ++ a :: b :: (r ++ c :: d :: e :: (r' ++ [w]))) ++ [z] := by simp
section
variable {A r: List Blk} {p: DProg} {at_: Int} {c: Nat} {f: Value → Option AV} {n: DNode} {D: List ByteArray} {K: AV → List Blk → Prop}
theorem eq89 (hM: MapN f (knF n D)) (q: DEq) (hq: okEq q) (hK: ∀ c' f' r',(eqErr p at_ n D q = 0 → MapN f' (knF n (D ++ q.Names))) → K (.i (eqErr p at_ n D q)) (HS A p at_ c' f' (r ++ r'))) :
  ACall Tryz.prog 246 [.ptr (A.length + 1) 0,q.enc] (HS A p at_ c f r) K := by
 refine acallK_of_vc tabOK Tryz.func246 (by kernel_rfl) rfl (n := 31) rfl (rs := [.cell 4 59]) rfl ?_
 simp only [go_sem]
 intro _
 generalize hE: namesErr n D q.Names = E
 refine loop_fr [6,7,12,13,14,15,16,17,18,19,20,21,22] (fun m C hh => ∃ (i c': Nat) (f': Value → Option AV) (r': List Blk),i ≤ q.Names.length ∧ m = q.Names.length - i ∧ MapN f' (knF n (D ++ q.Names.take i)) ∧ namesErr n (D ++ q.Names.take i) (q.Names.drop i) = E ∧ C = [(12,.raw (.int .i64 (i: Nat)))] ∧
  hh = HS A p at_ c' f' (r ++ .cells 234 [.ptr (A.length + 1) 0] :: .cells 74 [.lst 1 (q.Names.map AV.s) none,.i q.E.kind,.i q.E.n,.s q.E.name,.i q.E.op,.lst 1 (q.E.arms.map AV.s) none,.lst 6 (q.E.subs.map Ex.enc) none] :: .cells 59 [.i 0] :: r')) q.Names.length _ ⟨0,c,f,[],by omega,by omega,by simpa using hM,by simpa using hE,rfl,rfl⟩ (.cons rfl .nil) ?_
 rintro m C j hh ⟨i,c',f',r',hi,rfl,hM',hE',rfl,rfl⟩
 simp only [go_sem]
 refine brK_dec (fun hlt => ?_) (fun hge => ?_)
 ·
  simp only [go_sem]
  refine elemMap (by omega) (by omega) (fun x hx => ?_)
  simp only [go_sem]
  refine define140 hM' x (fun h5 r1 => ?_) (fun h6 h7 r1 => ?_) (fun h1 h2 h3 c1 f1 r1 hM1 => ?_)
  ·
   have e5 := names_5 hE' hx h5
   have ee: eqErr p at_ n D q = 5 := by rw [eqErr_names hE (by omega),e5]
   rw [ee] at hK
   simp only [go_sem]
   refine ⟨[.i 5],by simp only [go_sem],.i 5,.refl _,hK _ _ _ (fun h => by omega)⟩
  ·
   have e6 := names_6 hE' hx h6 h7
   have ee: eqErr p at_ n D q = 6 := by rw [eqErr_names hE (by omega),e6]
   rw [ee] at hK
   simp only [go_sem]
   refine ⟨[.i 6],by simp only [go_sem],.i 6,.refl _,hK _ _ _ (fun h => by omega)⟩
  ·
   have hE1 := names_next hE' hx h1 h2 h3
   have hst: D ++ q.Names.take (i + 1) = D ++ q.Names.take i ++ [x] := by
    rw [Int.toNat_natCast] at hx
    obtain ⟨hi,rfl⟩ := List.getElem?_eq_some_iff.1 hx
    rw [List.take_succ_eq_append_getElem hi,List.append_assoc]
   simp only [go_sem]
   exact loopFr _ (by omega) ⟨i + 1,c1,f1,_,by omega,rfl,by rw [hst]; exact hM1,hE1,rfl,rfl⟩ (.next rfl (by omega) .nil) rfl
 ·
  simp only [go_sem]
  have e0 := names_0 hE' (by omega)
  rw [List.take_of_length_le (by omega)] at hM'
  rw [e0] at hE
  rw [eqErr_parts hE] at hK
  refine each28 q.E ?_
  simp only [go_sem]
  intro l
  rw [snoc6]
  refine each_range q.E (A.length + (r.length + (r'.length + 1 + 1 + 1 + 1) + 1 + 1)) (A.length + (r.length + (r'.length + 1 + 1 + 1) + 1 + 1)) 0 (fun k => ∀ y ∈ (parts q.E).take k,leadsF p at_ n y = true) (fun _ => A ++ .mp .str c' f' :: .cells 268 [.lst 2 (p.Enums.map DEnum.enc) none,.lst 5 (p.Nodes.map DNode.enc) none,.i at_,.map A.length] :: (r ++ .cells 234 [.ptr (A.length + 1) 0] :: .cells 74 [.lst 1 (q.Names.map AV.s) none,.i q.E.kind,.i q.E.n,.s q.E.name,.i q.E.op,.lst 1 (q.E.arms.map AV.s) none,.lst 6 (q.E.subs.map Ex.enc) none] :: .cells 59 [.i 0] :: (r' ++ [exBx q.E]))) (fun _ => [])
   (fun h => (parts q.E).all (leadsF p at_ n) = false ∧ h = A ++ .mp .str c' f' :: .cells 268 [.lst 2 (p.Enums.map DEnum.enc) none,.lst 5 (p.Nodes.map DNode.enc) none,.i at_,.map A.length] :: (r ++ .cells 234 [.ptr (A.length + 1) 0] :: .cells 74 [.lst 1 (q.Names.map AV.s) none,.i q.E.kind,.i q.E.n,.s q.E.name,.i q.E.op,.lst 1 (q.E.arms.map AV.s) none,.lst 6 (q.E.subs.map Ex.enc) none] :: .cells 59 [.i 5] :: (r' ++ [exBx q.E]))) ?_ (fun _ => rfl) ?_ ?_ rfl rfl rfl (by simp) (fun k z r1 K hz hi hK1 hK2 => ?_) (fun r1 hi => ?_) (fun k h' r1 hs => ?_)
  ·
   intro _; simp
  ·
   rintro h ⟨_,rfl⟩; simp
  ·
   simp only [go_sem]
  ·
   simp only [go_sem,setPs,roundA]
   refine leads141 hM' z (fun r2 => ?_)
   cases hl: leadsF p at_ n z with
   | true =>
    have hk := hK1 (take_all hi hz hl) (exBx z :: r2)
    simp only [go_sem,roundB]
    simpa using hk
   | false =>
    have hk := hK2 _ (exBx z :: r2) ⟨List.all_eq_false.2 ⟨z,List.mem_of_getElem? hz,by simp [hl]⟩,rfl⟩
    simp only [go_sem,roundB]
    simpa using hk
  ·
   rw [List.take_length] at hi
   rw [List.all_eq_true.2 hi] at hK
   simp only [go_sem]
   refine ⟨[.i 0],by simp only [go_sem],.i 0,.refl _,?_⟩
   have hk := fun z => hK c' f' z (fun _ => hM')
   simp only [if_true] at hk
   exact hk _
  ·
   obtain ⟨hs,rfl⟩ := hs
   rw [hs] at hK
   simp only [go_sem]
   refine ⟨[.i 5],by simp only [go_sem],.i 5,.refl _,?_⟩
   have hk := fun z => hK c' f' z (fun h => by simp at h)
   simp only [Bool.false_eq_true,if_false] at hk
   exact hk _
end
end Go.Proofs.YtpamokpmlplopaaGreatDoor
namespace Go.Proofs.YtpamokpmlplopaaGreatDoor
open Go.Abs
set_option maxRecDepth 20000
set_option linter.unusedSimpArgs false
set_option linter.unusedVariables false
set_option maxHeartbeats 1000000
attribute [local irreducible] vc vcOps vcStep vcGuard prK hrK gK gsK brK callK ElemK SeqK BlockK ScopeK OpsK CallK LoopK LoopGo finPost ACall PCall PCallE BCall vqOps vqStep vqGuard qrK heK pcK gqK gqsK QOpsK qcallK DrawK
theorem fault_err {p: DProg} {a: Int} {n: DNode} (h: ¬ (allV n).all (clockedF p.Enums n) = true): nodeFault p a n = ⟨a,-1,5⟩ := by unfold nodeFault; rw [if_neg h]
theorem fault_eq {p: DProg} {a: Int} {n: DNode} {e: Int × Int} (h: (allV n).all (clockedF p.Enums n) = true) (he: eqsErr p a n 0 [] n.Eqs = e) (h2: ¬ e.2 = 0): nodeFault p a n = ⟨a,e.1,e.2⟩ := by unfold nodeFault; rw [if_pos h,he,if_neg h2]
theorem fault_def {p: DProg} {a: Int} {n: DNode} {e: Int × Int} (h: (allV n).all (clockedF p.Enums n) = true) (he: eqsErr p a n 0 [] n.Eqs = e) (h2: e.2 = 0): nodeFault p a n = if allDef n = true then ⟨0,0,0⟩ else ⟨a,-1,5⟩ := by unfold nodeFault; rw [if_pos h,he,if_pos h2]
theorem eqsErr_in {p: DProg} {a: Int} {n: DNode}: ∀ {l: List DEq} {i: Nat} {D: List ByteArray},(eqsErr p a n i D l).2 = 0 → ∀ s ∈ l.flatMap DEq.Names,inF n s = false
 | [],_,_,_ => by simp
 | q :: r,i,D,h => by
  rw [eqsErr] at h
  split at h
  ·
   rename_i h0
   intro s hs
   rw [List.flatMap_cons] at hs
   rcases List.mem_append.1 hs with hs | hs
   ·
    have hn: namesErr n D q.Names = 0 := by
     unfold eqErr at h0
     split at h0
     ·
      assumption
     ·
      assumption
    exact namesErr_in hn s hs
   ·
    exact eqsErr_in h s hs
  ·
   rename_i h0
   exact absurd h h0
abbrev trK: Tr := (.two 0 (.two 1 (.two 2 (.two 3 (.one 4 (.one 5 (.one 6 (.one 7 .nil)))) 4 (.two 3 (.one 5 (.one 6 (.one 7 .nil))) 5 (.one 3 (.one 6 (.one 7 .nil))))) 4 (.two 2 (.two 3 (.one 5 (.one 6 (.one 7 .nil))) 5 (.one 3 (.one 6 (.one 7 .nil)))) 5 (.one 2 (.one 3 (.one 6 (.one 7 .nil)))))) 4 (.two 1 (.two 2 (.two 3 (.one 5 (.one 6 (.one 7 .nil))) 5 (.one 3 (.one 6 (.one 7 .nil)))) 5 (.one 2 (.one 3 (.one 6 (.one 7 .nil))))) 5 (.one 1 (.one 2 (.one 3 (.one 6 (.one 7 .nil))))))) 4 (.two 0 (.two 1 (.two 2 (.two 3 (.one 5 (.one 6 (.one 7 .nil))) 5 (.one 3 (.one 6 (.one 7 .nil)))) 5 (.one 2 (.one 3 (.one 6 (.one 7 .nil))))) 5 (.one 1 (.one 2 (.one 3 (.one 6 (.one 7 .nil)))))) 5 (.one 0 (.one 1 (.one 2 (.one 3 (.one 6 (.one 7 .nil))))))))
section
variable {A r: List Blk} {p: DProg} {c: Nat} {f: Value → Option AV} {n: DNode} {K: AV → List Blk → Prop}
theorem check49 {j: Nat} (hj: p.Nodes[j]? = some n) (hn: okNode n) (hM: MapN f (knF n [])) (hK: ∀ c' f' r',K (nodeFault p (j: Int) n).enc (HS A p (j: Int) c' f' (r ++ r'))): ACall Tryz.prog 196 [.ptr (A.length + 1) 0] (HS A p (j: Int) c f r) K := by
 have hh1 := hn.1.1
 have hh2 := hn.2.1.1
 have hh3 := hn.2.2.1.1
 have hh4 := hn.2.2.2.1
 have hal: (allV n).length ≤ 60 := by simp [allV]; omega
 have hfl: [n.Ins,n.Outs,n.Vars].flatten.length = (allV n).length := rfl
 refine acallK_of_vc tabOK Tryz.func196 (by kernel_rfl) rfl (n := 83) rfl (rs := [.cell 2 61]) rfl ?_
 simp only [go_sem]
 refine node87 hj (fun r1 => ?_)
 simp only [go_sem]
 refine PCall.callW (concatD [n.Ins,n.Outs,n.Vars] (by show (allV n).length ≤ _; omega)) ⟨.tok _ _ _,trivial⟩ ?_
 simp only [go_sem]
 intro _
 refine loop_frX [6,27,28,29,30,31,32,33,34,35,36,37] (fun m C => ∃ i: Nat,i ≤ (allV n).length ∧ m = (allV n).length - i ∧ (∀ d ∈ (allV n).take i,clockedF p.Enums n d = true) ∧ C = [(27,.raw (.int .i64 (i: Nat)))]) (allV n).length _ ⟨0,by omega,by omega,by simp,rfl⟩ (.cons rfl .nil) ?_
 rintro m C ja r2 ⟨i,hi,rfl,hp,rfl⟩
 simp only [go_sem]
 refine brK_dec (fun hlt => ?_) (fun hge => ?_)
 ·
  simp only [go_sem]
  refine elemMap (by omega) (by omega) (fun d hd => ?_)
  simp only [go_sem]
  refine clocked88 hM d (fun r3 => ?_)
  cases hdx: clockedF p.Enums n d with
  | true =>
   simp only [go_sem]
   exact loopFrX _ (by omega) _ ⟨i + 1,by omega,rfl,take_all hp (by simpa using hd) hdx,rfl⟩ (.next rfl (by omega) .nil) rfl (by first | rfl | (simp only [List.append_assoc,List.cons_append,List.nil_append]; rfl))
  | false =>
   have hf := fault_err (p := p) (a := (j: Int)) (n := n) (by rw [List.all_eq_false.2 ⟨d,List.mem_of_getElem? hd,by simp [hdx]⟩]; simp)
   rw [hf,DFault.enc_eq] at hK
   simp only [go_sem]
   exact ⟨[.agg [.i (j: Int),.i (-1),.i 5]],by simp only [go_sem],_,.refl _,hK _ _ _⟩
 ·
  have hcl: (allV n).all (clockedF p.Enums n) = true := List.all_eq_true.2 (take_full hp (by omega))
  simp only [go_sem]
  intro _
  generalize hE: eqsErr p (j: Int) n 0 [] n.Eqs = E
  refine loop_fr [7,8,41,42,43,44,45,46,47,48,49,50,51,52,53,54,55] (fun m C hh => ∃ (i c': Nat) (f': Value → Option AV) (r': List Blk),i ≤ n.Eqs.length ∧ m = n.Eqs.length - i ∧ MapN f' (knF n ((n.Eqs.take i).flatMap DEq.Names)) ∧ eqsErr p (j: Int) n i ((n.Eqs.take i).flatMap DEq.Names) (n.Eqs.drop i) = E ∧ C = [(41,.raw (.int .i64 (i: Nat)))] ∧
   hh = HS A p (j: Int) c' f' (r ++ .cells 61 [.i 0,.i 0,.i 0] :: .cells 61 [.i (j: Int),.i (-1),.i 0] :: (r1 ++ .cells 68 [.s n.Name,.lst 6 (n.Ins.map DDecl.enc) none,.lst 6 (n.Outs.map DDecl.enc) none,.lst 6 (n.Vars.map DDecl.enc) none,.lst 7 (n.Eqs.map DEq.enc) none] :: r'))) n.Eqs.length _ ⟨0,c,f,_,by omega,by omega,by simpa using hM,by simpa using hE,rfl,by first | rfl | (simp only [List.append_assoc,List.cons_append,List.nil_append]; rfl)⟩ (.cons rfl .nil) ?_
  rintro m C jb hh ⟨i,c',f',r',hi,rfl,hM',hE',rfl,rfl⟩
  simp only [go_sem]
  refine brK_dec (fun hlt => ?_) (fun hge => ?_)
  ·
   simp only [go_sem]
   refine elemMap (by omega) (by omega) (fun x hx => ?_)
   simp only [go_sem]
   refine eq89 hM' x (hn.2.2.2.2.2 _ (List.mem_of_getElem? hx)) (fun c1 f1 r3 hM1 => ?_)
   have hv := eqErr_vals p (j: Int) n ((n.Eqs.take i).flatMap DEq.Names) x
   by_cases he: eqErr p (j: Int) n ((n.Eqs.take i).flatMap DEq.Names) x = 0
   ·
    have hM2 := hM1 he
    have hE1 := eqs_next hE' hx he
    have hst := flatMap_next DEq.Names (l := n.Eqs) (by simpa using hx)
    rw [he]
    simp only [go_sem]
    exact loopFr _ (by omega) ⟨i + 1,c1,f1,_,by omega,rfl,by rw [hst]; exact hM2,hE1,rfl,rfl⟩ (.next rfl (by omega) .nil) rfl
   ·
    have hE1 := eqs_at hE' hx he
    have hf := fault_eq hcl hE (by rw [hE1]; exact he)
    rw [hf,hE1,DFault.enc_eq] at hK
    generalize eqErr p (j: Int) n ((n.Eqs.take i).flatMap DEq.Names) x = ee at hK he hv
    simp only [go_sem]
    refine brK_dec (fun hq => ?_) (fun hq => ?_)
    ·
     simp only [go_sem]
     refine brK_dec (fun _ => ?_) (fun hq2 => absurd hq hq2)
     simp only [go_sem]
     exact ⟨[.agg [.i (j: Int),.i (i: Int),.i ee]],by simp only [go_sem],_,.refl _,hK _ _ _⟩
    ·
     exact absurd hq (by simpa using he)
  ·
   simp only [go_sem]
   have hE1 := eqs_0 hE' (by omega)
   rw [List.take_of_length_le (by omega)] at hM'
   have hD := eqsErr_in (p := p) (a := (j: Int)) (n := n) (l := n.Eqs) (i := 0) (D := []) (by rw [hE,hE1])
   have hf := fault_def hcl hE (by rw [hE1])
   unfold allDef at hf
   have hL: [n.Outs,n.Vars].flatten = n.Outs ++ n.Vars := by simp
   have hll: (n.Outs ++ n.Vars).length ≤ 60 := by simp; omega
   refine PCall.callW (concatD [n.Outs,n.Vars] (by show ([n.Outs,n.Vars].flatten).length ≤ _; rw [hL]; omega)) ⟨.tok _ _ _,trivial⟩ ?_
   rw [hL]
   generalize hW: n.Outs ++ n.Vars = W at hf hll
   simp only [go_sem]
   intro _
   refine loop_frX [10,67,68,69,70,71,72,73,74,75,76,77,78,79,80,81] (fun m C => ∃ i: Nat,i ≤ W.length ∧ m = W.length - i ∧ (∀ d ∈ W.take i,memB d.Name (n.Eqs.flatMap DEq.Names) = true) ∧ C = [(67,.raw (.int .i64 (i: Nat)))]) W.length _ ⟨0,by omega,by omega,by simp,rfl⟩ (.cons rfl .nil) ?_
   rintro m C jc r4 ⟨i2,hi2,rfl,hp2,rfl⟩
   simp only [go_sem]
   refine brK_dec (fun hlt => ?_) (fun hge2 => ?_)
   ·
    simp only [go_sem]
    refine elemMap (by omega) (by omega) (fun d hd => ?_)
    simp only [go_sem]
    have hMx := hM' d.Name
    have hdn := kn_done (n := n) (D := n.Eqs.flatMap DEq.Names) (d := d) (by rw [hW]; exact List.mem_of_getElem? hd) hD
    refine drawV trK mo (by kernel_rfl) ?_
    simp only [go_sem,hMx]
    repeat' first
     | refine And.intro ?_ ?_
     | simp only [go_sem,hMx]
    all_goals
     refine brK_dec (fun hq => ?_) (fun hq => ?_)
     ·
      have hno: memB d.Name (n.Eqs.flatMap DEq.Names) = false := by
       cases hb: memB d.Name (n.Eqs.flatMap DEq.Names) with
       | false => rfl
       | true => exact absurd (by have := hdn.2 hb; omega) hq
      rw [List.all_eq_false.2 ⟨d,List.mem_of_getElem? hd,by simp [hno]⟩,if_neg (by simp)] at hf
      rw [hf,DFault.enc_eq] at hK
      simp only [go_sem]
      exact ⟨[.agg [.i (j: Int),.i (-1),.i 5]],by simp only [go_sem],_,.refl _,hK _ _ _⟩
     ·
      have hyes: memB d.Name (n.Eqs.flatMap DEq.Names) = true := hdn.1 (by omega)
      simp only [go_sem]
      exact loopFrX _ (by omega) _ ⟨i2 + 1,by omega,rfl,take_all hp2 (by simpa using hd) hyes,rfl⟩ (.next rfl (by omega) .nil) rfl (by first | rfl | (simp only [List.append_assoc,List.cons_append,List.nil_append]; rfl))
   ·
    rw [List.all_eq_true.2 (take_full hp2 (by omega)),if_pos rfl] at hf
    rw [hf,DFault.enc_eq] at hK
    simp only [go_sem]
    exact ⟨[.agg [.i 0,.i 0,.i 0]],by simp only [go_sem],_,.refl _,hK _ _ _⟩
end
end Go.Proofs.YtpamokpmlplopaaGreatDoor
namespace Go.Proofs.YtpamokpmlplopaaGreatDoor
open Go.Abs
set_option maxRecDepth 20000
set_option linter.unusedSimpArgs false
set_option linter.unusedVariables false
set_option maxHeartbeats 1000000
attribute [local irreducible] vc vcOps vcStep vcGuard prK hrK gK gsK brK callK ElemK SeqK BlockK ScopeK OpsK CallK LoopK LoopGo finPost ACall PCall PCallE BCall vqOps vqStep vqGuard qrK heK pcK gqK gqsK QOpsK qcallK DrawK
theorem rightN (L: List DEnum) (n: DNode) (hn: okNode n): PCall Tryz.prog 241 [.lst 2 (L.map DEnum.enc) none,n.enc] (.b (nodeF L.length n)) := by
 have h1 := hn.1.1
 have h2 := hn.2.1.1
 have h3 := hn.2.2.1.1
 have hal: (allV n).length ≤ 60 := by simp [allV]; omega
 have hba: bareN n = (!(n.Ins.any fun d => !(decide (d.On = ⟨#[]⟩))) && !(n.Outs.any fun d => !(decide (d.On = ⟨#[]⟩)))) := by
  unfold bareN
  rw [List.all_append,List.all_eq_not_any_not,List.all_eq_not_any_not]
 refine pcall_of_vc tabOK Tryz.func241 (by kernel_rfl) rfl pureL pureI (n := 55) rfl (rs := [.tmp 4]) rfl ?_
 simp only [go_sem]
 refine acallK_of_vc tabOK Tryz.func286 (by kernel_rfl) rfl (n := 4) rfl (rs := [.tmp 2]) rfl ?_
 simp only [go_sem]
 refine finK rfl ?_
 repeat' first
  | exact finB rfl
  | exact finI rfl
  | exact finP rfl
  | exact absurd rfl (by assumption)
  | simp only [go_sem]
  | (intro _)
  | refine brK_dec (fun _ => ?_) (fun _ => ?_)
  | refine brK_split (fun hb_ => ?_) (fun hb_ => ?_)
  | refine gK_dec (fun _ => ?_) (fun _ => ?_)
  | refine gK_split (fun hb_ => ?_) (fun hb_ => ?_)
  | refine gqK_dec (fun _ => ?_) (fun _ => ?_)
  | refine ⟨by omega,?_⟩
  | refine elemHave (by omega) (by assumption) ?_
  | refine elemMap (by omega) (by omega) (fun x hx => ?_)
  | refine drawK mo (by kernel_rfl) ?_
  | (refine PCall.call (all63 n (by omega)) ?_)
  | (refine declared131 L x (k := 1) rfl ?_; generalize hdx: declaredF L.length x = b; cases b)
  | ((fail_if_success (clear hu)); refine bareP ?_; generalize hu: (n.Ins.any fun d => !(decide (d.On = ⟨#[]⟩))) = u at hba ⊢; cases u)
  | (refine bareP ?_; generalize hv: (n.Outs.any fun d => !(decide (d.On = ⟨#[]⟩))) = v at hba ⊢; cases v)
  | (refine PCall.call (equationP x (hn.2.2.2.2.2 _ (List.mem_of_getElem? hx))) ?_; generalize hqx: eqF x = b; cases b)
  | (refine PCall.call (low6 n.Name) ?_; generalize hlx: lowF n.Name = b; cases b)
  | (refine finBq rfl ?_; rw [node_no hx hdx]; done)
  | (refine finBq rfl ?_; rw [node_no2 hba]; done)
  | (refine finBq rfl ?_; rw [node_no3 hx hqx]; done)
  | (refine finBq rfl ?_; rw [node_yes hpi (by omega) hba hpj (by omega),hlx]; first | rfl | (simp; done) | (simp; omega))
  | exact loopFrX _ (by omega) _ ⟨i + 1,by omega,rfl,take_all hpi (by simpa using hx) hdx,rfl⟩ (.next rfl (by omega) .nil) rfl (by first | rfl | (simp only [List.append_assoc,List.cons_append,List.nil_append]; rfl))
  | (refine loop_frX [4,7,16,17,18,19,20,21,22,23,24] (fun mm_ CC_ => ∃ (i: Nat),i ≤ (allV n).length ∧ mm_ = (allV n).length - i ∧ (∀ d ∈ (allV n).take i,declaredF L.length d = true) ∧ CC_ = [(16,.raw (.int .i64 ((i: Nat): Int)))]) ((allV n).length) _ ⟨0,by omega,by omega,by simp,rfl⟩ (.cons rfl .nil) ?_; rintro mm_ CC_ ji ri ⟨i,hi,rfl,hpi,rfl⟩)
  | exact loopFrX _ (by omega) _ ⟨j + 1,by omega,rfl,take_all hpj (by simpa using hx) hqx,rfl⟩ (.next rfl (by omega) .nil) rfl (by first | rfl | (simp only [List.append_assoc,List.cons_append,List.nil_append]; rfl))
  | (refine loop_frX [4,10,38,39,40,41,42,43,44,45] (fun mm_ CC_ => ∃ (j: Nat),j ≤ n.Eqs.length ∧ mm_ = n.Eqs.length - j ∧ (∀ q ∈ n.Eqs.take j,eqF q = true) ∧ CC_ = [(38,.raw (.int .i64 ((j: Nat): Int)))]) (n.Eqs.length) _ ⟨0,by omega,by omega,by simp,rfl⟩ (.cons rfl .nil) ?_; rintro mm_ CC_ jj rj ⟨j,hj,rfl,hpj,rfl⟩)
theorem greatP (n: DNode): PCall Tryz.prog 239 [n.enc] (.b (greatF n)) := by
 refine pcall_of_vc tabOK Tryz.func239 (by kernel_rfl) rfl pureL pureI (n := 25) rfl (rs := [.tmp 2]) rfl ?_
 repeat' first
  | exact finB rfl
  | exact finI rfl
  | exact finP rfl
  | exact absurd rfl (by assumption)
  | simp only [go_sem]
  | (intro _)
  | refine brK_dec (fun _ => ?_) (fun _ => ?_)
  | refine brK_any ?_ ?_
  | refine gK_dec (fun _ => ?_) (fun _ => ?_)
  | refine gK_any ?_ ?_
  | refine gqK_dec (fun _ => ?_) (fun _ => ?_)
  | refine ⟨by omega,?_⟩
  | refine elemHave (by omega) (by assumption) ?_
  | refine elemMap (by omega) (by omega) (fun x hx => ?_)
  | refine drawK mo (by kernel_rfl) ?_
  | (exfalso; omega)
  | (refine finBq rfl ?_; unfold greatF; (try rw [decide_eq_true (p := n.Ins.length > 6) (by omega)]); (try rw [decide_eq_false (p := n.Ins.length > 6) (by omega)]); (try rw [decide_eq_true (p := n.Outs.length > 6) (by omega)]); (try rw [decide_eq_false (p := n.Outs.length > 6) (by omega)]); (try rw [decide_eq_true (p := n.Vars.length > 12) (by omega)]); (try rw [decide_eq_false (p := n.Vars.length > 12) (by omega)]); simp; done)
  | (refine finBq rfl ?_; unfold greatF; (try rw [decide_eq_true (p := n.Ins.length > 6) (by omega)]); (try rw [decide_eq_false (p := n.Ins.length > 6) (by omega)]); (try rw [decide_eq_true (p := n.Outs.length > 6) (by omega)]); (try rw [decide_eq_false (p := n.Outs.length > 6) (by omega)]); (try rw [decide_eq_true (p := n.Vars.length > 12) (by omega)]); (try rw [decide_eq_false (p := n.Vars.length > 12) (by omega)]); simp; omega)
theorem onceP (n: DNode) (hl: (allV n).length ≤ 60): PCall Tryz.prog 243 [n.enc] (.b (onceN n)) := by
 refine pcall_of_vc tabOK Tryz.func243 (by kernel_rfl) rfl pureL pureI (n := 21) rfl (rs := [.tmp 2]) rfl ?_
 unfold onceN
 simp only [go_sem]
 refine PCall.call (all63 n (by omega)) ?_
 generalize allV n = L at hl
 simp only [go_sem]
 intro _
 refine loop_ghost (ghost_tok 3 9 1 rfl) ?_
 refine loop_fr [3,5,9,10,11,12,13,14,15,16,17,18] (fun m C hh => ∃ (i: Nat) (r: List Blk),i ≤ L.length ∧ m = L.length - i ∧ C = [(9,.raw (.int .i64 (i: Nat))),(3,.lst 1 (((L.take i).map DDecl.Name).map AV.s) (some 1))] ∧ hh = .cells 68 [.s n.Name,.lst 6 (n.Ins.map DDecl.enc) none,.lst 6 (n.Outs.map DDecl.enc) none,.lst 6 (n.Vars.map DDecl.enc) none,.lst 7 (n.Eqs.map DEq.enc) none] :: .tok 9 1 (L.take i).length :: r) L.length _ ⟨0,[],by omega,by omega,rfl,rfl⟩ (.cons rfl (.cons rfl .nil)) ?_
 rintro m C j hh ⟨i,r,hi,rfl,rfl,rfl⟩
 simp only [go_sem]
 refine brK_dec (fun hlt => ?_) (fun hge => ?_)
 ·
  simp only [go_sem]
  refine elemMap (by omega) (by omega) (fun d hd => ?_)
  have hli: (L.take i).length = i := by rw [List.length_take]; omega
  have hli2: (L.take (i + 1)).length = i + 1 := by rw [List.length_take]; omega
  have hst := take_mapS (f := DDecl.Name) hd
  try simp only [go_sem]
  refine ⟨by simp; omega,?_⟩
  try simp only [go_sem]
  exact loopFr _ (by omega) ⟨i + 1,_,by omega,rfl,rfl,by rw [hli2,hli]⟩ (.next rfl (by omega) (.cons (by rw [hst]; simp [slot]) .nil)) rfl
 ·
  simp only [go_sem]
  rw [List.take_of_length_le (by omega)]
  refine PCall.callW (once12 (L.map DDecl.Name)) ⟨.tok _ _ _,trivial⟩ ?_
  simp only [go_sem]
  exact finBq rfl rfl
theorem flat_at {L: List DEnum} {i k: Nat} {e: DEnum} {c: ByteArray} (he: L[i]? = some e) (hc: e.Ctors[k]? = some c): (L.flatMap DEnum.Ctors)[((L.take i).flatMap DEnum.Ctors).length + k]? = some c := by
 obtain ⟨hi,rfl⟩ := List.getElem?_eq_some_iff.1 he
 have h1: L.flatMap DEnum.Ctors = (L.take i).flatMap DEnum.Ctors ++ (L[i].Ctors ++ (L.drop (i + 1)).flatMap DEnum.Ctors) := by
  have h2: L = L.take i ++ L[i] :: L.drop (i + 1) := by rw [← List.drop_eq_getElem_cons hi,List.take_append_drop]
  conv => lhs; rw [h2]
  rw [List.flatMap_append,List.flatMap_cons]
 rw [h1,List.getElem?_append_right (by omega),Nat.add_sub_cancel_left,List.getElem?_append_left (List.getElem?_eq_some_iff.1 hc).1]
 exact hc
theorem ctors_all {L: List DEnum} {ps: Array Tmp} {x y: Code} {s: List AV} {l: Nat} {Q: Post} (m k0 g: Nat) (H G: Nat → List Blk) (hH: ∀ n,(H n).length = m) (hG: ∀ n,(G n).length = g)
  (hk: ∀ n,(H n)[k0]? = some (.cells 22 [.lst 2 (L.map DEnum.enc) none])) (hps: ps.size = 2) (hx: noR x = true) (hy: noR y = true)
  (hbody: ∀ (n: Nat) (c: ByteArray) (i k: Nat) (r: List Blk) (K: AV → List Blk → Prop),(L.flatMap DEnum.Ctors)[n]? = some c → (∀ r',K (.b true) (H (n + 1) ++ (.lp l .ready none ps x y s :: (G (n + 1) ++ (r ++ r'))))) →
   vc Tryz.prog ti x (roundA Tryz.prog ti l m ps x y s K) (setPs s ps.toList [.agg [.i (i: Int),.i (k: Int)],.s c]) (H n ++ (.lp l .ready none ps x y s :: (G n ++ r))))
  (hn: ∀ r,Q .normal s (H (L.flatMap DEnum.Ctors).length ++ (.dead :: (G (L.flatMap DEnum.Ctors).length ++ r)))) :
  ACall Tryz.prog 297 [.fn (.yield l) [] [],.ptr k0 0] (H 0 ++ (.lp l .ready none ps x y s :: G 0)) (fun _ h' => loopEnd Q s m h') := by
 refine ctors155 L l k0 (fun i k h => ∃ (r: List Blk) (n: Nat),n = ((L.take i).flatMap DEnum.Ctors).length + k ∧ h = H n ++ (.lp l .ready none ps x y s :: (G n ++ r))) (fun _ => False) ?_ ?_ ?_ ?_ ⟨[],0,by simp,by simp⟩ ?_ ?_
 ·
  rintro i k h ⟨r,n,_,rfl⟩
  rw [List.getElem?_append_left (List.getElem?_eq_some_iff.1 (hk n)).1]
  exact hk n
 ·
  rintro i k h r' ⟨r,n,hn,rfl⟩
  exact ⟨r ++ r',n,hn,by simp⟩
 ·
  rintro i e h he ⟨r,n,hn,rfl⟩
  exact ⟨r,n,by rw [hn,flatMap_next _ he]; simp,rfl⟩
 ·
  rintro i k e c h he hc ⟨r,n,hn,rfl⟩ K hK1 _
  refine ycall_of_vc tabOK (k := m) (ps := ps) (x := x) (y := y) (s := s) ?_ (by simp [hps]) hx hy (hbody n c i k r K (by rw [hn]; exact flat_at he hc) (fun r' => hK1 _ ⟨r ++ r',n + 1,by omega,by simp⟩))
  rw [List.getElem?_append_right (by rw [hH]; exact Nat.le_refl _),hH,Nat.sub_self]; rfl
 ·
  rintro h' ⟨r,n,hn',rfl⟩
  rw [List.take_length,Nat.add_zero] at hn'
  subst hn'
  have e1: (H (L.flatMap DEnum.Ctors).length ++ (Blk.lp l .ready none ps x y s :: (G (L.flatMap DEnum.Ctors).length ++ r)))[m]? = some (.lp l .ready none ps x y s) := by
   rw [List.getElem?_append_right (by rw [hH]; exact Nat.le_refl _),hH,Nat.sub_self]; rfl
  have e2: (H (L.flatMap DEnum.Ctors).length ++ (Blk.lp l .ready none ps x y s :: (G (L.flatMap DEnum.Ctors).length ++ r))).set m .dead = H (L.flatMap DEnum.Ctors).length ++ (.dead :: (G (L.flatMap DEnum.Ctors).length ++ r)) := by
   rw [List.set_append_right _ _ (by rw [hH]; exact Nat.le_refl _),hH,Nat.sub_self]; rfl
  unfold loopEnd
  rw [e1,e2]
  exact hn r
 ·
  rintro h' h
  exact h.elim
theorem ctors_all3 {L: List DEnum} {ps: Array Tmp} {x y: Code} {s: List AV} {l: Nat} {Q: Post} (B1 B2: Nat → Blk) (B3: Blk) (r0: List Blk) (tk: Nat → Blk) {k0 m: Nat} (hk0: k0 = r0.length + 3) (hm: m = r0.length + 4) (hps: ps.size = 2) (hx: noR x = true) (hy: noR y = true)
  (hbody: ∀ (n: Nat) (c: ByteArray) (i k: Nat) (r: List Blk) (K: AV → List Blk → Prop),(L.flatMap DEnum.Ctors)[n]? = some c →
   (∀ r',K (.b true) (B1 (n + 1) :: B2 (n + 1) :: B3 :: (r0 ++ .cells 22 [.lst 2 (L.map DEnum.enc) none] :: .lp l .ready none ps x y s :: tk (n + 1) :: (r ++ r')))) →
   vc Tryz.prog ti x (roundA Tryz.prog ti l m ps x y s K) (setPs s ps.toList [.agg [.i (i: Int),.i (k: Int)],.s c]) (B1 n :: B2 n :: B3 :: (r0 ++ .cells 22 [.lst 2 (L.map DEnum.enc) none] :: .lp l .ready none ps x y s :: tk n :: r)))
  (hn: ∀ r,Q .normal s (B1 (L.flatMap DEnum.Ctors).length :: B2 (L.flatMap DEnum.Ctors).length :: B3 :: (r0 ++ .cells 22 [.lst 2 (L.map DEnum.enc) none] :: .dead :: tk (L.flatMap DEnum.Ctors).length :: r))) :
  ACall Tryz.prog 297 [.fn (.yield l) [] [],.ptr k0 0] (B1 0 :: B2 0 :: B3 :: (r0 ++ [.cells 22 [.lst 2 (L.map DEnum.enc) none],.lp l .ready none ps x y s,tk 0])) (fun _ h' => loopEnd Q s m h') := by
 subst hk0 hm
 have h := ctors_all (L := L) (ps := ps) (x := x) (y := y) (s := s) (l := l) (Q := Q) (r0.length + 4) (r0.length + 3) 1 (fun n => B1 n :: B2 n :: B3 :: (r0 ++ [.cells 22 [.lst 2 (L.map DEnum.enc) none]])) (fun n => [tk n]) (fun n => by simp) (fun n => rfl) (fun n => by simp) hps hx hy
  (fun n c i k r K hc hK => by have := hbody n c i k r K hc (fun r' => by have := hK r'; simpa using this); simpa using this) (fun r => by have := hn r; simpa using this)
 simpa using h
theorem flat_len {L: List DEnum} (h: ∀ e ∈ L,okEnum e): (L.flatMap DEnum.Ctors).length ≤ 12 * L.length := by
 induction L with
 | nil => simp
 | cons e L ih =>
  have h1 := (h e List.mem_cons_self).1
  have h2 := ih fun x hx => h x (List.mem_cons_of_mem _ hx)
  rw [List.flatMap_cons,List.length_append,List.length_cons]
  omega
theorem en_fin {L: List DEnum} {u v: Bool} (hg: greatE L = false) (hu: (L.all fun e => lowF e.Name && decide (0 < e.Ctors.length)) = u) (hv: (L.flatMap DEnum.Ctors).all highF = v): enumsF L = if (v && u) = true then (if (onceB (L.map DEnum.Name) && onceB (L.flatMap DEnum.Ctors)) = true then 0 else 6) else 1 := by
 unfold enumsF rightEn
 rw [hg,hu,hv,Bool.and_comm]
 simp
theorem enumsP (L: List DEnum) (hl: okEnums L): PCall Tryz.prog 237 [.lst 2 (L.map DEnum.enc) none] (.i (enumsF L)) := by
 have hl8 := hl.1
 refine pcall_of_vc tabOK Tryz.func237 (by kernel_rfl) rfl pureL pureI (n := 61) rfl (rs := [.tmp 2]) rfl ?_
 simp only [go_sem]
 refine PCall.call (great74 L) ?_
 cases hg: greatE L with
 | true =>
  simp only [go_sem]
  exact finIq rfl (en_many hg).symm
 | false =>
 simp only [go_sem]
 intro _
 refine loop_ghost (ghost_tok 3 9 1 rfl) ?_
 refine loop_fr [3,7,14,15,16,17,18,19,20,21,22,23,24,25,26,27,28,29,30,31,32,33,34,35] (fun m C hh => ∃ (i: Nat) (r: List Blk),i ≤ L.length ∧ m = L.length - i ∧ C = [(14,.raw (.int .i64 (i: Nat))),(3,.lst 1 (((L.take i).map DEnum.Name).map AV.s) (some 2))] ∧ hh = .cells 46 [.raw (.slice none 0 0)] :: .cells 4 [.b ((L.take i).all fun e => lowF e.Name && decide (0 < e.Ctors.length))] :: .tok 9 1 (L.take i).length :: r) L.length _ ⟨0,[],by omega,by omega,rfl,rfl⟩ (.cons rfl (.cons rfl .nil)) ?_
 rintro m C j hh ⟨i,r,hi,rfl,rfl,rfl⟩
 simp only [go_sem]
 refine brK_dec (fun hlt => ?_) (fun hge => ?_)
 ·
  simp only [go_sem]
  refine elemMap (by omega) (by omega) (fun d hd => ?_)
  have hli: (L.take i).length = i := by rw [List.length_take]; omega
  have hli2: (L.take (i + 1)).length = i + 1 := by rw [List.length_take]; omega
  have hst := take_mapS (f := DEnum.Name) hd
  have hal := all_nextZ (fun e: DEnum => lowF e.Name && decide (0 < e.Ctors.length)) hd
  have hgt: decide ((d.Ctors.length: Int) > 0) = decide (0 < d.Ctors.length) := decide_eq_decide.2 (by omega)
  try simp only [go_sem]
  refine ⟨by simp; omega,?_⟩
  generalize hu: ((L.take i).all fun e => lowF e.Name && decide (0 < e.Ctors.length)) = u at hal ⊢
  cases u
  all_goals
   repeat' first
    | (exfalso; omega)
    | simp only [go_sem]
    | (intro _)
    | refine gK_dec (fun _ => ?_) (fun _ => ?_)
    | refine brK_dec (fun _ => ?_) (fun _ => ?_)
    | (refine PCall.call (low6 d.Name) ?_; generalize hlo: lowF d.Name = q at hal ⊢; cases q)
    | exact loopFr _ (by omega) ⟨i + 1,_,by omega,rfl,rfl,by rw [hli2,hal]; simp only [hli,hgt,Bool.false_and,Bool.true_and]; rfl⟩ (.next rfl (by omega) (.cons (by rw [hst]; simp [slot]) .nil)) rfl
 ·
  simp only [go_sem]
  rw [List.take_of_length_le (by omega)]
  generalize hu: (L.all fun e => lowF e.Name && decide (0 < e.Ctors.length)) = u
  refine ctors154 L ?_
  simp only [go_sem]
  intro l
  refine acall_ghost (ghost_cell 0 0 9 1 rfl rfl) ?_
  simp only [go_sem]
  refine ctors_all3 (fun n => .cells 46 [.lst 1 (((L.flatMap DEnum.Ctors).take n).map AV.s) (some (r.length + 2 + 1 + 1 + 1))]) (fun n => .cells 4 [.b (((L.flatMap DEnum.Ctors).take n).all highF && u)]) (.tok 9 1 L.length) r (fun n => .tok 9 1 ((L.flatMap DEnum.Ctors).take n).length) (by omega) (by omega) rfl rfl rfl (fun n c i' k' r' K hc hK => ?_) (fun r' => ?_)
  ·
   have hfl := flat_len hl.2
   have hle: ((L.flatMap DEnum.Ctors).take n).length ≤ 96 := by rw [List.length_take]; omega
   have hst: (((L.flatMap DEnum.Ctors).take (n + 1)).map AV.s) = (((L.flatMap DEnum.Ctors).take n).map AV.s) ++ [AV.s c] := by
    obtain ⟨hn,rfl⟩ := List.getElem?_eq_some_iff.1 hc
    rw [List.take_succ_eq_append_getElem hn,List.map_append]; rfl
   have hln: ((L.flatMap DEnum.Ctors).take (n + 1)).length = ((L.flatMap DEnum.Ctors).take n).length + 1 := by
    have := congrArg List.length hst
    simpa using this
   have hal: (((L.flatMap DEnum.Ctors).take (n + 1)).all highF && u) = (((L.flatMap DEnum.Ctors).take n).all highF && u && highF c) := by
    rw [all_next highF hc]
    cases ((L.flatMap DEnum.Ctors).take n).all highF <;> cases u <;> cases highF c <;> rfl
   simp only [hst,hln,hal] at hK
   simp only [go_sem,setPs,roundA]
   refine ⟨by omega,?_⟩
   generalize (((L.flatMap DEnum.Ctors).take n).all highF && u) = w at hK ⊢
   cases w
   all_goals
    repeat' first
     | simp only [go_sem,roundB]
     | refine ⟨rfl,?_⟩
     | (refine PCall.call (high8 c) ?_; generalize highF c = q at hK ⊢; cases q)
     | (have hk := hK [.tok 9 1 1]; (simpa using hk); done)
  ·
   simp only [go_sem]
   rw [List.take_length]
   generalize hv: (L.flatMap DEnum.Ctors).all highF = v
   have hfin := en_fin hg hu hv
   cases u <;> cases v
   all_goals
    repeat' first
     | simp only [go_sem]
     | (refine PCall.callW (once12 (L.map DEnum.Name)) ⟨.tok _ _ _,trivial⟩ ?_; generalize onceB (L.map DEnum.Name) = q at hfin ⊢; cases q)
     | (refine PCall.callW (once12 (L.flatMap DEnum.Ctors)) ⟨.tok _ _ _,trivial⟩ ?_; generalize onceB (L.flatMap DEnum.Ctors) = q at hfin ⊢; cases q)
     | (refine finIq rfl ?_; rw [hfin]; simp; done)
abbrev progBd (p: DProg): Blk := .cells 25 [.lst 2 (p.Enums.map DEnum.enc) none,.lst 5 (p.Nodes.map DNode.enc) none]
theorem some37 {p: DProg} {q: DNode → Bool} {g: Nat} {first capt: List AV} {h: List Blk} {K: AV → List Blk → Prop} (hp: ∀ x ∈ p.Nodes,∀ (r: List Blk) (K: AV → List Blk → Prop),K (.b (q x)) (h ++ r) → ACall Tryz.prog g (first ++ DNode.enc x :: capt) (h ++ r) K)
  (hK: K (.b (p.Nodes.any q)) h): ACall Tryz.prog 238 [p.enc,.fn (.func g) first capt] h K := by
 refine acall_of_vc tabOK Tryz.func238 (by kernel_rfl) rfl (n := 9) rfl (rs := [.tmp 4]) rfl ?_
 simp only [go_sem]
 refine containsNo (p := q) (fun x hx K hK => hp x hx _ K hK) ?_
 simp only [go_sem]
 exact finH0 _ rfl (.raw _) hK
theorem check39 (p: DProg) (n: DNode) (hn: okNode n) {k: Nat} {h: List Blk} {K: AV → List Blk → Prop} (hk: h[k]? = some (progBd p)) (hK: K (.b (!(nodeF p.Enums.length n))) h): ACall Tryz.prog 240 [n.enc,.ptr k 0] h K := by
 have hkl := (List.getElem?_eq_some_iff.1 hk).1
 have hk1: ∀ r,(h ++ r)[k]? = some (.cells 25 [.lst 2 (p.Enums.map DEnum.enc) none,.lst 5 (p.Nodes.map DNode.enc) none]) := fun r => by rw [List.getElem?_append_left hkl]; exact hk
 refine acall_of_vc tabOK Tryz.func240 (by kernel_rfl) rfl (n := 9) rfl (rs := [.tmp 3]) rfl ?_
 simp only [go_sem,hk1]
 refine PCall.call (rightN p.Enums n hn) ?_
 simp only [go_sem]
 exact finH0 _ rfl (.raw _) hK
theorem check41 (n: DNode) (hl: (allV n).length ≤ 60) {h: List Blk} {K: AV → List Blk → Prop} (hK: K (.b (!(onceN n))) h): ACall Tryz.prog 242 [n.enc] h K := by
 refine acall_of_vc tabOK Tryz.func242 (by kernel_rfl) rfl (n := 6) rfl (rs := [.tmp 2]) rfl ?_
 simp only [go_sem]
 refine PCall.call (onceP n hl) ?_
 simp only [go_sem]
 exact finH0 _ rfl (.raw _) hK
theorem great_f (n: DNode) {h: List Blk} {K: AV → List Blk → Prop} (hK: K (.b (greatF n)) h): ACall Tryz.prog 239 [n.enc] h K := by
 refine PCall.call (greatP n) ?_
 exact hK
theorem okN_len {n: DNode} (h: okNode n): (allV n).length ≤ 60 := by
 have h1 := h.1.1
 have h2 := h.2.1.1
 have h3 := h.2.2.1.1
 simp [allV]
 omega
theorem checkP (p: DProg) (hp: okProg p): PCall Tryz.prog 194 [p.enc] (.i (checkF p)) := by
 have hp6 := hp.2.1
 refine pcall_of_vc tabOK Tryz.func194 (by kernel_rfl) rfl pureL pureI (n := 52) rfl (rs := [.tmp 2]) rfl ?_
 unfold checkF
 simp only [go_sem]
 refine PCall.call (enumsP p.Enums hp.1) ?_
 generalize enumsF p.Enums = e
 simp only [go_sem]
 refine brK_dec (fun h0 => ?_) (fun h0 => ?_)
 ·
  simp only [go_sem]
  exact finIq rfl (by rw [if_pos (by simpa using h0)])
 rw [if_neg (by simpa using h0)]
 simp only [go_sem]
 intro _
 refine loop_ghost (ghost_tok 4 9 1 rfl) ?_
 refine loop_fr [4,6,16,17,18,19,20,21,22,23,24,25] (fun m C hh => ∃ (i: Nat) (r: List Blk),i ≤ p.Nodes.length ∧ m = p.Nodes.length - i ∧ C = [(16,.raw (.int .i64 (i: Nat))),(4,.lst 1 (((p.Nodes.take i).map DNode.Name).map AV.s) (some 1))] ∧ hh = progBd p :: .tok 9 1 (p.Nodes.take i).length :: r) p.Nodes.length _ ⟨0,[],by omega,by omega,rfl,rfl⟩ (.cons rfl (.cons rfl .nil)) ?_
 rintro m C j hh ⟨i,r,hi,rfl,rfl,rfl⟩
 simp only [go_sem]
 refine brK_dec (fun hlt => ?_) (fun hge => ?_)
 ·
  simp only [go_sem]
  refine elemMap (by omega) (by omega) (fun d hd => ?_)
  have hli: (p.Nodes.take i).length = i := by rw [List.length_take]; omega
  have hli2: (p.Nodes.take (i + 1)).length = i + 1 := by rw [List.length_take]; omega
  have hst := take_mapS (f := DNode.Name) hd
  try simp only [go_sem]
  refine ⟨by simp; omega,?_⟩
  try simp only [go_sem]
  exact loopFr _ (by omega) ⟨i + 1,_,by omega,rfl,rfl,by rw [hli2,hli]⟩ (.next rfl (by omega) (.cons (by rw [hst]; simp [slot]) .nil)) rfl
 ·
  rw [List.take_of_length_le (by omega)]
  have hany1: p.Nodes.all (nodeF p.Enums.length) = !(p.Nodes.any fun n => !(nodeF p.Enums.length n)) := List.all_eq_not_any_not
  have hany2: p.Nodes.all onceN = !(p.Nodes.any fun n => !(onceN n)) := List.all_eq_not_any_not
  rw [hany1,hany2]
  repeat' first
   | (exfalso; omega)
   | simp only [go_sem]
   | (intro _)
   | refine brK_dec (fun _ => ?_) (fun _ => ?_)
   | refine gK_dec (fun _ => ?_) (fun _ => ?_)
   | (refine some37 (q := greatF) (fun x hx r K hK => great_f x hK) ?_; generalize p.Nodes.any greatF = b; cases b)
   | (refine some37 (q := fun n => !(nodeF p.Enums.length n)) (fun x hx r K hK => check39 p x (hp.2.2 x hx) (k := 0) rfl hK) ?_; generalize (p.Nodes.any fun n => !(nodeF p.Enums.length n)) = b; cases b)
   | (refine some37 (q := fun n => !(onceN n)) (fun x hx r K hK => check41 x (okN_len (hp.2.2 x hx)) hK) ?_; generalize (p.Nodes.any fun n => !(onceN n)) = b; cases b)
   | (refine PCall.callW (once12 (p.Nodes.map DNode.Name)) ⟨.tok _ _ _,trivial⟩ ?_; generalize onceB (p.Nodes.map DNode.Name) = b; cases b)
   | (refine finIq rfl ?_; rw [if_pos (c := p.Nodes.length = 0) (by omega)]; done)
   | (refine finIq rfl ?_; (try rw [if_pos (c := p.Nodes.length = 0) (by omega)]); (try rw [if_neg (c := p.Nodes.length = 0) (by omega)]); (try rw [decide_eq_true (p := p.Nodes.length > 6) (by omega)]); (try rw [decide_eq_false (p := p.Nodes.length > 6) (by omega)]); simp; done)
theorem any_next {α: Type} {l: List α} {i: Nat} {x: α} (f: α → Bool) (hx: l[i]? = some x): (l.take (i + 1)).any f = ((l.take i).any f || f x) := by
 obtain ⟨hi,rfl⟩ := List.getElem?_eq_some_iff.1 hx
 rw [List.take_succ_eq_append_getElem hi,List.any_append]
 simp
def nmD (l: List DDecl) (s: ByteArray): Bool := l.any fun d => decide (d.Name = s)
theorem nmD_next {l: List DDecl} {i: Nat} {x: DDecl} (hx: l[i]? = some x) (s: ByteArray): nmD (l.take (i + 1)) s = (nmD (l.take i) s || decide (x.Name = s)) := any_next _ hx
def gOpen (l m: List DDecl) (s: ByteArray): Nat := if nmD l s = true then 1 else if nmD m s = true then 2 else 0
theorem gOpen_end (n: DNode) (s: ByteArray): gOpen n.Ins (n.Outs ++ n.Vars) s = knF n [] s := by
 unfold gOpen knF inF nmD memB
 simp
theorem open_free {f: Value → Option AV} {W: List DDecl} {i: Nat} {d: DDecl} (hM: MapN f (gOpen [] (W.take i))) (hd: W[i]? = some d): MapN (mput f (.string d.Name) (.raw (.int .i64 2))) (gOpen [] (W.take (i + 1))) := by
 refine hM.put d.Name 2 _ ?_ (fun s hs => ?_)
 ·
  unfold gOpen; rw [nmD_next hd]; simp [nmD]
 ·
  have: ¬ d.Name = s := fun e => hs e.symm
  unfold gOpen; rw [nmD_next hd]; simp [this]
theorem open_in {f: Value → Option AV} {L W: List DDecl} {i: Nat} {d: DDecl} (hM: MapN f (gOpen (L.take i) W)) (hd: L[i]? = some d): MapN (mput f (.string d.Name) (.raw (.int .i64 1))) (gOpen (L.take (i + 1)) W) := by
 refine hM.put d.Name 1 _ ?_ (fun s hs => ?_)
 ·
  unfold gOpen; rw [nmD_next hd]; simp
 ·
  have: ¬ d.Name = s := fun e => hs e.symm
  unfold gOpen; rw [nmD_next hd]; simp [this]
theorem snoc3 {α: Type} (h: List α) (a b c: α): h ++ [a,b,c] = (h ++ [a]) ++ [b,c] := by simp
theorem open48 {p: DProg} {j: Nat} {n: DNode} (hj: p.Nodes[j]? = some n) (hn: okNode n) {h: List Blk} {K: AV → List Blk → Prop} (hK: ∀ A c f r,A = h ++ [progBd p] → MapN f (knF n []) → K (.ptr (A.length + 1) 0) (HS A p (j: Int) c f r)): ACall Tryz.prog 195 [p.enc,.i (j: Int)] h K := by
 have hh1 := hn.1.1
 have hh2 := hn.2.1.1
 have hh3 := hn.2.2.1.1
 have hL: [n.Outs,n.Vars].flatten = n.Outs ++ n.Vars := by simp
 have hll: (n.Outs ++ n.Vars).length ≤ 60 := by simp; omega
 refine acallK_of_vc tabOK Tryz.func195 (by kernel_rfl) rfl (n := 51) rfl (rs := [.tmp 4]) rfl ?_
 simp only [go_sem]
 rw [snoc3]
 obtain ⟨A,hA⟩: ∃ A,A = h ++ [progBd p] := ⟨_,rfl⟩
 rw [← hA]
 have hl1: h.length + 1 = A.length := by rw [hA]; simp
 have hl2: h.length + 2 = A.length + 1 := by omega
 rw [hl1,hl2]
 refine node87 hj (fun r1 => ?_)
 simp only [go_sem]
 simp only [DNode.enc_eq]
 simp only [go_sem]
 refine node87 hj (fun r2 => ?_)
 simp only [go_sem]
 simp only [DNode.enc_eq]
 simp only [go_sem]
 refine PCall.callW (concatD [n.Outs,n.Vars] (by show ([n.Outs,n.Vars].flatten).length ≤ _; rw [hL]; omega)) ⟨.tok _ _ _,trivial⟩ ?_
 rw [hL]
 generalize hW: n.Outs ++ n.Vars = W at hll
 simp only [go_sem]
 intro _
 refine loop_fr [7,24,25,26,27,28,29,30,31,32,33,34] (fun m C hh => ∃ (i c': Nat) (f': Value → Option AV) (r': List Blk),i ≤ W.length ∧ m = W.length - i ∧ MapN f' (gOpen [] (W.take i)) ∧ C = [(24,.raw (.int .i64 (i: Nat)))] ∧ hh = HS A p (j: Int) c' f' r') W.length _ ⟨0,0,_,_,by omega,by omega,MapN.nil.cast (fun s => by simp [gOpen,nmD]),rfl,rfl⟩ (.cons rfl .nil) ?_
 rintro m C jb hh ⟨i,c',f',r',hi,rfl,hM,rfl,rfl⟩
 simp only [go_sem]
 refine brK_dec (fun hlt => ?_) (fun hge => ?_)
 ·
  simp only [go_sem]
  refine elemMap (by omega) (by omega) (fun d hd => ?_)
  have hM2 := open_free hM (by simpa using hd)
  simp only [go_sem]
  refine drawZ mo (by kernel_rfl) rfl ?_
  simp only [List.dropLast_cons_cons,List.dropLast_singleton,List.getLast_cons_cons,List.getLast_singleton]
  simp only [go_sem]
  exact loopFr _ (by omega) ⟨i + 1,_,_,_,by omega,rfl,hM2,rfl,rfl⟩ (.next rfl (by omega) .nil) rfl
 ·
  rw [List.take_of_length_le (by omega)] at hM
  simp only [go_sem]
  refine node87 hj (fun r3 => ?_)
  simp only [go_sem]
  simp only [DNode.enc_eq]
  simp only [go_sem]
  intro _
  refine loop_fr [9,39,40,41,42,43,44,45,46,47,48,49] (fun m C hh => ∃ (i c': Nat) (f': Value → Option AV) (r': List Blk),i ≤ n.Ins.length ∧ m = n.Ins.length - i ∧ MapN f' (gOpen (n.Ins.take i) W) ∧ C = [(39,.raw (.int .i64 (i: Nat)))] ∧ hh = HS A p (j: Int) c' f' r') n.Ins.length _ ⟨0,_,_,_,by omega,by omega,hM,rfl,rfl⟩ (.cons rfl .nil) ?_
  rintro m C jd hh ⟨i2,c2,f2,r4,hi2,rfl,hM2,rfl,rfl⟩
  simp only [go_sem]
  refine brK_dec (fun hlt2 => ?_) (fun hge2 => ?_)
  ·
   simp only [go_sem]
   refine elemMap (by omega) (by omega) (fun d hd => ?_)
   have hM3 := open_in hM2 (by simpa using hd)
   simp only [go_sem]
   refine drawZ mo (by kernel_rfl) rfl ?_
   simp only [List.dropLast_cons_cons,List.dropLast_singleton,List.getLast_cons_cons,List.getLast_singleton]
   simp only [go_sem]
   exact loopFr _ (by omega) ⟨i2 + 1,_,_,_,by omega,rfl,hM3,rfl,rfl⟩ (.next rfl (by omega) .nil) rfl
  ·
   rw [List.take_of_length_le (by omega)] at hM2
   simp only [go_sem]
   exact finK (r := .ptr (A.length + 1) 0) rfl (hK A c2 f2 r4 hA (hM2.cast (fun s => by rw [← hW]; exact gOpen_end n s)))
theorem scopeCheck (p: DProg) (hp: okProg p): PCall Tryz.prog 155 [p.enc] (scopeF p).enc := by
 refine pcall_of_vc tabOK Tryz.func155 (by kernel_rfl) rfl (by first | exact pureL | exact pureI) (by first | exact pureL | exact pureI) (n := 28) rfl (rs := [.cell 2 61]) rfl ?_
 have hp6 := hp.2.1
 unfold scopeF
 simp only [go_sem]
 refine PCall.call (checkP p hp) ?_
 generalize checkF p = e
 simp only [go_sem]
 refine brK_dec (fun h0 => ?_) (fun h0 => ?_)
 ·
  rw [if_neg h0,DFault.enc_eq]
  simp only [go_sem]
  exact ⟨_,rfl,false,.refl _⟩
 rw [if_pos (by simpa using h0)]
 simp only [go_sem]
 intro _
 generalize hE: nodesFault p 0 p.Nodes = E
 refine loop_frX [4,5,15,16,17,18,19,20,21,22,23,24,25,26] (fun m C => ∃ i: Nat,i ≤ p.Nodes.length ∧ m = p.Nodes.length - i ∧ nodesFault p i (p.Nodes.drop i) = E ∧ C = [(15,.raw (.int .i64 (i: Nat)))]) p.Nodes.length _ ⟨0,by omega,by omega,hE,rfl⟩ (.cons rfl .nil) ?_
 rintro m C ja r ⟨i,hi,rfl,hE',rfl⟩
 simp only [go_sem]
 refine brK_dec (fun hlt => ?_) (fun hge => ?_)
 ·
  obtain ⟨n,hj⟩: ∃ n,p.Nodes[i]? = some n := ⟨_,List.getElem?_eq_getElem (by omega)⟩
  have hn := hp.2.2 n (List.mem_of_getElem? hj)
  simp only [go_sem]
  refine open48 hj hn (fun A c f r1 hA hM => ?_)
  simp only [go_sem]
  refine check49 hj hn hM (fun c' f' r2 => ?_)
  subst hA
  by_cases hF: (nodeFault p (i: Int) n).Err = 0
  ·
   have hE1 := nodes_next hE' (by simpa using hj) hF
   have hz := nodeFault_zero hF
   rw [hz,DFault.enc_eq]
   simp only [go_sem]
   exact loopFrX _ (by omega) _ ⟨i + 1,by omega,rfl,hE1,rfl⟩ (.next rfl (by omega) .nil) rfl (by first | rfl | (simp only [List.append_assoc,List.cons_append,List.nil_append]; rfl))
  ·
   have hE1 := nodes_at hE' (by simpa using hj) hF
   rw [hE1]
   generalize nodeFault p (i: Int) n = F at hF
   rw [DFault.enc_eq]
   simp only [go_sem]
   refine brK_dec (fun _ => ?_) (fun hq => absurd hF hq)
   simp only [go_sem]
   exact ⟨_,rfl,false,by rw [DFault.enc_eq]; exact .refl _⟩
 ·
  have h0 := nodes_0 hE' (by omega)
  subst h0
  rw [DFault.enc_eq]
  simp only [go_sem]
  exact ⟨_,rfl,false,.refl _⟩
theorem allVn {n: DNode} (h: okNode n): (allV n).length ≤ 60 := by
 have h1 := h.1.1
 have h2 := h.2.1.1
 have h3 := h.2.2.1.1
 simp [allV]
 omega
theorem map_app (l m: List ByteArray): l.map AV.s ++ m.map AV.s = (l ++ m).map AV.s := by simp
def okAB (i: Nat) (a b: List ByteArray): Prop := a.length ≤ i ∧ b.length ≤ 12 * i ∧ ∀ s ∈ b,s.size ≤ 100
theorem okAB.zero: okAB 0 [] [] := ⟨by simp,by simp,by simp⟩
theorem okAB.next {l: List DEnum} {i: Nat} {a b: List ByteArray} {x: DEnum} (h: okAB i a b) (hl: okEnums l) (hx: l[((i: Nat): Int).toNat]? = some x): okAB (i + 1) (a ++ [x.Name]) (b ++ x.Ctors) := by
 have hm := hl.2 x (List.mem_of_getElem? hx)
 have h1 := hm.1
 refine ⟨by have := h.1; simp; omega,by have := h.2.1; simp; omega,fun s hs => ?_⟩
 rcases List.mem_append.1 hs with q | q
 ·
  exact h.2.2 s q
 ·
  exact hm.2.2 s q
theorem nm_next {l: List DDecl} {i: Nat} {a: List ByteArray} {x: DDecl} (h: a = (l.take i).map DDecl.Name ∧ a.length ≤ i) (hx: l[((i: Nat): Int).toNat]? = some x): a ++ [x.Name] = (l.take (i + 1)).map DDecl.Name ∧ (a ++ [x.Name]).length ≤ i + 1 :=
 ⟨by rw [take_mapS hx,h.1],by have := h.2; simp; omega⟩
theorem names83 (l: List DDecl) (hl: l.length ≤ 100000): PCall Tryz.prog 232 [.lst 6 (l.map DDecl.enc) none] (.lst 1 ((l.map DDecl.Name).map AV.s) none) := by
 refine pcall_of_vc tabOK Tryz.func232 (by kernel_rfl) rfl pureL pureI (n := 21) rfl (rs := [.tmp 2]) rfl ?_
 repeat' first
  | exact finB rfl
  | exact finI rfl
  | exact finP rfl
  | exact absurd rfl (by assumption)
  | simp only [go_sem]
  | (intro _)
  | refine brK_dec (fun _ => ?_) (fun _ => ?_)
  | refine brK_any ?_ ?_
  | refine gK_dec (fun _ => ?_) (fun _ => ?_)
  | refine gK_any ?_ ?_
  | refine gqK_dec (fun _ => ?_) (fun _ => ?_)
  | refine ⟨by omega,?_⟩
  | refine elemHave (by omega) (by assumption) ?_
  | refine elemMap (by omega) (by omega) (fun x hx => ?_)
  | refine drawK mo (by kernel_rfl) ?_
  | (simp only [map_snoc])
  | (refine ⟨by have := hpi.2; first | omega | (simp; omega),?_⟩)
  | (rw [show l.map DDecl.Name = a by rw [hpi.1,List.take_of_length_le (by omega)]]; exact ⟨_,rfl,false,.tok _ _ _⟩)
  | exact loopFr _ (by omega) ⟨i + 1,a ++ [x.Name],_,by omega,rfl,nm_next hpi hx,rfl,(by first | rfl | (simp; done) | (simp; rfl))⟩ (.next rfl (by omega) (.cons (by first | rfl | (simp; done) | (simp; rfl)) .nil)) rfl
  | (refine loop_fr [3,4,6,7,8,9,10,11,12,13,14,15,16,17,18,19] (fun mm_ CC_ hh_ => ∃ (i: Nat) (a: List ByteArray) (r_: List Blk),i ≤ l.length ∧ mm_ = l.length - i ∧ ((a = (l.take i).map DDecl.Name ∧ a.length ≤ i)) ∧ CC_ = [(4,.raw (.int .i64 ((i: Nat): Int))),(3,.lst 1 (a.map AV.s) (some 0))] ∧ hh_ = .tok 9 1 a.length :: r_) (l.length) _ ⟨0,[],_,by omega,by omega,⟨by simp,by simp⟩,rfl,(by first | rfl | (simp; done) | (simp; rfl))⟩ (.cons (by first | rfl | (simp; done) | (simp; rfl)) (.cons (by first | rfl | (simp; done) | (simp; rfl)) .nil)) ?_; rintro mm_ CC_ ji hh_ ⟨i,a,ri,hi,rfl,hpi,rfl,rfl⟩)
abbrev progBc (p: DProg): Blk := .cells 25 [.lst 2 (p.Enums.map DEnum.enc) none,.lst 5 (p.Nodes.map DNode.enc) none]
theorem rightTyX (l: List DEnum) (t: DTy): PCall Tryz.prog 310 [.lst 2 (l.map DEnum.enc) none,t.enc] (.b (rightTyF l.length t)) := by
 refine pcall_of_vc tabOK Tryz.func310 (by kernel_rfl) rfl pureL pureI (n := 39) rfl (rs := [.tmp 4]) rfl ?_
 repeat' first
  | exact finB rfl
  | exact finI rfl
  | exact finP rfl
  | exact absurd rfl (by assumption)
  | simp only [go_sem]
  | (intro _)
  | refine brK_dec (fun _ => ?_) (fun _ => ?_)
  | refine brK_any ?_ ?_
  | refine gK_dec (fun _ => ?_) (fun _ => ?_)
  | refine gK_any ?_ ?_
  | refine gqK_dec (fun _ => ?_) (fun _ => ?_)
  | refine ⟨by omega,?_⟩
  | refine elemHave (by omega) (by assumption) ?_
  | refine elemMap (by omega) (by omega) (fun x hx => ?_)
  | refine drawK mo (by kernel_rfl) ?_
  | (exfalso; omega)
  | (refine finBq rfl ?_; unfold rightTyF; exact (decide_eq_true (by omega)).symm)
  | (refine finBq rfl ?_; unfold rightTyF; exact (decide_eq_false (by omega)).symm)
  | (refine finBq rfl ?_; unfold rightTyF; exact decide_eq_decide.2 (by omega))
theorem armX (s: ByteArray): PCall Tryz.prog 311 [.s s] (.b (armE s)) := by
 refine pcall_of_vc tabOK Tryz.func311 (by kernel_rfl) rfl pureL pureI (n := 13) rfl (rs := [.tmp 2]) rfl ?_
 unfold armE
 repeat' first
  | exact finB rfl
  | exact finI rfl
  | exact finP rfl
  | exact absurd rfl (by assumption)
  | simp only [go_sem]
  | (intro _)
  | refine brK_dec (fun _ => ?_) (fun _ => ?_)
  | refine brK_split (fun hb_ => ?_) (fun hb_ => ?_)
  | refine gK_dec (fun _ => ?_) (fun _ => ?_)
  | refine gK_split (fun hb_ => ?_) (fun hb_ => ?_)
  | refine gqK_dec (fun _ => ?_) (fun _ => ?_)
  | refine ⟨by omega,?_⟩
  | refine elemHave (by omega) (by assumption) ?_
  | refine elemMap (by omega) (by omega) (fun x hx => ?_)
  | refine drawK mo (by kernel_rfl) ?_
  | (refine PCall.call (high_x s) ?_; generalize highF s = q; cases q)
  | (exact finBq rfl (by simp [*]))
theorem declX (l: List DEnum) (d: DDecl): PCall Tryz.prog 280 [.lst 2 (l.map DEnum.enc) none,d.enc] (.b (declaredF l.length d)) := by
 refine pcall_of_vc tabOK Tryz.func280 (by kernel_rfl) rfl pureL pureI (n := 34) rfl (rs := [.tmp 4]) rfl ?_
 repeat' first
  | exact finB rfl
  | exact finI rfl
  | exact finP rfl
  | exact absurd rfl (by assumption)
  | simp only [go_sem]
  | (intro _)
  | refine brK_dec (fun _ => ?_) (fun _ => ?_)
  | refine brK_split (fun hb_ => ?_) (fun hb_ => ?_)
  | refine gK_dec (fun _ => ?_) (fun _ => ?_)
  | refine gK_split (fun hb_ => ?_) (fun hb_ => ?_)
  | refine gqK_dec (fun _ => ?_) (fun _ => ?_)
  | refine ⟨by omega,?_⟩
  | refine elemHave (by omega) (by assumption) ?_
  | refine elemMap (by omega) (by omega) (fun x hx => ?_)
  | refine drawK mo (by kernel_rfl) ?_
  | (refine PCall.call (low_x d.Name) ?_; generalize h1: lowF d.Name = q; cases q)
  | (refine PCall.call (low_x d.On) ?_; generalize h2: lowF d.On = q; cases q)
  | (refine PCall.call (rightTyX l d.Ty) ?_; generalize h3: rightTyF l.length d.Ty = q; cases q)
  | (refine PCall.call (armX d.Ctor) ?_; generalize h4: armE d.Ctor = q; cases q)
  | (refine finBq rfl ?_; first | (simp only [declaredF,bareF,h1,h2,h3,h4]; simp [*]; done) | (simp only [declaredF,bareF,h1,h2,h3]; simp [*]; done) | (simp only [declaredF,bareF,h1,h3]; simp [*]; done) | (simp only [declaredF,bareF,h1]; simp [*]; done))
theorem eqX (q: DEq) (hq: okEq q): PCall Tryz.prog 281 [q.enc] (.b (eqF q)) := by
 refine pcall_of_vc tabOK Tryz.func281 (by kernel_rfl) rfl pureL pureI (n := 39) rfl (rs := [.tmp 2]) rfl ?_
 repeat' first
  | exact finB rfl
  | exact finI rfl
  | exact finP rfl
  | exact absurd rfl (by assumption)
  | simp only [go_sem]
  | (intro _)
  | refine brK_dec (fun _ => ?_) (fun _ => ?_)
  | refine brK_split (fun hb_ => ?_) (fun hb_ => ?_)
  | refine gK_dec (fun _ => ?_) (fun _ => ?_)
  | refine gK_split (fun hb_ => ?_) (fun hb_ => ?_)
  | refine gqK_dec (fun _ => ?_) (fun _ => ?_)
  | refine ⟨by omega,?_⟩
  | refine elemHave (by omega) (by assumption) ?_
  | refine elemMap (by omega) (by omega) (fun x hx => ?_)
  | refine drawK mo (by kernel_rfl) ?_
  | (refine PCall.call (low_x x) ?_; generalize hpx: lowF x = b; cases b)
  | (refine PCall.call (right17x _ hq.2.1) ?_; generalize hrx: rightE q.E = b; cases b)
  | (refine finBq rfl ?_; unfold eqF; rw [List.all_eq_false.2 ⟨x,List.mem_of_getElem? hx,by simp [hpx]⟩]; simp; done)
  | (have hall := List.all_eq_true.2 (take_full hpi (by omega)); refine finBq rfl ?_; unfold eqF; rw [hall]; (try rw [decide_eq_true (p := 0 < q.Names.length) (by omega)]); (try rw [decide_eq_false (p := 0 < q.Names.length) (by omega)]); (try rw [decide_eq_true (p := q.Names.length ≤ 1) (by omega)]); (try rw [decide_eq_false (p := q.Names.length ≤ 1) (by omega)]); simp [*]; done)
  | exact loopFrH _ (by omega) ⟨i + 1,by omega,rfl,take_all hpi (by simpa using hx) hpx,rfl⟩ (.next rfl (by omega) .nil) rfl
  | (refine loop_frH [2,3,4,5,6,7,8,9,10,11,12,13,14,15,16,17] (fun mm_ CC_ => ∃ (i: Nat),i ≤ q.Names.length ∧ mm_ = q.Names.length - i ∧ (∀ s ∈ q.Names.take i,lowF s = true) ∧ CC_ = [(3,.raw (.int .i64 ((i: Nat): Int)))]) (q.Names.length) _ ⟨0,by omega,by omega,by simp,rfl⟩ (.cons rfl .nil) ?_; rintro mm_ CC_ ji ⟨i,hi,rfl,hpi,rfl⟩)
theorem nodeX (l: List DEnum) (n: DNode) (hn: okNode n): PCall Tryz.prog 230 [.lst 2 (l.map DEnum.enc) none,n.enc] (.b (nodeF l.length n)) := by
 refine pcall_of_vc tabOK Tryz.func230 (by kernel_rfl) rfl pureL pureI (n := 65) rfl (rs := [.tmp 4]) rfl ?_
 have hal := allVn hn
 have h1 := hn.1.1
 have h2 := hn.2.1.1
 have hw: IntKind.i64.wrap ((n.Ins.length: Int) + (n.Outs.length: Int)) = (n.Ins.length: Int) + (n.Outs.length: Int) := wrap_in _ (by omega) (by omega)
 repeat' first
  | exact finB rfl
  | exact finI rfl
  | exact finP rfl
  | exact absurd rfl (by assumption)
  | simp only [go_sem]
  | (intro _)
  | refine brK_dec (fun _ => ?_) (fun _ => ?_)
  | refine brK_split (fun hb_ => ?_) (fun hb_ => ?_)
  | refine gK_dec (fun _ => ?_) (fun _ => ?_)
  | refine gK_split (fun hb_ => ?_) (fun hb_ => ?_)
  | refine gqK_dec (fun _ => ?_) (fun _ => ?_)
  | refine ⟨by omega,?_⟩
  | refine elemHave (by omega) (by assumption) ?_
  | refine elemMap (by omega) (by omega) (fun x hx => ?_)
  | refine drawK mo (by kernel_rfl) ?_
  | (refine PCall.call (all66 n (by omega)) ?_)
  | (refine PCall.call (declX l x) ?_; generalize hdx: declaredF l.length x = b; cases b)
  | (refine PCall.call (eqX x (hn.2.2.2.2.2 _ (List.mem_of_getElem? hx))) ?_; generalize hqx: eqF x = b; cases b)
  | (refine PCall.call (low_x n.Name) ?_; generalize hlx: lowF n.Name = b; cases b)
  | (refine finBq rfl ?_; rw [node_no hx hdx]; done)
  | (refine finBq rfl ?_; rw [node_no2 (bare_no hx (by omega) (by assumption))]; done)
  | (refine finBq rfl ?_; rw [node_no3 hx hqx]; done)
  | (refine finBq rfl ?_; rw [node_yes hpi.1 (by omega) (bare_yes hpi.2 (by omega)) hpj (by omega),hlx]; first | rfl | (simp; done) | (simp; omega))
  | exact loopFrH _ (by omega) ⟨i + 1,by omega,rfl,⟨take_all hpi.1 (by simpa using hx) hdx,bare_next hpi.2 hx (fun hlt => by first | assumption | omega | exact Classical.not_not.1 (by assumption))⟩,rfl⟩ (.next rfl (by omega) .nil) rfl
  | (refine loop_frH [4,6,10,11,12,13,14,15,16,17,18,19,20,21,22,23,24,25,26,27,28,29,30,31,32,33,34,35,36,37,38,39,40,41] (fun mm_ CC_ => ∃ (i: Nat),i ≤ (allV n).length ∧ mm_ = (allV n).length - i ∧ ((∀ d ∈ (allV n).take i,declaredF l.length d = true) ∧ (∀ d ∈ (n.Ins ++ n.Outs).take i,decide (d.On = ⟨#[]⟩) = true)) ∧ CC_ = [(6,.raw (.int .i64 ((i: Nat): Int)))]) ((allV n).length) _ ⟨0,by omega,by omega,⟨by simp,by simp⟩,rfl⟩ (.cons rfl .nil) ?_; rintro mm_ CC_ ji ⟨i,hi,rfl,hpi,rfl⟩)
  | exact loopFrH _ (by omega) ⟨j + 1,by omega,rfl,take_all hpj (by simpa using hx) hqx,rfl⟩ (.next rfl (by omega) .nil) rfl
  | (refine loop_frH [4,7,42,43,44,45,46,47,48,49,50,51,52,53,54,55] (fun mm_ CC_ => ∃ (j: Nat),j ≤ n.Eqs.length ∧ mm_ = n.Eqs.length - j ∧ (∀ q ∈ n.Eqs.take j,eqF q = true) ∧ CC_ = [(7,.raw (.int .i64 ((j: Nat): Int)))]) (n.Eqs.length) _ ⟨0,by omega,by omega,by simp,rfl⟩ (.cons rfl .nil) ?_; rintro mm_ CC_ jj ⟨j,hj,rfl,hpj,rfl⟩)
def okAX (l: List DEnum) (i: Nat) (a b: List ByteArray): Prop := okAB i a b ∧ a = (l.take i).map DEnum.Name ∧ b = (l.take i).flatMap DEnum.Ctors ∧ ∀ e ∈ l.take i,e.Ctors.length ≤ 6
theorem okAX.zero {l: List DEnum}: okAX l 0 [] [] := ⟨.zero,by simp,by simp,by simp⟩
theorem okAX.next {l: List DEnum} {i: Nat} {a b: List ByteArray} {x: DEnum} (h: okAX l i a b) (hl: okEnums l) (hx: l[((i: Nat): Int).toNat]? = some x) (h6: x.Ctors.length ≤ 6): okAX l (i + 1) (a ++ [x.Name]) (b ++ x.Ctors) :=
 ⟨h.1.next hl hx,by rw [take_mapS hx,h.2.1],by rw [flatMap_next _ (by simpa using hx),h.2.2.1],take_all h.2.2.2 (by simpa using hx) h6⟩
theorem en_ok {e: DEnum} (h: lowF e.Name = true) (h2: 0 < e.Ctors.length): (lowF e.Name && decide (0 < e.Ctors.length)) = true := by simp [h,h2]
theorem en_bad {e: DEnum} {b: Bool} (h: lowF e.Name = b) (h2: ¬ 0 < e.Ctors.length): (lowF e.Name && decide (0 < e.Ctors.length)) = false := by rw [decide_eq_false h2,Bool.and_false]
theorem en_bad0 {e: DEnum} (h: lowF e.Name = false): (lowF e.Name && decide (0 < e.Ctors.length)) = false := by rw [h,Bool.false_and]
theorem enumsX (l: List DEnum) (hl: okEnums l): PCall Tryz.prog 229 [.lst 2 (l.map DEnum.enc) none] (.i (enumsF l)) := by
 refine pcall_of_vc tabOK Tryz.func229 (by kernel_rfl) rfl pureL pureI (n := 83) rfl (rs := [.tmp 2]) rfl ?_
 have hl8 := hl.1
 repeat' first
  | exact finB rfl
  | exact finI rfl
  | exact finP rfl
  | exact absurd rfl (by assumption)
  | simp only [go_sem]
  | (intro _)
  | refine brK_dec (fun _ => ?_) (fun _ => ?_)
  | refine brK_split (fun hb_ => ?_) (fun hb_ => ?_)
  | refine gK_dec (fun _ => ?_) (fun _ => ?_)
  | refine gK_split (fun hb_ => ?_) (fun hb_ => ?_)
  | refine gqK_dec (fun _ => ?_) (fun _ => ?_)
  | refine ⟨by omega,?_⟩
  | refine elemHave (by omega) (by assumption) ?_
  | refine elemMap (by omega) (by omega) (fun x hx => ?_)
  | refine drawK mo (by kernel_rfl) ?_
  | (simp only [map_snoc])
  | (simp only [map_app])
  | (refine ⟨by have h8 := hpi.1.1; have h9 := hpi.1.2.1; have h7 := (hl.2 _ (List.mem_of_getElem? hx)).1; first | omega | (simp; omega),?_⟩)
  | ((fail_if_success (clear hax)); have hax: a = l.map DEnum.Name := (by rw [hpi.2.1,List.take_of_length_le (by omega)]; done); have hbx: b = l.flatMap DEnum.Ctors := (by rw [hpi.2.2.1,List.take_of_length_le (by omega)]; done); have hgx: greatE l = false := en_small (by omega) hpi.2.2.2 (by omega); subst hax hbx)
  | (refine PCall.call (low_x x.Name) ?_; generalize hlx: lowF x.Name = q; cases q)
  | (refine PCall.call (high_x x) ?_; generalize hhx: highF x = q; cases q)
  | (refine PCall.callW (once_x (l.map DEnum.Name)) ⟨.tok _ _ _,trivial⟩ ?_; generalize ho1: onceB (l.map DEnum.Name) = q; cases q)
  | (refine PCall.callW (once_x (l.flatMap DEnum.Ctors)) ⟨.tok _ _ _,trivial⟩ ?_; generalize ho2: onceB (l.flatMap DEnum.Ctors) = q; cases q)
  | (refine finIq rfl ?_; rw [en_many (en_great1 (by omega))]; done)
  | (refine finIq rfl ?_; rw [en_many (en_great2 hx (by omega))]; done)
  | (refine finIq rfl ?_; rw [en_arg1 hgx hx (en_bad0 hlx)]; done)
  | (refine finIq rfl ?_; rw [en_arg1 hgx hx (en_bad hlx (by omega))]; done)
  | (refine finIq rfl ?_; rw [en_arg2 hgx hx hhx]; done)
  | (refine finIq rfl ?_; rw [en_end hgx hpj (by omega) hpk (by omega)]; simp [*]; done)
  | exact loopFr _ (by omega) ⟨i + 1,a ++ [x.Name],b ++ x.Ctors,_,by omega,rfl,hpi.next hl hx (by omega),rfl,(by first | rfl | (simp; done) | (simp; rfl))⟩ (.next rfl (by omega) (.cons (by first | rfl | (simp; done) | (simp; rfl)) (.cons (by first | rfl | (simp; done) | (simp; rfl)) .nil))) rfl
  | (refine loop_fr [2,3,4,5,13,14,15,16,17,18,19,20,21,22,23,24,25,26,27,28,29,30,31,32,33,34,35,36,37,38,39,40] (fun mm_ CC_ hh_ => ∃ (i: Nat) (a: List ByteArray) (b: List ByteArray) (r_: List Blk),i ≤ l.length ∧ mm_ = l.length - i ∧ (okAX l i a b) ∧ CC_ = [(5,.raw (.int .i64 ((i: Nat): Int))),(3,.lst 1 (a.map AV.s) (some 0)),(4,.lst 1 (b.map AV.s) (some 1))] ∧ hh_ = .tok 9 1 a.length :: .tok 9 1 b.length :: r_) (l.length) _ ⟨0,[],[],_,by omega,by omega,.zero,rfl,(by first | rfl | (simp; done) | (simp; rfl))⟩ (.cons (by first | rfl | (simp; done) | (simp; rfl)) (.cons (by first | rfl | (simp; done) | (simp; rfl)) (.cons (by first | rfl | (simp; done) | (simp; rfl)) .nil))) ?_; rintro mm_ CC_ ji hh_ ⟨i,a,b,ri,hi,rfl,hpi,rfl,rfl⟩)
  | exact loopFrH _ (by omega) ⟨j + 1,by omega,rfl,take_all hpj (by simpa using hx) (en_ok hlx (by omega)),rfl⟩ (.next rfl (by omega) .nil) rfl
  | (refine loop_frH [2,6,41,42,43,44,45,46,47,48,49,50,51,52,53,54,55,56,57,58,59,60,61,62] (fun mm_ CC_ => ∃ (j: Nat),j ≤ l.length ∧ mm_ = l.length - j ∧ (∀ e ∈ l.take j,(lowF e.Name && decide (0 < e.Ctors.length)) = true) ∧ CC_ = [(6,.raw (.int .i64 ((j: Nat): Int)))]) (l.length) _ ⟨0,by omega,by omega,by simp,rfl⟩ (.cons rfl .nil) ?_; rintro mm_ CC_ jj ⟨j,hj,rfl,hpj,rfl⟩)
  | exact loopFrH _ (by omega) ⟨k + 1,by omega,rfl,take_all hpk (by simpa using hx) hhx,rfl⟩ (.next rfl (by omega) .nil) rfl
  | (refine loop_frH [2,7,63,64,65,66,67,68,69,70,71,72,73,74] (fun mm_ CC_ => ∃ (k: Nat),k ≤ (l.flatMap DEnum.Ctors).length ∧ mm_ = (l.flatMap DEnum.Ctors).length - k ∧ (∀ c ∈ (l.flatMap DEnum.Ctors).take k,highF c = true) ∧ CC_ = [(7,.raw (.int .i64 ((k: Nat): Int)))]) ((l.flatMap DEnum.Ctors).length) _ ⟨0,by omega,by omega,by simp,rfl⟩ (.cons rfl .nil) ?_; rintro mm_ CC_ jk ⟨k,hk,rfl,hpk,rfl⟩)
end Go.Proofs.YtpamokpmlplopaaGreatDoor
namespace Go.Proofs.YtpamokpmlplopaaGreatDoor
open Go.Abs
set_option maxRecDepth 20000
set_option linter.unusedSimpArgs false
set_option linter.unusedVariables false
set_option maxHeartbeats 1000000
attribute [local irreducible] vc vcOps vcStep vcGuard prK hrK gK gsK brK callK ElemK SeqK BlockK ScopeK OpsK CallK LoopK LoopGo finPost ACall PCall PCallE BCall vqOps vqStep vqGuard qrK heK pcK gqK gqsK QOpsK qcallK DrawK
theorem okN_lenX {n: DNode} (h: okNode n): (allV n).length ≤ 60 := by
 have h1 := h.1.1
 have h2 := h.2.1.1
 have h3 := h.2.2.1.1
 simp [allV]
 omega
def chkX (p: DProg) (i: Nat) (a: List ByteArray) (u v: Bool): Prop := a = (p.Nodes.take i).map DNode.Name ∧ u = (p.Nodes.take i).all (nodeF p.Enums.length) ∧ v = (p.Nodes.take i).all onceN ∧ ∀ n ∈ p.Nodes.take i,greatF n = false
theorem chkX.zero {p: DProg}: chkX p 0 [] true true := ⟨by simp,by simp,by simp,by simp⟩
theorem chkX.next {p: DProg} {i: Nat} {a: List ByteArray} {u v u' v': Bool} {n: DNode} (h: chkX p i a u v) (hx: p.Nodes[((i: Nat): Int).toNat]? = some n) (hg: greatF n = false) (hu: u' = (u && nodeF p.Enums.length n)) (hv: v' = (v && onceN n)): chkX p (i + 1) (a ++ [n.Name]) u' v' :=
 ⟨by rw [take_mapS hx,h.1],by rw [hu,all_nextZ _ hx,h.2.1],by rw [hv,all_nextZ _ hx,h.2.2.1],take_all h.2.2.2 (by simpa using hx) hg⟩
theorem chk_some {p: DProg} {i: Nat} {n: DNode} (hx: p.Nodes[((i: Nat): Int).toNat]? = some n) (hg: greatF n = true): p.Nodes.any greatF = true := List.any_eq_true.2 ⟨n,List.mem_of_getElem? hx,hg⟩
theorem chk_none {p: DProg} {i: Nat} {a: List ByteArray} {u v: Bool} (h: chkX p i a u v) (hi: p.Nodes.length ≤ i): p.Nodes.any greatF = false ∧ p.Nodes.all (nodeF p.Enums.length) = u ∧ p.Nodes.all onceN = v ∧ p.Nodes.map DNode.Name = a := by
 obtain ⟨h1,h2,h3,h4⟩ := h
 have e: p.Nodes.take i = p.Nodes := List.take_of_length_le hi
 rw [e] at h1 h2 h3 h4
 refine ⟨?_,h2.symm,h3.symm,h1.symm⟩
 rw [List.any_eq_false]
 intro n hn
 rw [h4 n hn]; simp
theorem great_no {n: DNode} (h1: ¬ ((n.Ins.length: Int) > 6)) (h2: ¬ ((n.Outs.length: Int) > 6)) (h3: ¬ ((n.Vars.length: Int) > 12)) (h4: ¬ ((n.Eqs.length: Int) > 18)): greatF n = false := by
 unfold greatF
 rw [decide_eq_false (by omega),decide_eq_false (by omega),decide_eq_false (by omega),decide_eq_false (by omega)]
 rfl
theorem great_yes {n: DNode} (h: (n.Ins.length: Int) > 6 ∨ (n.Outs.length: Int) > 6 ∨ (n.Vars.length: Int) > 12 ∨ (n.Eqs.length: Int) > 18): greatF n = true := by
 unfold greatF
 simp only [Bool.or_eq_true,decide_eq_true_eq]
 omega
theorem onceX (x: DNode): PCall Tryz.prog 231 [.lst 1 (((allV x).map DDecl.Name).map AV.s) none] (.b (onceN x)) := once_x _
noncomputable def checkG (p: DProg) (en: Int): Int :=
 if ¬ en = 0 then en
 else if p.Nodes.length = 0 then 5
 else if (decide (p.Nodes.length > 6) || p.Nodes.any greatF) = true then 4
 else if p.Nodes.all (nodeF p.Enums.length) = true then (if (p.Nodes.all onceN && onceB (p.Nodes.map DNode.Name)) = true then 0 else 6) else 1
theorem checkG_eq (p: DProg): checkF p = checkG p (enumsF p.Enums) := rfl
section
variable {p: DProg} {en: Int}
theorem cg_en (h: en ≠ 0): checkG p en = en := by unfold checkG; rw [if_pos h]
theorem cg_none (h: ¬ en ≠ 0) (h1: (p.Nodes.length: Int) = 0): checkG p en = 5 := by unfold checkG; rw [if_neg h,if_pos (by omega)]
theorem cg_many1 (h: ¬ en ≠ 0) (h1: ¬ (p.Nodes.length: Int) = 0) (h2: (p.Nodes.length: Int) > 6): checkG p en = 4 := by unfold checkG; rw [if_neg h,if_neg (by omega),decide_eq_true (by omega)]; simp
theorem cg_many2 (h: ¬ en ≠ 0) (h1: ¬ (p.Nodes.length: Int) = 0) (h2: p.Nodes.any greatF = true): checkG p en = 4 := by unfold checkG; rw [if_neg h,if_neg (by omega),h2]; simp
theorem cg_arg (h: ¬ en ≠ 0) (h1: ¬ (p.Nodes.length: Int) = 0) (h2: ¬ (p.Nodes.length: Int) > 6) {u v: Bool} (f1: p.Nodes.any greatF = false) (f2: p.Nodes.all (nodeF p.Enums.length) = u) (f3: p.Nodes.all onceN = v) (hu: (!u) = true): checkG p en = 1 := by
 unfold checkG; rw [if_neg h,if_neg (by omega),decide_eq_false (by omega),f1,f2,f3]; simp at hu; simp [hu]
theorem cg_there1 (h: ¬ en ≠ 0) (h1: ¬ (p.Nodes.length: Int) = 0) (h2: ¬ (p.Nodes.length: Int) > 6) {u v: Bool} (f1: p.Nodes.any greatF = false) (f2: p.Nodes.all (nodeF p.Enums.length) = u) (f3: p.Nodes.all onceN = v) (hu: ¬ (!u) = true) (hv: (!v) = true): checkG p en = 6 := by
 unfold checkG; rw [if_neg h,if_neg (by omega),decide_eq_false (by omega),f1,f2,f3]; simp at hu hv; simp [hu,hv]
theorem cg_there2 (h: ¬ en ≠ 0) (h1: ¬ (p.Nodes.length: Int) = 0) (h2: ¬ (p.Nodes.length: Int) > 6) {u v: Bool} (f1: p.Nodes.any greatF = false) (f2: p.Nodes.all (nodeF p.Enums.length) = u) (f3: p.Nodes.all onceN = v) (hu: ¬ (!u) = true) (hv: ¬ (!v) = true) (hw: onceB (p.Nodes.map DNode.Name) = false): checkG p en = 6 := by
 unfold checkG; rw [if_neg h,if_neg (by omega),decide_eq_false (by omega),f1,f2,f3]; simp at hu hv; simp [hu,hv,hw]
theorem cg_ok (h: ¬ en ≠ 0) (h1: ¬ (p.Nodes.length: Int) = 0) (h2: ¬ (p.Nodes.length: Int) > 6) {u v: Bool} (f1: p.Nodes.any greatF = false) (f2: p.Nodes.all (nodeF p.Enums.length) = u) (f3: p.Nodes.all onceN = v) (hu: ¬ (!u) = true) (hv: ¬ (!v) = true) (hw: onceB (p.Nodes.map DNode.Name) = true): checkG p en = 0 := by
 unfold checkG; rw [if_neg h,if_neg (by omega),decide_eq_false (by omega),f1,f2,f3]; simp at hu hv; simp [hu,hv,hw]
end
theorem checkX (p: DProg) (hp: okProg p): PCall Tryz.prog 189 [p.enc] (.i (checkF p)) := by
 refine pcall_of_vc tabOK Tryz.func189 (by kernel_rfl) rfl pureL pureI (n := 86) rfl (rs := [.tmp 2]) rfl ?_
 have hpn := hp.2.1
 rw [checkG_eq]
 repeat' first
  | exact finB rfl
  | exact finI rfl
  | exact finP rfl
  | exact absurd rfl (by assumption)
  | simp only [go_sem]
  | (intro _)
  | refine brK_dec (fun _ => ?_) (fun _ => ?_)
  | refine brK_split (fun hb_ => ?_) (fun hb_ => ?_)
  | refine gK_dec (fun _ => ?_) (fun _ => ?_)
  | refine gK_split (fun hb_ => ?_) (fun hb_ => ?_)
  | refine gqK_dec (fun _ => ?_) (fun _ => ?_)
  | refine ⟨by omega,?_⟩
  | refine elemHave (by omega) (by assumption) ?_
  | refine elemMap (by omega) (by omega) (fun x hx => ?_)
  | refine drawK mo (by kernel_rfl) ?_
  | (refine PCall.call (enumsX _ hp.1) ?_; generalize enumsF p.Enums = en)
  | (simp only [map_snoc])
  | (refine PCall.call (all66 x (by have := okN_lenX (hp.2.2 _ (List.mem_of_getElem? hx)); omega)) ?_)
  | (refine PCall.call (names83 _ (by have := okN_lenX (hp.2.2 _ (List.mem_of_getElem? hx)); omega)) ?_)
  | (refine PCall.call (nodeX _ x (hp.2.2 _ (List.mem_of_getElem? hx))) ?_; generalize hnx: nodeF p.Enums.length x = b; cases b)
  | (refine PCall.call (onceX x) ?_; generalize hox: onceN x = b; cases b)
  | ((fail_if_success (clear hfin)); have hfin := chk_none hpi.2 (by omega); obtain ⟨f1,f2,f3,f4⟩ := hfin; have hfin := f1; subst f4)
  | (refine PCall.callW (once_x (p.Nodes.map DNode.Name)) ⟨.tok _ _ _,trivial⟩ ?_; generalize hwx: onceB (p.Nodes.map DNode.Name) = b; cases b)
  | (refine ⟨by first | omega | (simp; omega),?_⟩)
  | (exact finIq rfl (cg_en (p := p) (en := en) (by assumption)).symm)
  | (exact finIq rfl (cg_none (p := p) (en := en) (by assumption) (by assumption)).symm)
  | (exact finIq rfl (cg_many1 (p := p) (en := en) (by assumption) (by assumption) (by assumption)).symm)
  | (have hgr := great_yes (n := x) (by omega); exact finIq rfl (cg_many2 (p := p) (en := en) (by assumption) (by assumption) (chk_some hx hgr)).symm)
  | (refine finIq rfl (cg_arg (p := p) (en := en) (by assumption) (by assumption) (by assumption) f1 f2 f3 ?_).symm; first | assumption | (simp [*]; done))
  | (refine finIq rfl (cg_there1 (p := p) (en := en) (by assumption) (by assumption) (by assumption) f1 f2 f3 ?_ ?_).symm <;> first | assumption | (simp [*]; done))
  | (refine finIq rfl (cg_there2 (p := p) (en := en) (by assumption) (by assumption) (by assumption) f1 f2 f3 ?_ ?_ hwx).symm <;> first | assumption | (simp [*]; done))
  | (refine finIq rfl (cg_ok (p := p) (en := en) (by assumption) (by assumption) (by assumption) f1 f2 f3 ?_ ?_ hwx).symm <;> first | assumption | (simp [*]; done))
  | exact loopFr _ (by omega) ⟨i + 1,a ++ [x.Name],(Bool.and u (nodeF p.Enums.length x)),(Bool.and v (onceN x)),_,by omega,rfl,⟨by have := hpi.1 <;> simp <;> omega,hpi.2.next hx (great_no (by assumption) (by assumption) (by assumption) (by assumption)) rfl rfl⟩,rfl,(by first | rfl | (simp; done) | (simp; rfl) | (simp [*]))⟩ (.next rfl (by omega) (.cons (by first | rfl | (simp; done) | (simp; rfl) | (simp [*])) (.cons (by first | rfl | (simp; done) | (simp; rfl) | (simp [*])) (.cons (by first | rfl | (simp; done) | (simp; rfl) | (simp [*])) .nil)))) rfl
  | (refine loop_fr [2,4,5,6,7,8,24,25,26,27,28,29,30,31,32,33,34,35,36,37,38,39,40,41,42,43,44,45,46,47,48,49,50,51,52,53,54,55,56,57,58,59,60,61,62,63,64,65,66,67,68,69,70,71,72,73,74,75,76] (fun mm_ CC_ hh_ => ∃ (i: Nat) (a: List ByteArray) (u: Bool) (v: Bool) (r_: List Blk),i ≤ p.Nodes.length ∧ mm_ = p.Nodes.length - i ∧ ((a.length ≤ i ∧ chkX p i a u v)) ∧ CC_ = [(7,.raw (.int .i64 ((i: Nat): Int))),(4,.lst 1 (a.map AV.s) (some 1)),(5,.b u),(6,.b v)] ∧ hh_ = progBc p :: .tok 9 1 a.length :: r_) (p.Nodes.length) _ ⟨0,[],_,_,_,by omega,by omega,⟨by simp,chkX.zero⟩,rfl,(by first | rfl | (simp; done) | (simp; rfl))⟩ (.cons (by first | rfl | (simp; done) | (simp; rfl)) (.cons (by first | rfl | (simp; done) | (simp; rfl)) (.cons (by first | rfl | (simp; done) | (simp; rfl)) (.cons (by first | rfl | (simp; done) | (simp; rfl)) .nil)))) ?_; rintro mm_ CC_ ji hh_ ⟨i,a,u,v,ri,hi,rfl,hpi,rfl,rfl⟩)
end Go.Proofs.YtpamokpmlplopaaGreatDoor
namespace Go.Proofs.YtpamokpmlplopaaGreatDoor
open Go.Abs
set_option maxRecDepth 20000
set_option linter.unusedSimpArgs false
set_option linter.unusedVariables false
set_option maxHeartbeats 1000000
attribute [local irreducible] vc vcOps vcStep vcGuard prK hrK gK gsK brK callK ElemK SeqK BlockK ScopeK OpsK CallK LoopK LoopGo finPost ACall PCall PCallE BCall vqOps vqStep vqGuard qrK heK pcK gqK gqsK QOpsK qcallK DrawK
theorem is90 (n: DNode) (s: ByteArray) (hl: (allV n).length ≤ 60): PCall Tryz.prog 233 [n.enc,.s s] (.b (isF n s)) := by
 refine pcall_of_vc tabOK Tryz.func233 (by kernel_rfl) rfl pureL pureI (n := 14) rfl (rs := [.tmp 4]) rfl ?_
 repeat' first
  | exact finB rfl
  | exact finI rfl
  | exact finP rfl
  | exact absurd rfl (by assumption)
  | simp only [go_sem]
  | (intro _)
  | refine brK_dec (fun _ => ?_) (fun _ => ?_)
  | refine brK_any ?_ ?_
  | refine gK_dec (fun _ => ?_) (fun _ => ?_)
  | refine gK_any ?_ ?_
  | refine gqK_dec (fun _ => ?_) (fun _ => ?_)
  | refine ⟨by omega,?_⟩
  | refine elemHave (by omega) (by assumption) ?_
  | refine elemMap (by omega) (by omega) (fun x hx => ?_)
  | refine drawK mo (by kernel_rfl) ?_
  | (refine PCall.call (decl26 n s (by omega)) ?_; unfold isF; generalize decl n s = d; obtain ⟨d,ok⟩ := d)
  | (exact finBq rfl rfl)
theorem armX15 (p: DProg) (s: ByteArray): PCall Tryz.prog 234 [p.enc,.s s] (.b (armOk p.Enums s)) := by
 refine pcall_of_vc tabOK Tryz.func234 (by kernel_rfl) rfl pureL pureI (n := 17) rfl (rs := [.tmp 4]) rfl ?_
 repeat' first
  | exact finB rfl
  | exact finI rfl
  | exact finP rfl
  | exact absurd rfl (by assumption)
  | simp only [go_sem]
  | (intro _)
  | refine brK_dec (fun _ => ?_) (fun _ => ?_)
  | refine brK_any ?_ ?_
  | refine gK_dec (fun _ => ?_) (fun _ => ?_)
  | refine gK_any ?_ ?_
  | refine gqK_dec (fun _ => ?_) (fun _ => ?_)
  | refine ⟨by omega,?_⟩
  | refine elemHave (by omega) (by assumption) ?_
  | refine elemMap (by omega) (by omega) (fun x hx => ?_)
  | refine drawK mo (by kernel_rfl) ?_
  | (refine PCall.call (arm91 p.Enums s) ?_; unfold armOk; generalize armF p.Enums s = d; obtain ⟨t,v,ok⟩ := d)
  | (exact finBq rfl rfl)
theorem input142 (n: DNode) (s: ByteArray): PCall Tryz.prog 282 [n.enc,.s s] (.b (inF n s)) := by
 refine pcall_of_vc tabOK Tryz.func282 (by kernel_rfl) rfl pureL pureI (n := 21) rfl (rs := [.tmp 4]) rfl ?_
 repeat' first
  | exact finB rfl
  | exact finI rfl
  | exact finP rfl
  | exact absurd rfl (by assumption)
  | simp only [go_sem]
  | (intro _)
  | refine brK_dec (fun _ => ?_) (fun _ => ?_)
  | refine brK_any ?_ ?_
  | refine gK_dec (fun _ => ?_) (fun _ => ?_)
  | refine gK_any ?_ ?_
  | refine gqK_dec (fun _ => ?_) (fun _ => ?_)
  | refine ⟨by omega,?_⟩
  | refine elemHave (by omega) (by assumption) ?_
  | refine elemMap (by omega) (by omega) (fun x hx => ?_)
  | refine drawK mo (by kernel_rfl) ?_
  | (refine finBq rfl ?_; unfold inF; rw [List.any_eq_true.2 ⟨x,List.mem_of_getElem? hx,by simpa using (by assumption)⟩]; done)
  | (refine finBq rfl ?_; unfold inF; rw [List.any_eq_false.2 (fun d hd => by rw [take_full hpi (by omega) d hd]; simp)]; done)
  | exact loopFrH _ (by omega) ⟨i + 1,by omega,rfl,take_all hpi (by simpa using hx) (decide_eq_false (by assumption)),rfl⟩ (.next rfl (by omega) .nil) rfl
  | (refine loop_frH [4,5,6,7,8,9,10,11,12,13,14,15,16,17,18,19,20] (fun mm_ CC_ => ∃ (i: Nat),i ≤ n.Ins.length ∧ mm_ = n.Ins.length - i ∧ (∀ d ∈ n.Ins.take i,decide (d.Name = s) = false) ∧ CC_ = [(5,.raw (.int .i64 ((i: Nat): Int)))]) (n.Ins.length) _ ⟨0,by omega,by omega,by simp,rfl⟩ (.cons rfl .nil) ?_; rintro mm_ CC_ ji ⟨i,hi,rfl,hpi,rfl⟩)
theorem flatN_len {l: List DEq} (h: ∀ q ∈ l,okEq q): (l.flatMap DEq.Names).length ≤ 20 * l.length := by
 induction l with
 | nil => simp
 | cons e L ih =>
  have h1 := (h e List.mem_cons_self).1
  have h2 := ih fun x hx => h x (List.mem_cons_of_mem _ hx)
  rw [List.flatMap_cons,List.length_append,List.length_cons]
  omega
theorem flatN_take {l: List DEq} (k: Nat): ((l.take k).flatMap DEq.Names).length ≤ (l.flatMap DEq.Names).length := by
 have: l.flatMap DEq.Names = (l.take k).flatMap DEq.Names ++ (l.drop k).flatMap DEq.Names := by rw [← List.flatMap_append,List.take_append_drop]
 rw [this]; simp
theorem cntN_step {l: List DEq} {i: Nat} {q: DEq} (s: ByteArray) (hq: l[i]? = some q): cntL s ((l.take (i + 1)).flatMap DEq.Names) = cntL s ((l.take i).flatMap DEq.Names) + cntL s q.Names := by
 rw [flatMap_next _ hq,cntL_append]
theorem defined93 (n: DNode) (hn: okNode n) (s: ByteArray) (k: Nat) (hk: k ≤ n.Eqs.length): PCall Tryz.prog 236 [n.enc,.s s,.i (k: Int)] (.i (cntL s ((n.Eqs.take k).flatMap DEq.Names): Nat)) := by
 have hfl := flatN_len hn.2.2.2.2.2
 have h4 := hn.2.2.2.1
 refine pcall_of_vc tabOK Tryz.func236 (by kernel_rfl) rfl (by first | exact pureL | exact pureI) (by first | exact pureL | exact pureI) (n := 40) rfl (rs := [.tmp 6]) rfl ?_
 simp only [go_sem]
 refine loop_frH [7,8,9,10,11,12,13,14,15,16,17,18,19,20,21,22,23,24,25,26,27,28,29,30,31,32,33,34,35,36,37,38] (fun m C => ∃ i: Nat,i ≤ k ∧ m = k - i ∧ C = [(8,.raw (.int .i64 (i: Nat))),(7,.raw (.int .i64 ((cntL s ((n.Eqs.take i).flatMap DEq.Names): Nat): Int)))]) k _ ⟨0,by omega,by omega,rfl⟩ (.cons rfl (.cons rfl .nil)) ?_
 rintro m C ja ⟨i,hi,rfl,rfl⟩
 simp only [go_sem]
 refine brK_dec (fun hlt => ?_) (fun hge => ?_)
 ·
  obtain ⟨q,hq⟩: ∃ q,n.Eqs[i]? = some q := ⟨_,List.getElem?_eq_getElem (by omega)⟩
  have hst := cntN_step s hq
  have hb := cntL_le s ((n.Eqs.take (i + 1)).flatMap DEq.Names)
  have hb2 := flatN_take (l := n.Eqs) (i + 1)
  have hq20 := (hn.2.2.2.2.2 q (List.mem_of_getElem? hq)).1
  simp only [go_sem]
  refine loop_frH [7,9,15,16,17,18,19,20,21,22,23,24,25,26,27,28,29,30,31,32,33,34,35,36,37,38] (fun m C => ∃ j: Nat,j ≤ q.Names.length ∧ m = q.Names.length - j ∧ C = [(9,.raw (.int .i64 (j: Nat))),(7,.raw (.int .i64 ((cntL s ((n.Eqs.take i).flatMap DEq.Names) + cntL s (q.Names.take j): Nat): Int)))]) q.Names.length _ ⟨0,by omega,by omega,rfl⟩ (.cons rfl (.cons rfl .nil)) ?_
  rintro m C jb ⟨j,hj,rfl,rfl⟩
  simp only [go_sem]
  refine elemHave (by omega) hq ?_
  simp only [go_sem]
  intro _
  refine brK_dec (fun hlt2 => ?_) (fun hge2 => ?_)
  ·
   have hc := cntL_take (s := s) (l := q.Names) (k := j) (by omega)
   have hc2 := cntL_take_le s q.Names (j + 1)
   simp only [go_sem]
   refine elemHave (by omega) hq ?_
   simp only [go_sem]
   refine elemMap (by omega) (by omega) (fun x hx => ?_)
   have hxe: q.Names[j]'(by omega) = x := by
    have h := List.getElem?_eq_some_iff.1 hx
    obtain ⟨_,h⟩ := h
    simpa using h
   rw [hxe] at hc
   simp only [go_sem]
   refine brK_dec (fun he => ?_) (fun he => ?_)
   ·
    rw [if_pos he] at hc
    simp only [go_sem]
    rw [wrap_in _ (by omega) (by omega)]
    exact loopFrH _ (by omega) ⟨j + 1,by omega,rfl,rfl⟩ (.next rfl (by omega) (.cons (by rw [hc]; simp; omega) .nil)) rfl
   ·
    rw [if_neg he] at hc
    simp only [go_sem]
    exact loopFrH _ (by omega) ⟨j + 1,by omega,rfl,rfl⟩ (.next rfl (by omega) (.cons (by rw [hc]; rfl) .nil)) rfl
  ·
   have hjl: j = q.Names.length := by omega
   subst hjl
   simp only [go_sem]
   exact loopFrH _ (by omega) ⟨i + 1,by omega,rfl,rfl⟩ (.next rfl (by omega) (.cons (by rw [hst,List.take_length]; rfl) .nil)) rfl
 ·
  have hik: i = k := by omega
  subst hik
  simp only [go_sem]
  exact finIq rfl rfl
theorem part143 (p: DProg) (j: Nat) (n: DNode) (hj: p.Nodes[j]? = some n) (hl: (allV n).length ≤ 60) (e: Ex): PCall Tryz.prog 283 [p.enc,.i (j: Int),e.enc] (.b (leadsF p (j: Int) n e)) := by
 refine pcall_of_vc tabOK Tryz.func283 (by kernel_rfl) rfl (by first | exact pureL | exact pureI) (by first | exact pureL | exact pureI) (n := 74) rfl (rs := [.tmp 6]) rfl ?_
 repeat' first
  | exact finB rfl
  | exact finI rfl
  | exact finP rfl
  | exact absurd rfl (by assumption)
  | simp only [go_sem]
  | (intro _)
  | refine brK_dec (fun _ => ?_) (fun _ => ?_)
  | refine brK_split (fun hb_ => ?_) (fun hb_ => ?_)
  | refine gK_dec (fun _ => ?_) (fun _ => ?_)
  | refine gK_split (fun hb_ => ?_) (fun hb_ => ?_)
  | refine gqK_dec (fun _ => ?_) (fun _ => ?_)
  | refine ⟨by omega,?_⟩
  | refine elemHave (by omega) (by assumption) ?_
  | refine elemMap (by omega) (by omega) (fun x hx => ?_)
  | refine drawK mo (by kernel_rfl) ?_
  | (exfalso; omega)
  | (refine elemHave (by omega) hj ?_)
  | (refine PCall.call (is90 n e.name hl) ?_; generalize hix: isF n e.name = b; cases b)
  | (refine pcK_of (armX15 p x) ?_; generalize hax: armOk p.Enums x = b; cases b)
  | (refine PCall.call (armX15 p e.name) ?_)
  | (refine PCall.call (find24 p e.name) ?_)
  | (refine finBq rfl ?_; unfold leadsF; rw [List.all_eq_false.2 ⟨x,List.mem_of_getElem? hx,by simp [hax]⟩]; rfl)
  | (refine finBq rfl ?_; unfold leadsF; rw [if_pos (by omega),hix]; simp; done)
  | (have hall := List.all_eq_true.2 (take_full hpi (by omega)); refine finBq rfl ?_; unfold leadsF; rw [hall]; simp [*]; done)
  | (have hall := List.all_eq_true.2 (take_full hpi (by omega)); refine finBq rfl ?_; unfold leadsF; rw [hall]; simp [*]; omega)
  | exact loopFrH _ (by omega) ⟨i + 1,by omega,rfl,take_all hpi (by simpa using hx) hax,rfl⟩ (.next rfl (by omega) .nil) rfl
  | (refine loop_frH [6,8,35,36,37,38,39,40,41,42,43,44,45,46,47,48,49] (fun mm_ CC_ => ∃ (i: Nat),i ≤ e.arms.length ∧ mm_ = e.arms.length - i ∧ (∀ s ∈ e.arms.take i,armOk p.Enums s = true) ∧ CC_ = [(8,.raw (.int .i64 ((i: Nat): Int)))]) (e.arms.length) _ ⟨0,by omega,by omega,by simp,rfl⟩ (.cons rfl .nil) ?_; rintro mm_ CC_ ji ⟨i,hi,rfl,hpi,rfl⟩)
theorem eqErr_n {p: DProg} {a: Int} {n: DNode} {D: List ByteArray} {q: DEq} {E: Int} (h: namesErr n D q.Names = E) (hE: ¬ E = 0): eqErr p a n D q = E := by
 subst h
 unfold eqErr
 rw [if_neg hE]
theorem eqErr_p {p: DProg} {a: Int} {n: DNode} {D: List ByteArray} {q: DEq} (h: namesErr n D q.Names = 0) {b: Bool} (hb: (parts q.E).all (leadsF p a n) = b): eqErr p a n D q = if b = true then 0 else 5 := by
 unfold eqErr
 rw [if_pos h,hb]
theorem cnt_no {s: ByteArray} {l: List ByteArray} (h: ¬ ((cntL s l: Nat): Int) > 0): s ∉ l := fun hm => by have := cntL_mem hm; omega
theorem cnt_yes {s: ByteArray} {l: List ByteArray} (h: ((cntL s l: Nat): Int) > 0): s ∈ l := by
 by_cases q: s ∈ l
 ·
  exact q
 ·
  have := cntL_zero q; omega
theorem not_both {s: ByteArray} {D l: List ByteArray} {k jj: Nat} (h1: ¬ ((cntL s D: Nat): Int) > 0) (h2: ∀ x,l[k]? = some x → x ∉ l.take jj) (hs: l[((k: Nat): Int).toNat]? = some s) (hk: jj = k): s ∉ D ++ l.take k := by
 rw [List.mem_append]
 rintro (h | h)
 ·
  exact cnt_no h1 h
 ·
  subst hk; exact h2 s (by simpa using hs) h
theorem eq92 (p: DProg) (j: Nat) (n: DNode) (hj: p.Nodes[j]? = some n) (hn: okNode n) (i: Nat) (q: DEq) (hq: n.Eqs[i]? = some q): PCall Tryz.prog 235 [p.enc,.i (j: Int),.i (i: Int)] (.i (eqErr p (j: Int) n ((n.Eqs.take i).flatMap DEq.Names) q)) := by
 have hl := okN_lenX hn
 have hqo := hn.2.2.2.2.2 q (List.mem_of_getElem? hq)
 have hpl := hqo.2.1.1
 have hil: i < n.Eqs.length := (List.getElem?_eq_some_iff.1 hq).1
 generalize hD: (n.Eqs.take i).flatMap DEq.Names = D
 refine pcall_of_vc tabOK Tryz.func235 (by kernel_rfl) rfl (by first | exact pureL | exact pureI) (by first | exact pureL | exact pureI) (n := 89) rfl (rs := [.tmp 6]) rfl ?_
 repeat' first
  | exact finB rfl
  | exact finI rfl
  | exact finP rfl
  | exact absurd rfl (by assumption)
  | simp only [go_sem]
  | (intro _)
  | refine brK_dec (fun _ => ?_) (fun _ => ?_)
  | refine brK_split (fun hb_ => ?_) (fun hb_ => ?_)
  | refine gK_dec (fun _ => ?_) (fun _ => ?_)
  | refine gK_split (fun hb_ => ?_) (fun hb_ => ?_)
  | refine gqK_dec (fun _ => ?_) (fun _ => ?_)
  | refine ⟨by omega,?_⟩
  | refine elemHave (by omega) (by assumption) ?_
  | ((fail_if_success (clear hy)); refine elemMap (by omega) (by omega) (fun y hy => ?_))
  | refine elemMap (by omega) (by omega) (fun x hx => ?_)
  | refine drawK mo (by kernel_rfl) ?_
  | (exfalso; omega)
  | (refine elemHave (by omega) hj ?_)
  | (refine elemHave (by omega) hq ?_)
  | (refine PCall.call (parts_spec q.E (by omega)) ?_)
  | (refine pcK_of (is90 n y hl) ?_; generalize hiy: isF n y = b; cases b)
  | (refine pcK_of (input142 n y) ?_; generalize hny: inF n y = b; cases b)
  | (refine pcK_of (defined93 n hn y i (by omega)) ?_; rw [hD])
  | (refine pcK_of (part143 p j n hj hl y) ?_; generalize hpy: leadsF p (j: Int) n y = b; cases b)
  | (have e5 := names_5 hpk hy hiy; exact finIq rfl ((eqErr_n rfl (by omega)).trans e5).symm)
  | (have e6 := names_6 hpk hy hiy (.inl hny); exact finIq rfl ((eqErr_n rfl (by omega)).trans e6).symm)
  | (have e6 := names_6 hpk hy hiy (.inr (List.mem_append_left _ (cnt_yes (by assumption)))); exact finIq rfl ((eqErr_n rfl (by omega)).trans e6).symm)
  | (have e6 := names_6 hpk hy hiy (.inr (List.mem_append_right _ (mem_take hx (by omega) (by assumption)))); exact finIq rfl ((eqErr_n rfl (by omega)).trans e6).symm)
  | (have e0 := names_0 hpk (by omega); exact finIq rfl (eqErr_p e0 (List.all_eq_false.2 ⟨y,List.mem_of_getElem? hy,by simp [hpy]⟩)).symm)
  | (have e0 := names_0 hpk (by omega); exact finIq rfl (eqErr_p e0 (List.all_eq_true.2 (take_full hpm (by omega)))).symm)
  | exact loopFrH _ (by omega) ⟨k + 1,by omega,rfl,names_next hpk hy hiy hny (not_both (by assumption) hpjj hy (by omega)),rfl⟩ (.next rfl (by omega) .nil) rfl
  | (refine loop_frH [6,9,10,23,24,25,26,27,28,29,30,31,32,33,34,35,36,37,38,39,40,41,42,43,44,45,46,47,48,49,50,51,52,53,54,55,56,57,58,59,60,61,62,63,64,65,66,67,68,69,70,71] (fun mm_ CC_ => ∃ (k: Nat),k ≤ q.Names.length ∧ mm_ = q.Names.length - k ∧ (namesErr n (D ++ q.Names.take k) (q.Names.drop k) = namesErr n D q.Names) ∧ CC_ = [(9,.raw (.int .i64 ((k: Nat): Int)))]) (q.Names.length) _ ⟨0,by omega,by omega,by simp,rfl⟩ (.cons rfl .nil) ?_; rintro mm_ CC_ jk ⟨k,hk,rfl,hpk,rfl⟩)
  | exact loopFrH _ (by omega) ⟨jj + 1,by omega,rfl,ostep hpjj hy hx (by assumption),rfl⟩ (.next rfl (by omega) .nil) rfl
  | (refine loop_frH [6,10,56,57,58,59,60,61,62,63,64,65,66,67,68,69,70,71] (fun mm_ CC_ => ∃ (jj: Nat),jj ≤ k ∧ mm_ = k - jj ∧ (∀ x,q.Names[k]? = some x → x ∉ q.Names.take jj) ∧ CC_ = [(10,.raw (.int .i64 ((jj: Nat): Int)))]) (k) _ ⟨0,by omega,by omega,by simp,rfl⟩ (.cons rfl .nil) ?_; rintro mm_ CC_ jjj ⟨jj,hjj,rfl,hpjj,rfl⟩)
  | exact loopFrH _ (by omega) ⟨m + 1,by omega,rfl,take_all hpm (by simpa using hy) hpy,rfl⟩ (.next rfl (by omega) .nil) rfl
  | (refine loop_frH [6,12,75,76,77,78,79,80,81,82,83,84,85,86,87,88] (fun mm_ CC_ => ∃ (m: Nat),m ≤ (parts q.E).length ∧ mm_ = (parts q.E).length - m ∧ (∀ z ∈ (parts q.E).take m,leadsF p (j: Int) n z = true) ∧ CC_ = [(12,.raw (.int .i64 ((m: Nat): Int)))]) ((parts q.E).length) _ ⟨0,by omega,by omega,by simp,rfl⟩ (.cons rfl .nil) ?_; rintro mm_ CC_ jm ⟨m,hm,rfl,hpm,rfl⟩)
theorem fault47 (a b c: Int): PCall Tryz.prog 53 [.i a,.i b,.i c] (DFault.enc ⟨a,b,c⟩) := by
 refine pcall_of_vc tabOK Tryz.func53 (by kernel_rfl) rfl (by first | exact pureL | exact pureI) (by first | exact pureL | exact pureI) (n := 11) rfl (rs := [.cell 6 61]) rfl ?_
 simp only [go_sem]
 rw [DFault.enc_eq]
 exact ⟨_,rfl,false,.refl _⟩
theorem faultX_err {p: DProg} {a: Int} {n: DNode} (h: (allV n).all (clockedF p.Enums n) = false): nodeFault p a n = ⟨a,-1,5⟩ := by unfold nodeFault; rw [if_neg (by rw [h]; simp)]
theorem faultX_eq {p: DProg} {a: Int} {n: DNode} {e: Int × Int} (h: (allV n).all (clockedF p.Enums n) = true) (he: eqsErr p a n 0 [] n.Eqs = e) (h2: ¬ e.2 = 0): nodeFault p a n = ⟨a,e.1,e.2⟩ := by unfold nodeFault; rw [if_pos h,he,if_neg h2]
theorem faultX_def {p: DProg} {a: Int} {n: DNode} {e: Int × Int} (h: (allV n).all (clockedF p.Enums n) = true) (he: eqsErr p a n 0 [] n.Eqs = e) (h2: e.2 = 0) {b: Bool} (hb: allDef n = b): nodeFault p a n = if b = true then ⟨0,0,0⟩ else ⟨a,-1,5⟩ := by unfold nodeFault; rw [if_pos h,he,if_pos h2,hb]
theorem clk_no {L: List DEnum} {n: DNode} {d: DDecl} (h1: ¬ d.On = ⟨#[]⟩) (h2: isF n d.On = false ∨ armOk L d.Ctor = false): clockedF L n d = false := by
 unfold clockedF
 rw [decide_eq_false h1]
 rcases h2 with h2 | h2 <;> simp [h2]
theorem clk_yes {L: List DEnum} {n: DNode} {d: DDecl} (h2: d.On = ⟨#[]⟩ ∨ (isF n d.On = true ∧ armOk L d.Ctor = true)): clockedF L n d = true := by
 unfold clockedF
 rcases h2 with h2 | h2
 ·
  rw [decide_eq_true h2]; rfl
 ·
  simp [h2.1,h2.2]
theorem rest_at {n: DNode} {i: Nat} {d: DDecl} (h: (allV n)[i]? = some d) (hi: n.Ins.length ≤ i): (n.Outs ++ n.Vars)[i - n.Ins.length]? = some d := by
 have e: allV n = n.Ins ++ (n.Outs ++ n.Vars) := by simp [allV]
 rw [e,List.getElem?_append_right hi] at h
 exact h
theorem node50 (p: DProg) (j: Nat) (n: DNode) (hj: p.Nodes[j]? = some n) (hn: okNode n): PCall Tryz.prog 190 [p.enc,.i (j: Int)] (nodeFault p (j: Int) n).enc := by
 have hl := okN_lenX hn
 have h4 := hn.2.2.2.1
 have hlen: (allV n).length = n.Ins.length + (n.Outs ++ n.Vars).length := by simp [allV]
 refine pcall_of_vc tabOK Tryz.func190 (by kernel_rfl) rfl (by first | exact pureL | exact pureI) (by first | exact pureL | exact pureI) (n := 92) rfl (rs := [.cell 4 61]) rfl ?_
 simp only [go_sem]
 refine elemHave (by omega) hj ?_
 simp only [go_sem]
 refine PCall.call (all66 n (by omega)) ?_
 simp only [go_sem]
 refine loop_frH [7,18,19,20,21,22,23,24,25,26,27,28,29,30,31,32,33,34,35,36,37,38,39,40,41,42,43,44,45,46,47,48,49,50,51] (fun m C => ∃ i: Nat,i ≤ (allV n).length ∧ m = (allV n).length - i ∧ (∀ d ∈ (allV n).take i,clockedF p.Enums n d = true) ∧ C = [(7,.raw (.int .i64 (i: Nat)))]) (allV n).length _ ⟨0,by omega,by omega,by simp,rfl⟩ (.cons rfl .nil) ?_
 rintro m C ja ⟨i,hi,rfl,hp,rfl⟩
 simp only [go_sem]
 intro _
 refine brK_dec (fun hlt => ?_) (fun hge => ?_)
 ·
  obtain ⟨d,hd⟩: ∃ d,(allV n)[i]? = some d := ⟨_,List.getElem?_eq_getElem (by omega)⟩
  repeat' first
   | (exfalso; omega)
   | simp only [go_sem]
   | (intro _)
   | refine brK_dec (fun _ => ?_) (fun _ => ?_)
   | refine gqK_dec (fun _ => ?_) (fun _ => ?_)
   | refine elemHave (by omega) hd ?_
   | refine drawK mo (by kernel_rfl) ?_
   | (refine pcK_of (is90 n d.On hl) ?_; generalize hix: isF n d.On = b; cases b)
   | (refine pcK_of (armX15 p d.Ctor) ?_; generalize hax: armOk p.Enums d.Ctor = b; cases b)
   | (refine PCall.call (fault47 _ _ _) ?_)
   | (have hz: ¬ d.On = ⟨#[]⟩ := (by assumption); have hc := clk_no (L := p.Enums) (n := n) (d := d) hz (.inl hix); rw [faultX_err (List.all_eq_false.2 ⟨d,List.mem_of_getElem? hd,by simp [hc]⟩)]; exact ⟨_,rfl,false,by rw [DFault.enc_eq]; exact .refl _⟩)
   | (have hz: ¬ d.On = ⟨#[]⟩ := (by assumption); have hc := clk_no (L := p.Enums) (n := n) (d := d) hz (.inr hax); rw [faultX_err (List.all_eq_false.2 ⟨d,List.mem_of_getElem? hd,by simp [hc]⟩)]; exact ⟨_,rfl,false,by rw [DFault.enc_eq]; exact .refl _⟩)
   | (have hc := clk_yes (L := p.Enums) (n := n) (d := d) (.inr ⟨hix,hax⟩); exact loopFrH _ (by omega) ⟨i + 1,by omega,rfl,take_all hp hd hc,rfl⟩ (.next rfl (by omega) .nil) rfl)
   | (have hz: d.On = ⟨#[]⟩ := (by first | assumption | exact Classical.not_not.1 (by assumption)); have hc := clk_yes (L := p.Enums) (n := n) (d := d) (.inl hz); exact loopFrH _ (by omega) ⟨i + 1,by omega,rfl,take_all hp hd hc,rfl⟩ (.next rfl (by omega) .nil) rfl)
 ·
  have hcl: (allV n).all (clockedF p.Enums n) = true := List.all_eq_true.2 (take_full hp (by omega))
  generalize hE: eqsErr p (j: Int) n 0 [] n.Eqs = E
  simp only [go_sem]
  refine loop_frH [8,9,52,53,54,55,56,57,58,59,60,61,62,63,64,65,66,67,68] (fun m C => ∃ i: Nat,i ≤ n.Eqs.length ∧ m = n.Eqs.length - i ∧ eqsErr p (j: Int) n i ((n.Eqs.take i).flatMap DEq.Names) (n.Eqs.drop i) = E ∧ C = [(8,.raw (.int .i64 (i: Nat)))]) n.Eqs.length _ ⟨0,by omega,by omega,by simpa using hE,rfl⟩ (.cons rfl .nil) ?_
  rintro m C jb ⟨i2,hi2,rfl,hE',rfl⟩
  simp only [go_sem]
  intro _
  refine brK_dec (fun hlt => ?_) (fun hge2 => ?_)
  ·
   obtain ⟨q,hq⟩: ∃ q,n.Eqs[i2]? = some q := ⟨_,List.getElem?_eq_getElem (by omega)⟩
   simp only [go_sem]
   refine PCall.call (eq92 p j n hj hn i2 q hq) ?_
   by_cases he: eqErr p (j: Int) n ((n.Eqs.take i2).flatMap DEq.Names) q = 0
   ·
    have hE1 := eqs_next hE' (by simpa using hq) he
    rw [he]
    simp only [go_sem]
    exact loopFrH _ (by omega) ⟨i2 + 1,by omega,rfl,hE1,rfl⟩ (.next rfl (by omega) .nil) rfl
   ·
    have hE1 := eqs_at hE' (by simpa using hq) he
    rw [faultX_eq hcl hE (by rw [hE1]; exact he),hE1]
    generalize eqErr p (j: Int) n ((n.Eqs.take i2).flatMap DEq.Names) q = ee at he
    simp only [go_sem]
    refine brK_dec (fun _ => ?_) (fun hq => absurd he hq)
    simp only [go_sem]
    refine PCall.call (fault47 _ _ _) ?_
    simp only [go_sem]
    exact ⟨_,rfl,false,by rw [DFault.enc_eq]; exact .refl _⟩
  ·
   have hE1 := eqs_0 hE' (by omega)
   generalize hb: allDef n = b
   rw [faultX_def hcl hE (by rw [hE1]) hb]
   simp only [go_sem]
   intro _
   refine loop_frH [10,72,73,74,75,76,77,78,79,80,81,82,83,84,85,86,87,88,89,90] (fun m C => ∃ i: Nat,n.Ins.length ≤ i ∧ i ≤ (allV n).length ∧ m = (allV n).length - i ∧ (∀ d ∈ (n.Outs ++ n.Vars).take (i - n.Ins.length),memB d.Name (n.Eqs.flatMap DEq.Names) = true) ∧ C = [(10,.raw (.int .i64 (i: Nat)))]) ((allV n).length - n.Ins.length) _ ⟨n.Ins.length,by omega,by omega,rfl,by simp,rfl⟩ (.cons rfl .nil) ?_
   rintro m C jc ⟨i3,hi3,hi3',rfl,hp3,rfl⟩
   simp only [go_sem]
   intro _
   refine brK_dec (fun hlt => ?_) (fun hge3 => ?_)
   ·
    obtain ⟨d,hd⟩: ∃ d,(allV n)[i3]? = some d := ⟨_,List.getElem?_eq_getElem (by omega)⟩
    have hd2 := rest_at hd hi3
    simp only [go_sem]
    refine drawK mo (by kernel_rfl) ?_
    simp only [go_sem]
    refine elemHave (by omega) hd ?_
    simp only [go_sem]
    refine pcK_of (defined93 n hn d.Name n.Eqs.length (Nat.le_refl _)) ?_
    rw [List.take_length]
    simp only [go_sem]
    refine brK_dec (fun hz => ?_) (fun hz => ?_)
    ·
     have hno: memB d.Name (n.Eqs.flatMap DEq.Names) = false := by
      cases hm: memB d.Name (n.Eqs.flatMap DEq.Names) with
      | false => rfl
      | true => have := cntL_mem (memB_iff.1 hm); exfalso; omega
     have hbf: b = false := by rw [← hb]; unfold allDef; exact List.all_eq_false.2 ⟨d,List.mem_of_getElem? hd2,by simp [hno]⟩
     rw [hbf,if_neg (by simp)]
     simp only [go_sem]
     refine PCall.call (fault47 _ _ _) ?_
     simp only [go_sem]
     exact ⟨_,rfl,false,by rw [DFault.enc_eq]; exact .refl _⟩
    ·
     have hyes: memB d.Name (n.Eqs.flatMap DEq.Names) = true := by
      cases hm: memB d.Name (n.Eqs.flatMap DEq.Names) with
      | true => rfl
      | false =>
       have hnm: d.Name ∉ n.Eqs.flatMap DEq.Names := fun h => by rw [memB_iff.2 h] at hm; exact Bool.noConfusion hm
       exact absurd (by have := cntL_zero hnm; omega) hz
     simp only [go_sem]
     exact loopFrH _ (by omega) ⟨i3 + 1,by omega,by omega,rfl,by rw [show i3 + 1 - n.Ins.length = (i3 - n.Ins.length) + 1 by omega]; exact take_all hp3 hd2 hyes,rfl⟩ (.next rfl (by omega) .nil) rfl
   ·
    have hbt: b = true := by rw [← hb]; unfold allDef; exact List.all_eq_true.2 (take_full hp3 (by omega))
    rw [hbt,if_pos rfl]
    simp only [go_sem]
    exact ⟨_,rfl,false,by rw [DFault.enc_eq]; exact .refl _⟩
theorem scopeX (p: DProg) (hp: okProg p): PCall Tryz.prog 150 [p.enc] (scopeF p).enc := by
 refine pcall_of_vc tabOK Tryz.func150 (by kernel_rfl) rfl (by first | exact pureL | exact pureI) (by first | exact pureL | exact pureI) (n := 27) rfl (rs := [.cell 2 61]) rfl ?_
 have hp6 := hp.2.1
 unfold scopeF
 simp only [go_sem]
 refine PCall.call (checkX p hp) ?_
 generalize checkF p = e
 simp only [go_sem]
 refine brK_dec (fun h0 => ?_) (fun h0 => ?_)
 ·
  rw [if_neg h0]
  simp only [go_sem]
  refine PCall.call (fault47 _ _ _) ?_
  simp only [go_sem]
  exact ⟨_,rfl,false,by rw [DFault.enc_eq]; exact .refl _⟩
 rw [if_pos (by simpa using h0)]
 generalize hE: nodesFault p 0 p.Nodes = E
 simp only [go_sem]
 refine loop_frX [4,5,12,13,14,15,16,17,18,19,20,21,22,23,24,25] (fun m C => ∃ i: Nat,i ≤ p.Nodes.length ∧ m = p.Nodes.length - i ∧ nodesFault p i (p.Nodes.drop i) = E ∧ C = [(4,.raw (.int .i64 (i: Nat)))]) p.Nodes.length _ ⟨0,by omega,by omega,hE,rfl⟩ (.cons rfl .nil) ?_
 rintro m C ja r ⟨i,hi,rfl,hE',rfl⟩
 simp only [go_sem]
 intro _
 refine brK_dec (fun hlt => ?_) (fun hge => ?_)
 ·
  obtain ⟨n,hj⟩: ∃ n,p.Nodes[i]? = some n := ⟨_,List.getElem?_eq_getElem (by omega)⟩
  have hn := hp.2.2 n (List.mem_of_getElem? hj)
  simp only [go_sem]
  refine PCall.call (node50 p i n hj hn) ?_
  have hzz: (AV.agg [.raw (.int .i64 0),.raw (.int .i64 0),.raw (.int .i64 0)]) = (⟨0,0,0⟩: DFault).enc := by rw [DFault.enc_eq]
  by_cases hF: (nodeFault p (i: Int) n).Err = 0
  ·
   have hE1 := nodes_next hE' (by simpa using hj) hF
   have hz := nodeFault_zero hF
   rw [hz]
   simp only [go_sem]
   rw [hzz]
   simp only [go_sem]
   exact loopFrX _ (by omega) _ ⟨i + 1,by omega,rfl,hE1,rfl⟩ (.next rfl (by omega) .nil) rfl (by first | rfl | (simp only [List.append_assoc,List.cons_append,List.nil_append]; rfl))
  ·
   have hE1 := nodes_at hE' (by simpa using hj) hF
   rw [hE1]
   generalize nodeFault p (i: Int) n = F at hF
   simp only [go_sem]
   rw [hzz]
   simp only [go_sem]
   refine brK_dec (fun _ => ?_) (fun hq => absurd (by intro h; rw [h] at hF; exact hF rfl) hq)
   simp only [go_sem]
   exact ⟨_,rfl,false,by rw [DFault.enc_eq]; exact .refl _⟩
 ·
  have h0 := nodes_0 hE' (by omega)
  subst h0
  simp only [go_sem]
  exact ⟨_,rfl,false,by rw [DFault.enc_eq]; exact .refl _⟩
noncomputable def toldP (p: DProg) (n: DNode) (e: Ex): List DTy × Bool :=
 if e.kind = 13 then (match allS (ofL p n e.subs) with
  | none => ([],false)
  | some ts => ((callT p e ts).1.Outs.map DDecl.Ty,(callT p e ts).2))
 else ([(headP p n e (ofL p n e.subs)).1],(headP p n e (ofL p n e.subs)).2)
noncomputable def eqTy (p: DProg) (n: DNode) (q: DEq): Bool := (toldP p n q.E).2 && eqB (q.Names.map fun s => (decl n s).1.Ty) (toldP p n q.E).1
def clkTy (p: DProg) (n: DNode) (d: DDecl): Bool := decide (d.On = ⟨#[]⟩) || whenT p n d.On d.Ctor
noncomputable def nodeTy (p: DProg) (a: Nat) (n: DNode): DFault :=
 if (allV n).all (clkTy p n) = true then firstE (a: Int) 7 (fun _ q => eqTy p n q) 0 n.Eqs else ⟨(a: Int),-1,7⟩
noncomputable def typesF (p: DProg): DFault := if (scopeF p).Err = 0 then firstF (nodeTy p) 0 p.Nodes else scopeF p
theorem nodes_first (p: DProg): ∀ (l: List DNode) (i: Nat),nodesFault p i l = firstF (fun i n => nodeFault p (i: Int) n) i l
 | [],_ => rfl
 | n :: r,i => by rw [nodesFault,firstF,nodes_first p r (i + 1)]
theorem scope_zero {p: DProg} (h: (scopeF p).Err = 0): scopeF p = ⟨0,0,0⟩ ∧ checkF p = 0 ∧ ∀ (k: Nat) n,p.Nodes[k]? = some n → (nodeFault p (k: Int) n).Err = 0 := by
 unfold scopeF at *
 split at h
 ·
  rename_i h0
  rw [if_pos h0]
  rw [nodes_first] at h ⊢
  obtain ⟨h1,h2⟩ := firstF_zero h
  exact ⟨h1,h0,fun k n hk => by have := h2 k n hk; simpa using this⟩
 ·
  rename_i h0; exact absurd h h0
theorem nodeTy_zero {p: DProg} {a: Nat} {n: DNode} (h: (nodeTy p a n).Err = 0): nodeTy p a n = ⟨0,0,0⟩ ∧ (∀ d ∈ allV n,clkTy p n d = true) ∧ ∀ q ∈ n.Eqs,eqTy p n q = true := by
 unfold nodeTy at *
 split at h
 ·
  rename_i h0
  rw [if_pos h0]
  obtain ⟨h1,h2⟩ := firstE_zero (by decide) h
  refine ⟨h1,List.all_eq_true.1 h0,fun q hq => ?_⟩
  obtain ⟨i,hi,rfl⟩ := List.getElem_of_mem hq
  exact h2 i _ (List.getElem?_eq_getElem hi)
 ·
  cases h
theorem types_zero {p: DProg} (h: (typesF p).Err = 0): typesF p = ⟨0,0,0⟩ ∧ scopeF p = ⟨0,0,0⟩ ∧ checkF p = 0 ∧ ∀ (k: Nat) n,p.Nodes[k]? = some n → (nodeTy p k n).Err = 0 := by
 unfold typesF at *
 split at h
 ·
  rename_i h0
  rw [if_pos h0]
  obtain ⟨h1,h2⟩ := firstF_zero h
  obtain ⟨k1,k2,k3⟩ := scope_zero h0
  exact ⟨h1,k1,k2,fun k n hk => by have := h2 k n hk; simpa using this⟩
 ·
  rename_i h0; exact absurd h h0
theorem eqs_right {p: DProg} (h: checkF p = 0) {n: DNode} (hn: n ∈ p.Nodes) {q: DEq} (hq: q ∈ n.Eqs): 0 < q.Names.length ∧ rightE q.E = true := by
 have hnf := List.all_eq_true.1 (check_nodes h) n hn
 unfold nodeF at hnf
 simp only [Bool.and_eq_true] at hnf
 have hd := List.all_eq_true.1 hnf.1.2 q hq
 unfold eqF at hd
 simp only [Bool.and_eq_true,decide_eq_true_eq] at hd
 exact ⟨hd.1.1.1,hd.1.1.2⟩
theorem clocked_of {p: DProg} {a: Int} {n: DNode} (h: (nodeFault p a n).Err = 0): ∀ d ∈ allV n,clockedF p.Enums n d = true := by
 unfold nodeFault at h
 split at h
 ·
  rename_i h0; exact List.all_eq_true.1 h0
 ·
  cases h
theorem clkTy_eq {p: DProg} {n: DNode} {d: DDecl} (h: clockedF p.Enums n d = true) (ho: ¬ d.On = ⟨#[]⟩): clkTy p n d = decide ((decl n d.On).1.Ty = (armF p.Enums d.Ctor).1) := by
 unfold clockedF at h
 unfold clkTy whenT
 rw [decide_eq_false ho] at h ⊢
 simp only [Bool.false_or,Bool.and_eq_true] at h ⊢
 unfold isF at h
 rw [h.1,h.2]
 rfl
def layRevD_ren: Go.Shelf.Ren := ⟨fun | 35 => 209 | n => n,fun | 22 => 65 | 23 => 77 | 3 => 3 | 4 => 4 | 0 => 0 | n => n,fun | n => n⟩
theorem layRevD: Go.Proofs.SlLaysE0.n35 Tryz.prog layRevD_ren := {
 mixed := by kernel_rfl
 f35 := ⟨Tryz.f209.name,by decide,Tryz.func209.trans (congrArg some (by kernel_rfl))⟩
 t0 := Tryz.underlying0
 a0 := Tryz.isAgg0
 z0 := Tryz.sizeOf0
 v0 := Tryz.zeroValue0
 t3 := Tryz.underlying3
 a3 := Tryz.isAgg3
 z3 := Tryz.sizeOf3
 v3 := Tryz.zeroValue3
 t4 := Tryz.underlying4
 a4 := Tryz.isAgg4
 z4 := Tryz.sizeOf4
 v4 := Tryz.zeroValue4
 t22 := Tryz.underlying65
 a22 := Tryz.isAgg65
 z22 := Tryz.sizeOf65
 v22 := Tryz.zeroValue65 }
theorem reverseD {es: List AV} {kk n: Nat} {h: List Blk} {K: AV → List Blk → Prop} (hn: n = es.length) (hk: h[kk]? = some (.own 77 6 es)) (hK: K (.tup []) (h.set kk (.own 77 6 es.reverse))) :
  ACall Tryz.prog 209 [.own 6 kk n] h K := by
 subst hn
 exact own_reverse (by decide) (fun vs w => run_callFunc Tryz.func209 (by kernel_rfl) rfl vs w)
  (fun blk cap d w hH hsz => Go.Proofs.AnyQ.slices_Reverse layRevD 6 Tryz.isAgg77 Tryz.sizeOf77 (fun x: Cells 6 => x.1) (fun x => x.2.1) (fun x => x.2.2) blk 0 cap d w hH hsz)
  (fun a cap w => Go.Proofs.AnyQ.slices_Reverse_empty layRevD a cap w) hk hK
theorem Weak.tups {cs ds: List AV} (h: WeakL cs ds): Weak (.tup cs) (.tup ds) := .tup cs ds h.at.1 h.at.2
def clk (n: DNode): Nat → ByteArray → List DDecl → List DDecl × Bool
 | 0,_,_ => ([],false)
 | k + 1,name,acc => if (decl n name).2 = true then (if (decl n name).1.On = ⟨#[]⟩ then (acc,true) else clk n k (decl n name).1.On ((decl n name).1 :: acc)) else ([],false)
def clock (n: DNode) (name: ByteArray): List DDecl × Bool := clk n 13 name []
abbrev clockA (p: List DDecl × Bool): AV := .tup [.lst 6 (p.1.map DDecl.enc) none,.b p.2]
theorem clk_succ (n: DNode) (k: Nat) (name: ByteArray) (acc: List DDecl): clk n (k + 1) name acc = if (decl n name).2 = true then (if (decl n name).1.On = ⟨#[]⟩ then (acc,true) else clk n k (decl n name).1.On ((decl n name).1 :: acc)) else ([],false) := rfl
theorem clk_len (n: DNode): ∀ (k: Nat) (s: ByteArray) (acc: List DDecl),(clk n k s acc).1.length ≤ acc.length + k
 | 0,_,_ => by simp [clk]
 | k + 1,s,acc => by
  rw [clk_succ]
  split
  ·
   split
   ·
    dsimp only; omega
   ·
    have := clk_len n k (decl n s).1.On ((decl n s).1 :: acc)
    simp only [List.length_cons] at this
    omega
  ·
   simp
theorem clock_len (n: DNode) (s: ByteArray): (clock n s).1.length ≤ 13 := by
 have := clk_len n 13 s []
 simpa [clock] using this
theorem pure_clockA (p: List DDecl × Bool): Go.Abs.Pure (clockA p) := .tup _ (pure_cons (DDecl.pures _) (pure_cons (.raw _) pure_nil))
theorem weak_no: Weak (.tup [.raw (.slice none 0 0),.b false]) (clockA ([],false)) := Weak.tups ⟨.nil _,.refl _,trivial⟩
abbrev nodeB (n: DNode): Blk := .cells 68 [.s n.Name,.lst 6 (n.Ins.map DDecl.enc) none,.lst 6 (n.Outs.map DDecl.enc) none,.lst 6 (n.Vars.map DDecl.enc) none,.lst 7 (n.Eqs.map DEq.enc) none]
theorem clock21 (n: DNode) (name: ByteArray) (hl: (allV n).length ≤ 4294967296): PCall Tryz.prog 162 [n.enc,.s name] (clockA (clock n name)) := by
 refine pcall_of_vc tabOK Tryz.func162 (by kernel_rfl) rfl (by first | exact pureL | exact pureI) (pure_clockA _) (n := 32) rfl (rs := [.tmp 4,.tmp 5]) rfl ?_
 simp only [go_sem]
 refine loop_ghost (ghost_own 6 77 6 rfl) ?_
 simp only [go_sem]
 refine loop_fr [1,6,7,8,9,10,11,12,13,14,15,16,17,18,19,20,21,22,23,24,25,26,27,28,29,30,31,4,5]
  (fun m C h => ∃ (i: Nat) (nm: ByteArray) (acc: List DDecl) (r: List Blk),i ≤ 13 ∧ acc.length ≤ i ∧ m = 13 - i ∧ clk n (13 - i) nm acc = clock n name ∧ C = [(9,.raw (.int .i64 (i: Nat))),(1,.s nm),(6,.own 6 1 (acc.reverse.map DDecl.enc).length)] ∧
   h = nodeB n :: .own 77 6 (acc.reverse.map DDecl.enc) :: r) 13 _ ⟨0,name,[],[],by omega,by simp,rfl,rfl,rfl,rfl⟩ (.cons rfl (.cons rfl (.cons rfl .nil))) ?_
 rintro m C j h ⟨i,nm,acc,r,hi,hal,rfl,hc,rfl,rfl⟩
 simp only [go_sem]
 refine brK_dec (fun hlt => ?_) (fun hge => ?_)
 ·
  simp only [go_sem]
  refine PCall.call (decl25 n nm hl) ?_
  have he: 13 - i = (13 - (i + 1)) + 1 := by omega
  rw [he,clk_succ] at hc
  generalize decl n nm = d at hc ⊢
  obtain ⟨d,ok⟩ := d
  simp only [go_sem]
  cases ok with
  | false =>
   simp only [Bool.false_eq_true,if_false] at hc
   rw [← hc]
   simp only [go_sem]
   exact ⟨_,rfl,false,weak_no⟩
  | true =>
   simp only [if_true] at hc
   simp only [go_sem]
   refine brK_dec (fun hon => ?_) (fun hon => ?_)
   ·
    rw [if_pos hon] at hc
    rw [← hc]
    simp only [go_sem]
    refine reverseD (es := acc.reverse.map DDecl.enc) (kk := 1) (by simp) rfl ?_
    simp only [go_sem]
    refine ⟨_,rfl,true,?_⟩
    have hz: ∀ R: List Blk,frz (nodeB n :: .own 77 6 (acc.reverse.map DDecl.enc).reverse :: R) (.own 6 1 acc.reverse.length) = .lst 6 (acc.map DDecl.enc) none := by
     intro R
     simp [frz]
    show Weak (.tup [frz _ (.own 6 1 acc.reverse.length),.b true]) _
    rw [hz]
    exact .refl _
   ·
    rw [if_neg hon] at hc
    simp only [go_sem]
    refine ⟨by simp; omega,?_⟩
    exact loopFr (13 - (i + 1)) (by omega) ⟨i + 1,d.On,d :: acc,r ++ [.cells 77 [.s d.Name,.i d.Ty.Kind,.i d.Ty.Enum,.i d.Ty.Len,.s d.On,.s d.Ctor],.tok 77 6 1],by omega,by simp; omega,rfl,hc,rfl,by simp⟩
     (.next rfl (by omega) (.cons rfl (.cons (by simp) .nil))) rfl
 ·
  have: i = 13 := by omega
  subst this
  simp only [go_sem]
  rw [← hc]
  exact ⟨_,rfl,false,weak_no⟩
theorem weak_yes (acc: List DDecl) (k: Option Nat): Weak (.tup [.lst 6 (acc.map DDecl.enc) k,.b true]) (clockA (acc,true)) := Weak.tups ⟨by cases k <;> first | exact .refl _ | exact .tok _ _ _,.refl _,trivial⟩
theorem clock22 (n: DNode) (name: ByteArray) (hl: (allV n).length ≤ 4294967296): PCall Tryz.prog 63 [n.enc,.s name] (clockA (clock n name)) := by
 refine pcall_of_vc tabOK Tryz.func63 (by kernel_rfl) rfl pureL pureI (n := 33) rfl (rs := [.tmp 4,.tmp 5]) rfl ?_
 simp only [go_sem]
 refine loop_fr [1,6,7,8,9,11,12,13,14,15,16,17,18,19,20,21,22,23,24,25,26,27,28,29,30,31,32,4,5]
  (fun m C h => ∃ (i: Nat) (nm: ByteArray) (acc: List DDecl) (kk: Nat) (r: List Blk),i ≤ 13 ∧ acc.length ≤ i ∧ m = 13 - i ∧ clk n (13 - i) nm acc = clock n name ∧ C = [(7,.raw (.int .i64 (i: Nat))),(1,.s nm),(6,.lst 6 (acc.map DDecl.enc) (some kk))] ∧
   h = nodeB n :: r) 13 _ ⟨0,name,[],_,_,by omega,by simp,rfl,rfl,rfl,rfl⟩ (.cons rfl (.cons rfl (.cons rfl .nil))) ?_
 rintro m C j h ⟨i,nm,acc,kk,r,hi,hal,rfl,hc,rfl,rfl⟩
 simp only [go_sem]
 refine brK_dec (fun hlt => ?_) (fun hge => ?_)
 ·
  simp only [go_sem]
  refine PCall.call (decl26 n nm hl) ?_
  have he: 13 - i = (13 - (i + 1)) + 1 := by omega
  rw [he,clk_succ] at hc
  generalize decl n nm = d at hc ⊢
  obtain ⟨d,ok⟩ := d
  simp only [go_sem]
  cases ok with
  | false =>
   simp only [Bool.false_eq_true,if_false] at hc
   rw [← hc]
   simp only [go_sem]
   exact ⟨_,rfl,false,weak_no⟩
  | true =>
   simp only [if_true] at hc
   simp only [go_sem]
   refine brK_dec (fun hon => ?_) (fun hon => ?_)
   ·
    rw [if_pos hon] at hc
    rw [← hc]
    simp only [go_sem]
    exact ⟨_,rfl,false,weak_yes acc _⟩
   ·
    rw [if_neg hon] at hc
    simp only [go_sem]
    refine ⟨by omega,?_⟩
    exact loopFr (13 - (i + 1)) (by omega) ⟨i + 1,d.On,d :: acc,_,_,by omega,by simp; omega,rfl,hc,rfl,rfl⟩
     (.next rfl (by omega) (.cons rfl (.cons rfl .nil))) rfl
 ·
  have: i = 13 := by omega
  subst this
  simp only [go_sem]
  rw [← hc]
  exact ⟨_,rfl,false,weak_no⟩
abbrev placeE (p: DProg) (k: Int): AV := .agg [.lst 2 (p.Enums.map DEnum.enc) none,.lst 5 (p.Nodes.map DNode.enc) none,.i k]
theorem pure_place (p: DProg) (k: Int): Go.Abs.Pure (placeE p k) := .agg _ (pure_cons (DEnum.pures _) (pure_cons (DNode.pures _) (pure_cons (.raw _) pure_nil)))
def condOf (L: List DEnum) (nm arm: ByteArray): DCond := ⟨nm,(armF L arm).2.1⟩
def rowL (L: List DEnum) (l: List DDecl): List DCond × Bool := if l.all (fun d => armOk L d.Ctor) = true then (l.map (fun d => condOf L d.On d.Ctor),true) else ([],false)
def rowN (L: List DEnum) (n: DNode) (name: ByteArray): List DCond × Bool := if (clock n name).2 = true then rowL L (clock n name).1 else ([],false)
def nodeAt (p: DProg) (k: Int): Option DNode := if 0 ≤ k then p.Nodes[k.toNat]? else none
def rowF (p: DProg) (k: Int) (name: ByteArray): List DCond × Bool := match nodeAt p k with | some n => rowN p.Enums n name | none => ([],false)
abbrev rowA (r: List DCond × Bool): AV := .tup [.lst 2 (r.1.map DCond.enc) none,.b r.2]
theorem pure_rowA (r: List DCond × Bool): Go.Abs.Pure (rowA r) := .tup _ (pure_cons (DCond.pures _) (pure_cons (.raw _) pure_nil))
abbrev condA (c: DCond) (ok: Bool): AV := .tup [c.enc,.b ok]
theorem condA_mk (nm: ByteArray) (v: Int) (ok: Bool): condA ⟨nm,v⟩ ok = .tup [.agg [.s nm,.i v],.b ok] := by
 show AV.tup [DCond.enc _,_] = _
 rw [DCond.enc_eq]
theorem pure_condA (c: DCond) (ok: Bool): Go.Abs.Pure (condA c ok) := .tup _ (pure_cons (DCond.pure _) (pure_cons (.raw _) pure_nil))
theorem weak_norow: Weak (.tup [.raw (.slice none 0 0),.b false]) (rowA ([],false)) := Weak.tups ⟨.nil _,.refl _,trivial⟩
theorem isSome_getElem?_dec {α: Type} (l: List α) (i: Nat): (l[i]?).isSome = decide (i < l.length) := by
 by_cases h: i < l.length
 ·
  simp [h]
 ·
  simp [h]
  try omega
theorem rowL_no {L: List DEnum} {l: List DDecl} {d: DDecl} (hd: d ∈ l) (h: armOk L d.Ctor = false): rowL L l = ([],false) := by
 unfold rowL
 rw [if_neg]
 intro q
 have := List.all_eq_true.1 q d hd
 simp [h] at this
theorem rowL_yes {L: List DEnum} {l: List DDecl} (h: ∀ d ∈ l,armOk L d.Ctor = true): rowL L l = (l.map (fun d => condOf L d.On d.Ctor),true) := by
 unfold rowL
 rw [if_pos (List.all_eq_true.2 fun d hd => by simpa using h d hd)]
theorem cond127 (p: DProg) (k: Int) (nm arm: ByteArray): PCall Tryz.prog 163 [placeE p k,.s nm,.s arm] (condA (condOf p.Enums nm arm) (armOk p.Enums arm)) := by
 refine pcall_of_vc tabOK Tryz.func163 (by kernel_rfl) rfl (pure_cons (pure_place p k) (pure_cons (.raw _) (pure_cons (.raw _) pure_nil))) (pure_condA _ _) (n := 24) rfl (rs := [.cell 6 97,.tmp 7]) rfl ?_
 simp only [go_sem]
 refine PCall.call (arm146 _ _) ?_
 rw [show armF p.Enums arm = ((armF p.Enums arm).1,(armF p.Enums arm).2.1,armOk p.Enums arm) from rfl]
 unfold condOf
 generalize armF p.Enums arm = d
 generalize armOk p.Enums arm = ok
 obtain ⟨t,v,ok'⟩ := d
 rw [show armA (t,v,ok) = .tup [.agg [.i t.Kind,.i t.Enum,.i t.Len],.i v,.b ok] by rw [← DTy.enc_eq],condA_mk]
 simp only [go_sem]
 exact ⟨_,rfl,false,.refl _⟩
theorem row90 (p: DProg) (k: Nat) (n: DNode) (hn: p.Nodes[k]? = some n) (name: ByteArray) (hl: (allV n).length ≤ 4294967296): PCall Tryz.prog 131 [placeE p k,.s name] (rowA (rowN p.Enums n name)) := by
 refine pcall_of_vc tabOK Tryz.func131 (by kernel_rfl) rfl (pure_cons (pure_place p k) (pure_cons (.raw _) pure_nil)) (pure_rowA _) (n := 50) rfl (rs := [.tmp 4,.tmp 5]) rfl ?_
 simp only [go_sem]
 refine elemHave (by omega) (by simpa using hn) ?_
 simp only [go_sem]
 refine PCall.call (clock21 n name hl) ?_
 unfold rowN
 have hlen := clock_len n name
 generalize clock n name = d at hlen ⊢
 obtain ⟨l,ok⟩ := d
 dsimp only at hlen
 simp only [go_sem]
 cases ok with
 | false =>
  simp only [go_sem]
  exact ⟨_,rfl,false,weak_norow⟩
 | true =>
  simp only [go_sem]
  intro _
  refine loop_ghost (ghost_own 8 97 2 rfl) ?_
  simp only [go_sem]
  refine loop_fr [4,5,8,10,11,12,29,30,31,32,33,34,35,36,37,38,39,40,41,42,43,44,45,46,47,48] (fun m C h => ∃ (i: Nat) (r: List Blk),i ≤ l.length ∧ m = l.length - i ∧ (∀ d ∈ l.take i,armOk p.Enums d.Ctor = true) ∧ C = [(29,.raw (.int .i64 (i: Nat))),(8,.own 2 1 (((l.take i).map (fun d => condOf p.Enums d.On d.Ctor)).map DCond.enc).length)] ∧
   h = .cells 169 [.lst 2 (p.Enums.map DEnum.enc) none,.lst 5 (p.Nodes.map DNode.enc) none,.i k] :: .own 97 2 (((l.take i).map (fun d => condOf p.Enums d.On d.Ctor)).map DCond.enc) :: r) l.length _ ⟨0,[],by omega,by omega,by simp,rfl,rfl⟩ (.cons rfl (.cons rfl .nil)) ?_
  rintro m C j h ⟨i,r,hi,rfl,ha,rfl,rfl⟩
  simp only [go_sem]
  refine brK_dec (fun hlt => ?_) (fun hge => ?_)
  ·
   simp only [go_sem]
   refine elemMap (by omega) (by omega) (fun x hx => ?_)
   have hx': l[i]? = some x := by simpa using hx
   simp only [go_sem]
   refine PCall.call (cond127 p k x.On x.Ctor) ?_
   simp only [go_sem]
   cases hb: armOk p.Enums x.Ctor with
   | false =>
    simp only [go_sem]
    rw [rowL_no (List.mem_of_getElem? hx') hb]
    exact ⟨_,rfl,false,weak_norow⟩
   | true =>
    simp only [go_sem]
    refine ⟨by simp; omega,?_⟩
    have h3: ((l.take (i + 1)).map (fun d => condOf p.Enums d.On d.Ctor)).map DCond.enc = ((l.take i).map (fun d => condOf p.Enums d.On d.Ctor)).map DCond.enc ++ [(condOf p.Enums x.On x.Ctor).enc] := by
     obtain ⟨hlt',rfl⟩ := List.getElem?_eq_some_iff.1 hx'
     rw [List.take_succ_eq_append_getElem hlt',List.map_append,List.map_append]
     rfl
    exact loopFr _ (by omega) ⟨i + 1,_,by omega,rfl,take_all ha hx' hb,rfl,by rw [h3]⟩
     (.next rfl (by omega) (.cons (by simp; try omega) .nil)) rfl
  ·
   have: i = l.length := by omega
   subst this
   simp only [go_sem]
   rw [List.take_length] at ha ⊢
   rw [rowL_yes ha]
   refine ⟨_,rfl,true,?_⟩
   show Weak (.tup [frz _ (.own 2 1 _),.b true]) _
   refine Weak.tups ⟨?_,.refl _,trivial⟩
   simp [frz]
   exact .refl _
theorem at89 (p: DProg) (k: Int): PCall Tryz.prog 130 [p.enc,.i k] (.tup [placeE p k,.b (nodeAt p k).isSome]) := by
 refine pcall_of_vc tabOK Tryz.func130 (by kernel_rfl) rfl (by first | exact pureL | exact pureI) (.tup _ (pure_cons (pure_place p k) (pure_cons (.raw _) pure_nil))) (n := 18) rfl (rs := [.cell 4 169,.tmp 5]) rfl ?_
 unfold nodeAt
 simp only [go_sem]
 refine drawC [1] mo (by kernel_rfl) ?_
 repeat' first
  | exact finB rfl
  | exact finI rfl
  | exact finP rfl
  | exact absurd rfl (by assumption)
  | simp only [go_sem]
  | (intro _)
  | refine brK_dec (fun _ => ?_) (fun _ => ?_)
  | refine brK_any ?_ ?_
  | refine gK_dec (fun _ => ?_) (fun _ => ?_)
  | refine gK_any ?_ ?_
  | refine gqK_dec (fun _ => ?_) (fun _ => ?_)
  | refine ⟨by omega,?_⟩
  | refine elemHave (by omega) (by assumption) ?_
  | refine elemMap (by omega) (by omega) (fun x hx => ?_)
  | refine drawK mo (by kernel_rfl) ?_
 ·
  rw [if_pos (by assumption),show (p.Nodes[k.toNat]?).isSome = decide (k < p.Nodes.length) by rw [isSome_getElem?_dec]; congr 1; apply propext; omega]
  exact ⟨_,rfl,false,.refl _⟩
 ·
  rw [if_neg (by assumption)]
  exact ⟨_,rfl,false,.refl _⟩
theorem row45 (p: DProg) (k: Int) (name: ByteArray) (hl: ∀ n ∈ p.Nodes,(allV n).length ≤ 4294967296): PCall Tryz.prog 90 [p.enc,.i k,.s name] (rowA (rowF p k name)) := by
 refine pcall_of_vc tabOK Tryz.func90 (by kernel_rfl) rfl pureL pureI (n := 23) rfl (rs := [.tmp 6,.tmp 7]) rfl ?_
 simp only [go_sem]
 refine PCall.call (at89 p k) ?_
 simp only [go_sem]
 unfold rowF
 cases hn: nodeAt p k with
 | none =>
  simp only [go_sem,Option.isSome_none]
  exact ⟨_,rfl,false,weak_norow⟩
 | some n =>
  unfold nodeAt at hn
  have hk: 0 ≤ k := by
   rcases Int.lt_or_le k 0 with h | h
   ·
    rw [if_neg (by omega)] at hn; cases hn
   ·
    exact h
  rw [if_pos hk] at hn
  obtain ⟨m,rfl⟩ := Int.eq_ofNat_of_zero_le hk
  have hn': p.Nodes[m]? = some n := by simpa using hn
  simp only [go_sem,Option.isSome_some]
  refine PCall.call (row90 p m n hn' name (hl n (List.mem_of_getElem? hn'))) ?_
  simp only [go_sem]
  exact ⟨_,rfl,false,.refl _⟩
end Go.Proofs.YtpamokpmlplopaaGreatDoor
namespace Go.Proofs.YtpamokpmlplopaaGreatDoor
open Go.Abs
set_option maxRecDepth 20000
set_option linter.unusedSimpArgs false
set_option linter.unusedVariables false
set_option maxHeartbeats 1000000
attribute [local irreducible] vc vcOps vcStep vcGuard prK hrK gK gsK brK callK ElemK SeqK BlockK ScopeK OpsK CallK LoopK LoopGo finPost ACall PCall PCallE BCall vqOps vqStep vqGuard qrK heK pcK gqK gqsK QOpsK qcallK DrawK
theorem sameCs (l m: List DCond): PCall Tryz.prog 21 [.lst 2 (l.map (DCond.enc)) none,.lst 2 (m.map (DCond.enc)) none] (.b (eqB l m)) := by
 refine pcall_of_vc tabOK Tryz.func21 (by kernel_rfl) rfl pureL pureI (n := 26) rfl (rs := [.tmp 4]) rfl ?_
 repeat' first
  | exact finB rfl
  | exact finI rfl
  | exact finP rfl
  | exact absurd rfl (by assumption)
  | simp only [go_sem]
  | (intro _)
  | refine brK_dec (fun _ => ?_) (fun _ => ?_)
  | refine brK_any ?_ ?_
  | refine gK_dec (fun _ => ?_) (fun _ => ?_)
  | refine gK_any ?_ ?_
  | refine gqK_dec (fun _ => ?_) (fun _ => ?_)
  | refine ⟨by omega,?_⟩
  | refine elemHave (by omega) (by assumption) ?_
  | refine elemMap (by omega) (by omega) (fun x hx => ?_)
  | refine drawK mo (by kernel_rfl) ?_
  | (rw [eqB_ne (len_ne (l := l) (m := m) (by omega))]; exact ⟨_,rfl,false,.refl _⟩)
  | (rw [eqB_ne (at_ne (l := l) (m := m) (i := i) (by assumption) (by assumption) (by assumption))]; exact ⟨_,rfl,false,.refl _⟩)
  | (rw [eqB_eq (take_eq_full (l := l) (m := m) (i := i) (by omega) hpi (by omega))]; exact ⟨_,rfl,false,.refl _⟩)
  | exact loopFrH _ (by omega) ⟨i + 1,by omega,rfl,take_eq_step hpi (by assumption) (by assumption) (by assumption),rfl⟩ (.next rfl (by omega) .nil) rfl
  | (refine loop_frH [4,5,11,12,13,14,15,16,17,18,19,20,21,22,23,24,25] (fun mm_ CC_ => ∃ (i: Nat),i ≤ l.length ∧ mm_ = l.length - i ∧ (l.take i = m.take i) ∧ CC_ = [(5,.raw (.int .i64 ((i: Nat): Int)))]) (l.length) _ ⟨0,by omega,by omega,rfl,rfl⟩ (.cons rfl .nil) ?_; rintro mm_ CC_ ji ⟨i,hi,rfl,hpi,rfl⟩)
theorem equalCs (l m: List DCond): PCall Tryz.prog 110 [.lst 2 (l.map (DCond.enc)) none,.lst 2 (m.map (DCond.enc)) none] (.b (eqB l m)) := by
 refine pcall_of_vc tabOK Tryz.func110 (by kernel_rfl) rfl pureL pureI (n := 26) rfl (rs := [.tmp 4]) rfl ?_
 repeat' first
  | exact finB rfl
  | exact finI rfl
  | exact finP rfl
  | exact absurd rfl (by assumption)
  | simp only [go_sem]
  | (intro _)
  | refine brK_dec (fun _ => ?_) (fun _ => ?_)
  | refine brK_any ?_ ?_
  | refine gK_dec (fun _ => ?_) (fun _ => ?_)
  | refine gK_any ?_ ?_
  | refine gqK_dec (fun _ => ?_) (fun _ => ?_)
  | refine ⟨by omega,?_⟩
  | refine elemHave (by omega) (by assumption) ?_
  | refine elemMap (by omega) (by omega) (fun x hx => ?_)
  | refine drawK mo (by kernel_rfl) ?_
  | (rw [eqB_ne (len_ne (l := l) (m := m) (by omega))]; exact ⟨_,rfl,false,.refl _⟩)
  | (rw [eqB_ne (at_ne (l := l) (m := m) (i := i) (by assumption) (by assumption) (by assumption))]; exact ⟨_,rfl,false,.refl _⟩)
  | (rw [eqB_eq (take_eq_full (l := l) (m := m) (i := i) (by omega) hpi (by omega))]; exact ⟨_,rfl,false,.refl _⟩)
  | exact loopFrH _ (by omega) ⟨i + 1,by omega,rfl,take_eq_step hpi (by assumption) (by assumption) (by assumption),rfl⟩ (.next rfl (by omega) .nil) rfl
  | (refine loop_frH [4,5,13,14,15,16,17,18,19,20,21,22,23,24,25] (fun mm_ CC_ => ∃ (i: Nat),i ≤ l.length ∧ mm_ = l.length - i ∧ (l.take i = m.take i) ∧ CC_ = [(13,.raw (.int .i64 ((i: Nat): Int)))]) (l.length) _ ⟨0,by omega,by omega,rfl,rfl⟩ (.cons rfl .nil) ?_; rintro mm_ CC_ ji ⟨i,hi,rfl,hpi,rfl⟩)
mutual
noncomputable def fitsF (R: ByteArray → List DCond × Bool) (L: List DEnum): Ex → List DCond → Bool
 | .mk k _ m _ a s,on =>
  if k = 1 ∨ k = 2 ∨ k = 4 then true
  else if k = 3 then (R m).2 && eqB (R m).1 on
  else if k = 8 then decide (s.length = 2) && fitsT R L s on
  else if k = 11 then decide (a.length = 1) && decide (s.length = 1) && (R m).2 && armOk L (a.headD ⟨#[]⟩) && eqB on ((R m).1 ++ [condOf L m (a.headD ⟨#[]⟩)]) && fitsL R L s (R m).1
  else if k = 12 then (R m).2 && eqB (R m).1 on && decide (a.length = s.length) && fitsM R L m a s on
  else if k = 17 then false
  else fitsL R L s on
noncomputable def fitsL (R: ByteArray → List DCond × Bool) (L: List DEnum): List Ex → List DCond → Bool
 | [],_ => true
 | x :: xs,on => fitsF R L x on && fitsL R L xs on
noncomputable def fitsT (R: ByteArray → List DCond × Bool) (L: List DEnum): List Ex → List DCond → Bool
 | [],_ => true
 | _ :: xs,on => fitsL R L xs on
noncomputable def fitsM (R: ByteArray → List DCond × Bool) (L: List DEnum) (m: ByteArray): List ByteArray → List Ex → List DCond → Bool
 | _,[],_ => true
 | [],_ :: _,_ => true
 | c :: cs,x :: xs,on => armOk L c && fitsF R L x (on ++ [condOf L m c]) && fitsM R L m cs xs on
end
theorem fitsF_eq (R: ByteArray → List DCond × Bool) (L: List DEnum) (e: Ex) (on: List DCond): fitsF R L e on =
  if e.kind = 1 ∨ e.kind = 2 ∨ e.kind = 4 then true
  else if e.kind = 3 then (R e.name).2 && eqB (R e.name).1 on
  else if e.kind = 8 then decide (e.subs.length = 2) && fitsL R L (e.subs.drop 1) on
  else if e.kind = 11 then decide (e.arms.length = 1) && decide (e.subs.length = 1) && (R e.name).2 && armOk L (e.arms.headD ⟨#[]⟩) && eqB on ((R e.name).1 ++ [condOf L e.name (e.arms.headD ⟨#[]⟩)]) && fitsL R L e.subs (R e.name).1
  else if e.kind = 12 then (R e.name).2 && eqB (R e.name).1 on && decide (e.arms.length = e.subs.length) && fitsM R L e.name e.arms e.subs on
  else if e.kind = 17 then false
  else fitsL R L e.subs on := by
 cases e with
 | mk k n m o a s =>
  rw [fitsF]
  have: fitsT R L s on = fitsL R L (s.drop 1) on := by cases s <;> simp [fitsT,fitsL]
  rw [this]
  rfl
section
variable {R: ByteArray → List DCond × Bool} {L: List DEnum}
theorem fitsL_all (s: List Ex) (on: List DCond): fitsL R L s on = s.all (fun x => fitsF R L x on) := by
 induction s with
 | nil => simp [fitsL]
 | cons x s ih => simp [fitsL,ih]
theorem fitsM_yes {m: ByteArray} {on: List DCond}: ∀ {a: List ByteArray} {s: List Ex},(∀ (i: Nat) c x,a[i]? = some c → s[i]? = some x → armOk L c = true ∧ fitsF R L x (on ++ [condOf L m c]) = true) → fitsM R L m a s on = true
 | _,[],_ => by simp [fitsM]
 | [],_ :: _,_ => by simp [fitsM]
 | c :: cs,x :: xs,h => by
  have h0 := h 0 c x rfl rfl
  rw [fitsM,h0.1,h0.2]
  simp only [Bool.true_and]
  exact fitsM_yes fun i c x hc hx => h (i + 1) c x (by simpa using hc) (by simpa using hx)
theorem fitsM_at {m: ByteArray} {on: List DCond}: ∀ {a: List ByteArray} {s: List Ex} {i: Nat} {c: ByteArray} {x: Ex},fitsM R L m a s on = true → a[i]? = some c → s[i]? = some x → armOk L c = true ∧ fitsF R L x (on ++ [condOf L m c]) = true
 | _,[],i,_,_,_,_,hx => by simp at hx
 | [],_ :: _,i,_,_,_,hc,_ => by simp at hc
 | c :: cs,x :: xs,0,c',x',h,hc,hx => by
  simp at hc hx
  subst hc; subst hx
  rw [fitsM] at h
  simp only [Bool.and_eq_true] at h
  exact h.1
 | c :: cs,x :: xs,i + 1,c',x',h,hc,hx => by
  rw [fitsM] at h
  simp only [Bool.and_eq_true] at h
  exact fitsM_at h.2 (by simpa using hc) (by simpa using hx)
theorem fitsM_no {m: ByteArray} {on: List DCond} {a: List ByteArray} {s: List Ex} {i: Nat} {c: ByteArray} {x: Ex} (hc: a[i]? = some c) (hx: s[i]? = some x) (h: armOk L c = false ∨ fitsF R L x (on ++ [condOf L m c]) = false): fitsM R L m a s on = false := by
 cases hb: fitsM R L m a s on with
 | false => rfl
 | true =>
  have := fitsM_at hb hc hx
  simp_all
end
theorem monoAppI: ∀ (r x: List Blk),MonoH r (r ++ x)
 | [],_ => trivial
 | b :: r,x => ⟨by cases b <;> trivial,monoAppI r x⟩
theorem monoApp (r x: List Blk): MonoH r (r ++ x) = True := eq_true (monoAppI r x)
theorem monoApp2: ∀ (r x y: List Blk),MonoH (r ++ x) (r ++ y) = MonoH x y
 | [],_,_ => rfl
 | b :: r,x,y => by
  show ((match b with | .cells _ cs => (match b with | .cells _ cs' => cs = cs' | _ => False) | _ => True) ∧ MonoH (r ++ x) (r ++ y)) = _
  rw [monoApp2 r x y]
  cases b <;> simp
theorem on_split {on: List DCond} {k: Nat} {c: DCond} (hk: on.length = k + 1) (hc: on[k]? = some c): on = on.take k ++ [c] := by
 obtain ⟨hlt,rfl⟩ := List.getElem?_eq_some_iff.1 hc
 rw [← List.take_succ_eq_append_getElem hlt,List.take_of_length_le (by omega)]
theorem eqB_split {on r: List DCond} {j: Nat} {c d: DCond} (hon: on = on.take j ++ [c]): eqB on (r ++ [d]) = (eqB r (on.take j) && decide (c = d)) := by
 by_cases h1: r = on.take j
 ·
  by_cases h2: c = d
  ·
   rw [eqB_eq (by rw [h1,← h2]; exact hon),eqB_eq h1]; simp [h2]
  ·
   rw [eqB_ne (fun e => h2 (by rw [hon] at e; exact (List.append_inj' e rfl).2 |> fun q => by simpa using q))]; simp [h2]
 ·
  rw [eqB_ne (fun e => h1 (by rw [hon] at e; exact (List.append_inj' e rfl).1.symm)),eqB_ne h1]; simp
theorem eq_one {α: Type} {l: List α} {x: α} (hl: l.length = 1) (hx: l[0]? = some x): l = [x] := by
 match l,hl with
 | [y],_ => simp at hx; rw [hx]
theorem size_lt {e x: Ex} (h: x ∈ e.subs): (parts x).length < (parts e).length := by
 obtain ⟨i,hi,rfl⟩ := List.getElem_of_mem h
 have := parts_le hi
 rw [parts_eq e]
 simp
 omega
theorem on129 (p: DProg) (k: Nat) (n: DNode) (hn: p.Nodes[k]? = some n) (hl: (allV n).length ≤ 4294967296) (name: ByteArray) (on: List DCond) :
  PCall Tryz.prog 201 [placeE p k,.s name,.lst 2 (on.map DCond.enc) none] (.b ((rowN p.Enums n name).2 && eqB (rowN p.Enums n name).1 on)) := by
 refine pcall_of_vc tabOK Tryz.func201 (by kernel_rfl) rfl (pure_cons (pure_place p k) (pure_cons (.raw _) (pure_cons (DCond.pures _) pure_nil))) (.raw _) (n := 21) rfl (rs := [.tmp 6]) rfl ?_
 simp only [go_sem]
 refine PCall.call (row90 p k n hn name hl) ?_
 generalize rowN p.Enums n name = r
 obtain ⟨r,ok⟩ := r
 cases ok with
 | false =>
  simp only [go_sem]
  first | exact ⟨_,rfl,false,.refl _⟩ | (refine drawK mo (by kernel_rfl) ?_; simp only [go_sem]; exact ⟨_,rfl,false,.refl _⟩)
 | true =>
  simp only [go_sem]
  first | refine PCall.call (equalCs r on) ?_ | (refine drawK mo (by kernel_rfl) ?_; simp only [go_sem]; refine pcK_of (equalCs r on) ?_)
  simp only [go_sem]
  exact ⟨_,rfl,false,.refl _⟩
theorem when134 (on: List DCond) (name: ByteArray) (v: Int) (hl: on.length ≤ 1000000): PCall Tryz.prog 144 [.lst 2 (on.map DCond.enc) none,.s name,.i v] (.lst 2 ((on ++ [(⟨name,v⟩: DCond)]).map DCond.enc) none) := by
 refine pcall_of_vc tabOK Tryz.func144 (by kernel_rfl) rfl pureL pureI (n := 15) rfl (rs := [.tmp 6]) rfl ?_
 repeat' first
  | exact finB rfl
  | exact finI rfl
  | exact finP rfl
  | exact absurd rfl (by assumption)
  | simp only [go_sem]
  | (intro _)
  | refine brK_dec (fun _ => ?_) (fun _ => ?_)
  | refine brK_any ?_ ?_
  | refine gK_dec (fun _ => ?_) (fun _ => ?_)
  | refine gK_any ?_ ?_
  | refine gqK_dec (fun _ => ?_) (fun _ => ?_)
  | refine ⟨by omega,?_⟩
  | refine elemHave (by omega) (by assumption) ?_
  | refine elemMap (by omega) (by omega) (fun x hx => ?_)
  | refine drawK mo (by kernel_rfl) ?_
  | (refine ⟨⟨by simp,by simp; omega⟩,?_⟩)
  | (refine ⟨⟨by omega,by omega⟩,?_⟩)
  | (rw [List.map_append,show List.map DCond.enc [(⟨name,v⟩: DCond)] = [.agg [.s name,.i v]] by simp [DCond.enc_eq]]; exact ⟨_,rfl,false,.tok _ _ _⟩)
end Go.Proofs.YtpamokpmlplopaaGreatDoor
namespace Go.Proofs.YtpamokpmlplopaaGreatDoor
open Go.Abs
set_option maxRecDepth 20000
set_option linter.unusedSimpArgs false
set_option linter.unusedVariables false
set_option maxHeartbeats 1000000
attribute [local irreducible] vc vcOps vcStep vcGuard prK hrK gK gsK brK callK ElemK SeqK BlockK ScopeK OpsK CallK LoopK LoopGo finPost ACall PCall PCallE BCall vqOps vqStep vqGuard qrK heK pcK gqK gqsK QOpsK qcallK DrawK
theorem when130 (p: DProg) (k: Nat) (n: DNode) (hn: p.Nodes[k]? = some n) (hl: (allV n).length ≤ 4294967296) (e: Ex) (on: List DCond) (h11: e.kind = 11)
  (ih: ∀ x ∈ e.subs,∀ on': List DCond,on'.length ≤ on.length + 14 → PCall Tryz.prog 202 [placeE p k,x.enc,.lst 2 (on'.map DCond.enc) none] (.b (fitsF (rowN p.Enums n) p.Enums x on'))) :
  PCall Tryz.prog 250 [placeE p k,e.enc,.lst 2 (on.map DCond.enc) none] (.b (fitsF (rowN p.Enums n) p.Enums e on)) := by
 refine pcall_of_vc tabOK Tryz.func250 (by kernel_rfl) rfl (pure_cons (pure_place p k) (pure_cons (pure_enc e) (pure_cons (DCond.pures _) pure_nil))) (.raw _) (n := 67) rfl (rs := [.tmp 6]) rfl ?_
 have hB: fitsF (rowN p.Enums n) p.Enums e on = (decide (e.arms.length = 1) && decide (e.subs.length = 1) && (rowN p.Enums n e.name).2 && armOk p.Enums (e.arms.headD ⟨#[]⟩) && eqB on ((rowN p.Enums n e.name).1 ++ [condOf p.Enums e.name (e.arms.headD ⟨#[]⟩)]) && fitsL (rowN p.Enums n) p.Enums e.subs (rowN p.Enums n e.name).1) := by
  rw [fitsF_eq]; simp [h11]
 rw [hB]
 clear hB
 by_cases hst: ¬ (on.length = 0) ∧ e.arms.length = 1 ∧ e.subs.length = 1
 ·
  obtain ⟨hon,ha1,hs1⟩ := hst
  obtain ⟨j,hj⟩: ∃ j,on.length = j + 1 := ⟨on.length - 1,by omega⟩
  obtain ⟨c,hc⟩: ∃ c,on[j]? = some c := ⟨_,List.getElem?_eq_getElem (by omega)⟩
  obtain ⟨a,ha⟩: ∃ a,e.arms[0]? = some a := ⟨_,List.getElem?_eq_getElem (by omega)⟩
  obtain ⟨x,hx⟩: ∃ x,e.subs[0]? = some x := ⟨_,List.getElem?_eq_getElem (by omega)⟩
  have hxm := List.mem_of_getElem? hx
  have hon' := on_split hj hc
  rw [eq_one ha1 ha]
  rw [show fitsL (rowN p.Enums n) p.Enums e.subs (rowN p.Enums n e.name).1 = fitsF (rowN p.Enums n) p.Enums x (rowN p.Enums n e.name).1 by rw [eq_one hs1 hx]; simp [fitsL]]
  simp only [hs1,List.headD_cons,List.length_singleton,decide_true,Bool.true_and]
  simp only [go_sem]
  intro hmax
  have hw: IntKind.i64.wrap ((on.length: Int) - 1) = (j: Int) := by rw [hj,wrap_in _ (by omega) (by omega)]; omega
  simp only [hw]
  repeat' first
   | (exfalso; omega)
   | simp only [go_sem]
   | refine brK_dec (fun _ => ?_) (fun _ => ?_)
   | refine gK_dec (fun _ => ?_) (fun _ => ?_)
   | refine gqK_dec (fun _ => ?_) (fun _ => ?_)
   | (intro _)
   | refine drawK mo (by kernel_rfl) ?_
   | refine elemHave (by omega) ha ?_
   | refine elemHave (by omega) hx ?_
   | refine elemHave (by omega) (by simpa using hc) ?_
   | (refine pcK_of (cond127 p k e.name a) ?_; generalize hok: armOk p.Enums a = ok; cases ok)
   | (refine pcK_of (on129 p k n hn hl e.name (on.take j)) ?_; rw [Int.toNat_natCast]; generalize hr: rowN p.Enums n e.name = r; obtain ⟨r,okr⟩ := r; cases okr <;> (try generalize hq: eqB r (on.take j) = q) <;> (try cases q) <;> (try (replace hq := eqB_t hq; subst hq)))
   | refine pcK_of (ih x hxm (on.take j) (by simp; omega)) ?_
   | refine ⟨by omega,?_⟩
   | (refine finBq rfl ?_; first | (simp; done) | (rw [eqB_split hon']; clear hon'; simp [*]; done) | (rw [eqB_split hon',eqB_eq rfl]; clear hon'; simp [*]; done))
 ·
  have hB: (decide (e.arms.length = 1) && decide (e.subs.length = 1) && (rowN p.Enums n e.name).2 && armOk p.Enums (e.arms.headD ⟨#[]⟩) && eqB on ((rowN p.Enums n e.name).1 ++ [condOf p.Enums e.name (e.arms.headD ⟨#[]⟩)]) && fitsL (rowN p.Enums n) p.Enums e.subs (rowN p.Enums n e.name).1) = false := by
   by_cases h0: on.length = 0
   ·
    have: eqB on ((rowN p.Enums n e.name).1 ++ [condOf p.Enums e.name (e.arms.headD ⟨#[]⟩)]) = false := eqB_ne (len_ne (by simp; omega))
    rw [this]; simp
   ·
    have: ¬ (e.arms.length = 1) ∨ ¬ (e.subs.length = 1) := by
     rcases Classical.em (e.arms.length = 1) with q | q
     ·
      exact .inr fun q' => hst ⟨h0,q,q'⟩
     ·
      exact .inl q
    rcases this with q | q <;> simp [q]
  rw [hB]
  simp only [go_sem]
  intro hmax
  have hw: IntKind.i64.wrap ((on.length: Int) - 1) = (on.length: Int) - 1 := wrap_in _ (by omega) (by omega)
  simp only [hw]
  repeat' first
   | (exfalso; omega)
   | exact finP rfl
   | simp only [go_sem]
   | refine brK_dec (fun _ => ?_) (fun _ => ?_)
   | refine gK_dec (fun _ => ?_) (fun _ => ?_)
   | refine gqK_dec (fun _ => ?_) (fun _ => ?_)
   | (intro _)
   | refine drawK mo (by kernel_rfl) ?_
theorem weak_tk {sz: Nat} {es ds: List AV} {k: Nat} (h: es = ds): Weak (.lst sz es (some k)) (.lst sz ds none) := h ▸ .tok _ _ _
theorem merge131 (p: DProg) (k: Nat) (n: DNode) (hn: p.Nodes[k]? = some n) (hl: (allV n).length ≤ 4294967296) (e: Ex) (on: List DCond) (h12: e.kind = 12) (hlen: on.length ≤ 1000000)
  (ih: ∀ x ∈ e.subs,∀ on': List DCond,on'.length ≤ on.length + 14 → PCall Tryz.prog 202 [placeE p k,x.enc,.lst 2 (on'.map DCond.enc) none] (.b (fitsF (rowN p.Enums n) p.Enums x on'))) :
  PCall Tryz.prog 251 [placeE p k,e.enc,.lst 2 (on.map DCond.enc) none] (.b (fitsF (rowN p.Enums n) p.Enums e on)) := by
 refine pcall_of_vc tabOK Tryz.func251 (by kernel_rfl) rfl (pure_cons (pure_place p k) (pure_cons (pure_enc e) (pure_cons (DCond.pures _) pure_nil))) (.raw _) (n := 66) rfl (rs := [.tmp 6]) rfl ?_
 have hB: fitsF (rowN p.Enums n) p.Enums e on = ((rowN p.Enums n e.name).2 && eqB (rowN p.Enums n e.name).1 on && decide (e.arms.length = e.subs.length) && fitsM (rowN p.Enums n) p.Enums e.name e.arms e.subs on) := by
  rw [fitsF_eq]; simp [h12]
 rw [hB]
 clear hB
 have hon := on129 p k n hn hl e.name on
 simp only [go_sem]
 refine PCall.call hon ?_
 generalize ((rowN p.Enums n e.name).2 && eqB (rowN p.Enums n e.name).1 on) = b0
 cases b0 with
 | false =>
  rw [Bool.false_and,Bool.false_and]
  simp only [go_sem]
  exact finP rfl
 | true =>
  rw [Bool.true_and]
  simp only [go_sem]
  intro _ _
  refine brK_dec (fun hne => ?_) (fun heq => ?_)
  ·
   simp only [go_sem]
   exact finBq rfl (by have: ¬ (e.arms.length = e.subs.length) := by omega
                       simp [this])
  ·
   have heq': e.arms.length = e.subs.length := by omega
   rw [decide_eq_true heq',Bool.true_and]
   simp only [go_sem,List.take_length]
   intro _ _
   refine ⟨by omega,?_⟩
   intro _
   refine loop_frX [6,8,9,10,11,36,37,38,39,40,41,42,43,44,45,46,47,48,49,50,51,52,53,54,55,56,57,58,59,60,61,62,63,64,65] (fun m C => ∃ i: Nat,i ≤ e.arms.length ∧ m = e.arms.length - i ∧ (∀ (j: Nat) c x,j < i → e.arms[j]? = some c → e.subs[j]? = some x → armOk p.Enums c = true ∧ fitsF (rowN p.Enums n) p.Enums x (on ++ [condOf p.Enums e.name c]) = true) ∧ C = [(36,.raw (.int .i64 (i: Nat)))]) e.arms.length _ ⟨0,by omega,by omega,fun j c x hj => by omega,rfl⟩ (.cons rfl .nil) ?_
   rintro m C jj r ⟨i,hi,rfl,hp,rfl⟩
   simp only [go_sem]
   refine brK_dec (fun hlt => ?_) (fun hge => ?_)
   ·
    have hlt': i < e.arms.length := by omega
    obtain ⟨c,hc⟩: ∃ c,e.arms[i]? = some c := ⟨_,List.getElem?_eq_getElem hlt'⟩
    obtain ⟨x,hx⟩: ∃ x,e.subs[i]? = some x := ⟨_,List.getElem?_eq_getElem (by omega)⟩
    simp only [go_sem]
    refine elemHave (by omega) (by simpa using hc) ?_
    simp only [go_sem]
    refine PCall.call (cond127 p k e.name c) ?_
    generalize hok: armOk p.Enums c = ok
    cases ok with
    | false =>
     simp only [go_sem]
     refine drawK mo (by kernel_rfl) ?_
     simp only [go_sem,monoApp,monoApp2]
     exact finBq rfl (fitsM_no hc hx (.inl hok)).symm
    | true =>
     simp only [go_sem]
     refine drawK mo (by kernel_rfl) ?_
     simp only [go_sem,monoApp,monoApp2]
     refine elemHave (by omega) (by simpa using hx) ?_
     simp only [go_sem,monoApp,monoApp2]
     simp only [Int.toNat_natCast,List.take_length]
     refine ⟨⟨by first | rfl | trivial | omega,by omega⟩,?_⟩
     refine pcK_ofW (ih x (List.mem_of_getElem? hx) (on ++ [condOf p.Enums e.name c]) (by simp)) ⟨.refl _,.refl _,weak_tk (by simp),trivial⟩ ?_
     generalize hf: fitsF (rowN p.Enums n) p.Enums x (on ++ [condOf p.Enums e.name c]) = f
     cases f with
     | false =>
      simp only [go_sem]
      exact finBq rfl (fitsM_no hc hx (.inr hf)).symm
     | true =>
      simp only [go_sem]
      exact loopFrX _ (by omega) _ ⟨i + 1,by omega,rfl,fun j c' x' hj hc' hx' => by
       rcases Nat.lt_or_ge j i with h | h
       ·
        exact hp j c' x' h hc' hx'
       ·
        have: j = i := by omega
        subst this
        rw [hc] at hc'; rw [hx] at hx'
        cases hc'; cases hx'
        exact ⟨hok,hf⟩,rfl⟩ (.next rfl (by omega) .nil) rfl (by first | rfl | (simp only [List.append_assoc,List.cons_append,List.nil_append]; rfl))
   ·
    have: i = e.arms.length := by omega
    subst this
    simp only [go_sem]
    refine finBq rfl (fitsM_yes fun j c x hc hx => hp j c x (List.getElem?_eq_some_iff.1 hc).1 hc hx).symm
theorem containsEx {l: List Ex} {p: Ex → Bool} {g: Nat} {first capt: List AV} {h: List Blk} {K: AV → List Blk → Prop} (hp: ∀ x ∈ l,∀ K: AV → List Blk → Prop,K (.b (p x)) h → ACall Tryz.prog g (first ++ Ex.enc x :: capt) h K)
  (hK: K (.b (l.any p)) h): ACall Tryz.prog 170 [.lst 6 (l.map Ex.enc) none,.fn (.func g) first capt] h K := by
 refine acall_of_vc tabOK Tryz.func170 (by kernel_rfl) rfl (n := 9) rfl (rs := [.tmp 4]) rfl ?_
 simp only [go_sem]
 refine indexEx hp ?_
 simp only [go_sem]
 rw [idx_any]
 exact finH1 rfl (.raw _) hK
theorem fits92 (p: DProg) (k: Nat) (n: DNode) (hn: p.Nodes[k]? = some n) (hl: (allV n).length ≤ 4294967296): ∀ (e: Ex) (on: List DCond),on.length + 14 * (parts e).length ≤ 100000 →
  PCall Tryz.prog 202 [placeE p k,e.enc,.lst 2 (on.map DCond.enc) none] (.b (fitsF (rowN p.Enums n) p.Enums e on)) := by
 intro e
 induction e using Ex.ind with
 | _ e ih =>
 intro on hb
 have ih': ∀ x ∈ e.subs,∀ on': List DCond,on'.length ≤ on.length + 14 → PCall Tryz.prog 202 [placeE p k,x.enc,.lst 2 (on'.map DCond.enc) none] (.b (fitsF (rowN p.Enums n) p.Enums x on')) :=
  fun x hx on' h => ih x hx on' (by have := size_lt hx; omega)
 refine pcall_of_vc tabOK Tryz.func202 (by kernel_rfl) rfl (pure_cons (pure_place p k) (pure_cons (pure_enc e) (pure_cons (DCond.pures _) pure_nil))) (.raw _) (n := 48) rfl (rs := [.tmp 6]) rfl ?_
 simp only [go_sem]
 repeat' first
  | (exfalso; omega)
  | simp only [go_sem]
  | refine brK_dec (fun _ => ?_) (fun _ => ?_)
  | (intro _)
  | refine ⟨by omega,?_⟩
  | refine PCall.call (on129 p k n hn hl e.name on) ?_
  | refine PCall.call (when130 p k n hn hl e on (by assumption) ih') ?_
  | refine PCall.call (merge131 p k n hn hl e on (by assumption) (by omega) ih') ?_
  | (refine finBq rfl ?_; rw [fitsF_eq]; first | (simp [*]; done) | (have h2: ¬ e.subs.length = 2 := (by omega); simp [*]; done))
  | (refine finBq rfl rfl)
  | (refine containsEx (p := fun x => !fitsF (rowN p.Enums n) p.Enums x on) (fun x hx K hK => ?_) ?_
    ·
     refine acall_of_vc tabOK Tryz.func252 (by kernel_rfl) rfl (n := 10) rfl (rs := [.tmp 4]) rfl ?_
     simp only [go_sem]
     refine PCall.call (ih' x (by first | exact hx | exact List.mem_of_mem_drop hx) on (by omega)) ?_
     simp only [go_sem]
     exact finH0 _ rfl (.raw _) hK
    simp only [go_sem]
    refine finBq rfl ?_
    rw [fitsF_eq]
    first | (simp [*,fitsL_all,List.all_eq_not_any_not]; done) | (have h2: e.subs.length = 2 := (by omega); simp [*,fitsL_all,List.all_eq_not_any_not]; done))
theorem nodeAt_nat {p: DProg} {k: Nat}: nodeAt p k = p.Nodes[k]? := by simp [nodeAt]
theorem nodeAt_none {p: DProg} {k: Int}: nodeAt p k = none ↔ (k < 0 ∨ k ≥ p.Nodes.length) := by
 unfold nodeAt
 split
 ·
  simp [List.getElem?_eq_none_iff]; omega
 ·
  simp; omega
theorem nodeAt_some {p: DProg} {k: Int} {n: DNode} (h: nodeAt p k = some n): ∃ j: Nat,k = j ∧ p.Nodes[j]? = some n := by
 unfold nodeAt at h
 split at h
 ·
  exact ⟨k.toNat,by omega,h⟩
 ·
  cases h
abbrev progB (p: DProg): Blk := .cells 25 [.lst 2 (p.Enums.map DEnum.enc) none,.lst 5 (p.Nodes.map DNode.enc) none]
theorem armA_fst (L: List DEnum) (c: ByteArray): armA (armF L c) = armA ((armF L c).1,(armF L c).2.1,armOk L c) := rfl
theorem row46v (p: DProg) (k: Nat) (n: DNode) (hn: p.Nodes[k]? = some n) (name: ByteArray) (hl: (allV n).length ≤ 4294967296): PCall Tryz.prog 35 [p.enc,.i k,.s name] (rowA (rowN p.Enums n name)) := by
 refine pcall_of_vc tabOK Tryz.func35 (by kernel_rfl) rfl pureL pureI (n := 68) rfl (rs := [.tmp 6,.tmp 7]) rfl ?_
 have hk: k < p.Nodes.length := (List.getElem?_eq_some_iff.1 hn).1
 repeat' first | (exfalso; omega) | simp only [go_sem] | (intro _) | refine gK_dec (fun _ => ?_) (fun _ => ?_) | refine brK_dec (fun _ => ?_) (fun _ => ?_)
 refine elemHave (by omega) (by simpa using hn) ?_
 simp only [go_sem]
 refine PCall.call (clock22 n name hl) ?_
 unfold rowN
 have hlen := clock_len n name
 generalize clock n name = d at hlen ⊢
 obtain ⟨l,ok⟩ := d
 dsimp only at hlen
 cases ok with
 | false =>
  simp only [go_sem]
  exact ⟨_,rfl,false,weak_norow⟩
 | true =>
  simp only [go_sem]
  refine loop_fr [6,7,10,11,12,13,14,37,38,39,40,41,42,43,44,45,46,47,48,49,50,51,52,53,54,55,56,57,58,59,60,61,62,63,64,65,66] (fun m C h => ∃ (i: Nat) (r: List Blk),i ≤ l.length ∧ m = l.length - i ∧ (∀ d ∈ l.take i,armOk p.Enums d.Ctor = true) ∧ C = [(11,.raw (.int .i64 (i: Nat))),(10,.lst 2 (((l.take i).map (fun d => condOf p.Enums d.On d.Ctor)).map DCond.enc) (some 1))] ∧
   h = progB p :: .tok 97 2 (((l.take i).map (fun d => condOf p.Enums d.On d.Ctor)).map DCond.enc).length :: r) l.length _ ⟨0,[],by omega,by omega,by simp,rfl,rfl⟩ (.cons rfl (.cons rfl .nil)) ?_
  rintro m C j h ⟨i,r,hi,rfl,ha,rfl,rfl⟩
  simp only [go_sem]
  intro _
  refine brK_dec (fun hlt => ?_) (fun hge => ?_)
  ·
   simp only [go_sem]
   refine drawK mo (by kernel_rfl) ?_
   simp only [go_sem]
   refine elemMap (by omega) (by omega) (fun x hx => ?_)
   have hx': l[i]? = some x := by simpa using hx
   simp only [go_sem]
   refine pcK_of (arm91 p.Enums x.Ctor) ?_
   rw [armA_fst]
   generalize hb: armOk p.Enums x.Ctor = ok
   cases ok with
   | false =>
    simp only [go_sem,monoApp,monoApp2]
    rw [rowL_no (List.mem_of_getElem? hx') hb]
    exact ⟨_,rfl,false,weak_norow⟩
   | true =>
    simp only [go_sem,monoApp,monoApp2]
    refine elemMap (by omega) (by omega) (fun y hy => ?_)
    rw [hx] at hy; cases hy
    simp only [go_sem]
    refine ⟨by simp; omega,?_⟩
    have h3: ((l.take (i + 1)).map (fun d => condOf p.Enums d.On d.Ctor)).map DCond.enc = ((l.take i).map (fun d => condOf p.Enums d.On d.Ctor)).map DCond.enc ++ [.agg [.s x.On,.i (armF p.Enums x.Ctor).2.1]] := by
     obtain ⟨hlt',rfl⟩ := List.getElem?_eq_some_iff.1 hx'
     rw [List.take_succ_eq_append_getElem hlt',List.map_append,List.map_append]
     simp only [List.map_cons,List.map_nil,DCond.enc_eq,condOf]
    have h4: (l.take (i + 1)).length = (l.take i).length + 1 := by simp; omega
    exact loopFr _ (by omega) ⟨i + 1,_,by omega,rfl,take_all ha hx' hb,rfl,by rw [h4]⟩
     (.next rfl (by omega) (.cons (by rw [h3]; rfl) .nil)) rfl
  ·
   have: i = l.length := by omega
   subst this
   simp only [go_sem]
   rw [List.take_length] at ha ⊢
   rw [rowL_yes ha]
   exact ⟨_,rfl,false,Weak.tups ⟨.tok _ _ _,.refl _,trivial⟩⟩
theorem row46n (p: DProg) (k: Int) (hn: nodeAt p k = none) (name: ByteArray): PCall Tryz.prog 35 [p.enc,.i k,.s name] (rowA ([],false)) := by
 refine pcall_of_vc tabOK Tryz.func35 (by kernel_rfl) rfl pureL pureI (n := 68) rfl (rs := [.tmp 6,.tmp 7]) rfl ?_
 have hk := nodeAt_none.1 hn
 repeat' first | (exfalso; omega) | exact ⟨_,rfl,false,weak_norow⟩ | simp only [go_sem] | (intro _) | refine gK_dec (fun _ => ?_) (fun _ => ?_) | refine brK_dec (fun _ => ?_) (fun _ => ?_)
theorem row46 (p: DProg) (k: Int) (name: ByteArray) (hl: ∀ n ∈ p.Nodes,(allV n).length ≤ 4294967296): PCall Tryz.prog 35 [p.enc,.i k,.s name] (rowA (rowF p k name)) := by
 unfold rowF
 cases hn: nodeAt p k with
 | none => exact row46n p k hn name
 | some n =>
  obtain ⟨j,rfl,hj⟩ := nodeAt_some hn
  exact row46v p j n hj name (hl n (List.mem_of_getElem? hj))
theorem when93 (p: DProg) (k: Nat) (n: DNode) (hn: p.Nodes[k]? = some n) (hl: (allV n).length ≤ 4294967296) (e: Ex) (on: List DCond) (h11: e.kind = 11)
  (ih: ∀ x ∈ e.subs,∀ on': List DCond,on'.length ≤ on.length + 14 → PCall Tryz.prog 152 [p.enc,.i k,x.enc,.lst 2 (on'.map DCond.enc) none] (.b (fitsF (rowN p.Enums n) p.Enums x on'))) (hrow: (rowN p.Enums n e.name).1.length ≤ 13) :
  PCall Tryz.prog 191 [p.enc,.i k,e.enc,.lst 2 (on.map DCond.enc) none] (.b (fitsF (rowN p.Enums n) p.Enums e on)) := by
 refine pcall_of_vc tabOK Tryz.func191 (by kernel_rfl) rfl pureL pureI (n := 67) rfl (rs := [.tmp 8]) rfl ?_
 have hB: fitsF (rowN p.Enums n) p.Enums e on = (decide (e.arms.length = 1) && decide (e.subs.length = 1) && (rowN p.Enums n e.name).2 && armOk p.Enums (e.arms.headD ⟨#[]⟩) && eqB on ((rowN p.Enums n e.name).1 ++ [condOf p.Enums e.name (e.arms.headD ⟨#[]⟩)]) && fitsL (rowN p.Enums n) p.Enums e.subs (rowN p.Enums n e.name).1) := by
  rw [fitsF_eq]; simp [h11]
 rw [hB]
 clear hB
 simp only [go_sem]
 refine PCall.call (row46v p k n hn e.name hl) ?_
 generalize hR: rowN p.Enums n e.name = r at hrow ⊢
 obtain ⟨r,okr⟩ := r
 dsimp only at hrow
 by_cases hst: e.arms.length = 1 ∧ e.subs.length = 1
 ·
  obtain ⟨ha1,hs1⟩ := hst
  obtain ⟨a,ha⟩: ∃ a,e.arms[0]? = some a := ⟨_,List.getElem?_eq_getElem (by omega)⟩
  obtain ⟨x,hx⟩: ∃ x,e.subs[0]? = some x := ⟨_,List.getElem?_eq_getElem (by omega)⟩
  have hxm := List.mem_of_getElem? hx
  rw [show e.arms.headD ⟨#[]⟩ = a by rw [eq_one ha1 ha]; rfl]
  rw [show fitsL (rowN p.Enums n) p.Enums e.subs r = fitsF (rowN p.Enums n) p.Enums x r by rw [eq_one hs1 hx]; simp [fitsL]]
  rw [decide_eq_true ha1,decide_eq_true hs1,Bool.true_and,Bool.true_and]
  cases okr with
  | false =>
   repeat' first
    | (exfalso; omega)
    | exact finBq rfl (by simp)
    | simp only [go_sem]
    | (intro _)
    | refine brK_dec (fun _ => ?_) (fun _ => ?_)
    | refine gK_dec (fun _ => ?_) (fun _ => ?_)
  | true =>
   repeat' first
    | (exfalso; omega)
    | simp only [go_sem,monoApp,monoApp2]
    | (intro _)
    | refine brK_dec (fun _ => ?_) (fun _ => ?_)
    | refine gK_dec (fun _ => ?_) (fun _ => ?_)
    | refine gqK_dec (fun _ => ?_) (fun _ => ?_)
    | refine drawK mo (by kernel_rfl) ?_
    | refine elemHave (by omega) ha ?_
    | refine elemHave (by omega) hx ?_
    | (refine pcK_of (arm91 p.Enums a) ?_; rw [armA_fst]; generalize hok: armOk p.Enums a = ok; cases ok)
    | refine pcK_of (when134 r e.name (armF p.Enums a).2.1 (by omega)) ?_
    | (refine pcK_of (sameCs on (r ++ [(⟨e.name,(armF p.Enums a).2.1⟩: DCond)])) ?_; rw [show condOf p.Enums e.name a = ⟨e.name,(armF p.Enums a).2.1⟩ from rfl]; generalize eqB on (r ++ [(⟨e.name,(armF p.Enums a).2.1⟩: DCond)]) = q; cases q)
    | refine pcK_of (ih x hxm r (by omega)) ?_
    | (refine finBq rfl ?_; first | rfl | (simp; done))
 ·
  have hB: ∀ z,(decide (e.arms.length = 1) && decide (e.subs.length = 1) && okr && armOk p.Enums (e.arms.headD ⟨#[]⟩) && eqB on (r ++ [condOf p.Enums e.name (e.arms.headD ⟨#[]⟩)]) && z) = false := by
   intro z
   have: ¬ (e.arms.length = 1) ∨ ¬ (e.subs.length = 1) := by
    rcases Classical.em (e.arms.length = 1) with q | q
    ·
     exact .inr fun q' => hst ⟨q,q'⟩
    ·
     exact .inl q
   rcases this with q | q <;> simp [q]
  rw [hB]
  cases okr <;>
  repeat' first
   | (exfalso; omega)
   | exact finP rfl
   | simp only [go_sem]
   | (intro _)
   | refine brK_dec (fun _ => ?_) (fun _ => ?_)
   | refine gK_dec (fun _ => ?_) (fun _ => ?_)
   | refine drawK mo (by kernel_rfl) ?_
theorem merge94 (p: DProg) (k: Nat) (n: DNode) (hn: p.Nodes[k]? = some n) (hl: (allV n).length ≤ 4294967296) (e: Ex) (on: List DCond) (h12: e.kind = 12) (hlen: on.length ≤ 1000000)
  (ih: ∀ x ∈ e.subs,∀ on': List DCond,on'.length ≤ on.length + 14 → PCall Tryz.prog 152 [p.enc,.i k,x.enc,.lst 2 (on'.map DCond.enc) none] (.b (fitsF (rowN p.Enums n) p.Enums x on'))) :
  PCall Tryz.prog 192 [p.enc,.i k,e.enc,.lst 2 (on.map DCond.enc) none] (.b (fitsF (rowN p.Enums n) p.Enums e on)) := by
 refine pcall_of_vc tabOK Tryz.func192 (by kernel_rfl) rfl pureL pureI (n := 77) rfl (rs := [.tmp 8]) rfl ?_
 have hB: fitsF (rowN p.Enums n) p.Enums e on = ((rowN p.Enums n e.name).2 && eqB (rowN p.Enums n e.name).1 on && decide (e.arms.length = e.subs.length) && fitsM (rowN p.Enums n) p.Enums e.name e.arms e.subs on) := by
  rw [fitsF_eq]; simp [h12]
 rw [hB]
 clear hB
 simp only [go_sem]
 refine PCall.call (row46v p k n hn e.name hl) ?_
 generalize hR: rowN p.Enums n e.name = r
 obtain ⟨r,okr⟩ := r
 by_cases hst: okr = true ∧ r = on ∧ e.arms.length = e.subs.length
 ·
  obtain ⟨rfl,rfl,heq'⟩ := hst
  rw [decide_eq_true heq',eqB_eq rfl]
  simp only [Bool.true_and]
  repeat' first
   | (exfalso; omega)
   | simp only [go_sem,eqB_eq,Bool.not_true]
   | (intro _)
   | (refine PCall.call (sameCs r r) ?_; rw [eqB_eq rfl])
   | (refine pcK_of (sameCs r r) ?_; rw [eqB_eq rfl])
   | refine drawK mo (by kernel_rfl) ?_
   | refine gK_dec (fun _ => ?_) (fun _ => ?_)
   | refine brK_dec (fun _ => ?_) (fun _ => ?_)
  refine loop_frX [8,11,12,13,14,40,41,42,43,44,45,46,47,48,49,50,51,52,53,54,55,56,57,58,59,60,61,62,63,64,65,66,67,68,69,70,71,72,73,74,75,76] (fun m C => ∃ i: Nat,i ≤ e.arms.length ∧ m = e.arms.length - i ∧ (∀ (j: Nat) c x,j < i → e.arms[j]? = some c → e.subs[j]? = some x → armOk p.Enums c = true ∧ fitsF (rowN p.Enums n) p.Enums x (r ++ [condOf p.Enums e.name c]) = true) ∧ C = [(11,.raw (.int .i64 (i: Nat)))]) e.arms.length _ ⟨0,by omega,by omega,fun j c x hj => by omega,rfl⟩ (.cons rfl .nil) ?_
  rintro m C jj R ⟨i,hi,rfl,hp,rfl⟩
  simp only [go_sem]
  intro _
  refine brK_dec (fun hlt => ?_) (fun hge => ?_)
  ·
   have hlt': i < e.arms.length := by omega
   obtain ⟨c,hc⟩: ∃ c,e.arms[i]? = some c := ⟨_,List.getElem?_eq_getElem hlt'⟩
   obtain ⟨x,hx⟩: ∃ x,e.subs[i]? = some x := ⟨_,List.getElem?_eq_getElem (by omega)⟩
   simp only [go_sem]
   refine drawK mo (by kernel_rfl) ?_
   simp only [go_sem]
   refine elemHave (by omega) (by simpa using hc) ?_
   simp only [go_sem]
   refine pcK_of (arm91 p.Enums c) ?_
   rw [armA_fst]
   generalize hok: armOk p.Enums c = ok
   cases ok with
   | false =>
    simp only [go_sem,monoApp,monoApp2]
    refine drawK mo (by kernel_rfl) ?_
    simp only [go_sem]
    exact finBq rfl (fitsM_no hc hx (.inl hok)).symm
   | true =>
    simp only [go_sem,monoApp,monoApp2]
    refine drawK mo (by kernel_rfl) ?_
    simp only [go_sem]
    refine elemHave (by omega) (by simpa using hx) ?_
    simp only [go_sem]
    refine pcK_of (when134 r e.name (armF p.Enums c).2.1 (by omega)) ?_
    simp only [go_sem]
    refine pcK_of (ih x (List.mem_of_getElem? hx) (r ++ [condOf p.Enums e.name c]) (by simp)) ?_
    generalize hf: fitsF (rowN p.Enums n) p.Enums x (r ++ [condOf p.Enums e.name c]) = f
    cases f with
    | false =>
     simp only [go_sem]
     exact finBq rfl (fitsM_no hc hx (.inr hf)).symm
    | true =>
     simp only [go_sem]
     exact loopFrX _ (by omega) _ ⟨i + 1,by omega,rfl,fun j c' x' hj hc' hx' => by
      rcases Nat.lt_or_ge j i with h | h
      ·
       exact hp j c' x' h hc' hx'
      ·
       have: j = i := by omega
       subst this
       rw [hc] at hc'; rw [hx] at hx'
       cases hc'; cases hx'
       exact ⟨hok,hf⟩,rfl⟩ (.next rfl (by omega) .nil) rfl (by first | rfl | (simp only [List.append_assoc,List.cons_append,List.nil_append]; rfl))
  ·
   have: i = e.arms.length := by omega
   subst this
   simp only [go_sem]
   refine finBq rfl (fitsM_yes fun j c x hc hx => hp j c x (List.getElem?_eq_some_iff.1 hc).1 hc hx).symm
 ·
  have hB: ∀ z,(okr && eqB r on && decide (e.arms.length = e.subs.length) && z) = false := by
   intro z
   cases okr with
   | false => simp
   | true =>
    by_cases h1: r = on
    ·
     have: ¬ e.arms.length = e.subs.length := fun q => hst ⟨rfl,h1,q⟩
     simp [this]
    ·
     rw [eqB_ne h1]; simp
  rw [hB]
  generalize hq: eqB r on = q
  cases okr <;> cases q <;>
  repeat' first
   | (exfalso; omega)
   | (exfalso; exact hst ⟨rfl,eqB_t hq,by omega⟩)
   | exact finP rfl
   | simp only [go_sem]
   | (intro _)
   | (refine PCall.call (sameCs r on) ?_; rw [hq])
   | (refine pcK_of (sameCs r on) ?_; rw [hq])
   | refine drawK mo (by kernel_rfl) ?_
   | refine brK_dec (fun _ => ?_) (fun _ => ?_)
   | refine gK_dec (fun _ => ?_) (fun _ => ?_)
   | refine gqK_dec (fun _ => ?_) (fun _ => ?_)
theorem rowN_len (L: List DEnum) (n: DNode) (nm: ByteArray): (rowN L n nm).1.length ≤ 13 := by
 unfold rowN rowL
 have := clock_len n nm
 split
 ·
  split
  ·
   simpa using this
  ·
   simp
 ·
  simp
theorem drop_two {l: List Ex} {x: Ex} (h: l.length = 2) (hx: l[((1: Int)).toNat]? = some x): l.drop 1 = [x] := by
 match l,h with
 | [a,b],_ => simp at hx; simp [hx]
theorem fitsL_no {R: ByteArray → List DCond × Bool} {L: List DEnum} {l: List Ex} {x: Ex} {on: List DCond} (hx: x ∈ l) (h: fitsF R L x on = false): fitsL R L l on = false := by
 rw [fitsL_all,List.all_eq_false]
 exact ⟨x,hx,by simp [h]⟩
theorem fits49 (p: DProg) (k: Nat) (n: DNode) (hn: p.Nodes[k]? = some n) (hl: (allV n).length ≤ 4294967296): ∀ (e: Ex) (on: List DCond),on.length + 14 * (parts e).length ≤ 100000 →
  PCall Tryz.prog 152 [p.enc,.i k,e.enc,.lst 2 (on.map DCond.enc) none] (.b (fitsF (rowN p.Enums n) p.Enums e on)) := by
 intro e
 induction e using Ex.ind with
 | _ e ih =>
 intro on hb
 have hk: k < p.Nodes.length := (List.getElem?_eq_some_iff.1 hn).1
 have ih': ∀ x ∈ e.subs,∀ on': List DCond,on'.length ≤ on.length + 14 → PCall Tryz.prog 152 [p.enc,.i k,x.enc,.lst 2 (on'.map DCond.enc) none] (.b (fitsF (rowN p.Enums n) p.Enums x on')) :=
  fun x hx on' h => ih x hx on' (by have := size_lt hx; omega)
 refine pcall_of_vc tabOK Tryz.func152 (by kernel_rfl) rfl pureL pureI (n := 92) rfl (rs := [.tmp 8]) rfl ?_
 repeat' first
  | exact finB rfl
  | exact finI rfl
  | exact finP rfl
  | exact absurd rfl (by assumption)
  | simp only [go_sem]
  | (intro _)
  | refine brK_dec (fun _ => ?_) (fun _ => ?_)
  | refine brK_any ?_ ?_
  | refine gK_dec (fun _ => ?_) (fun _ => ?_)
  | refine gK_any ?_ ?_
  | refine gqK_dec (fun _ => ?_) (fun _ => ?_)
  | refine ⟨by omega,?_⟩
  | refine elemHave (by omega) (by assumption) ?_
  | refine elemMap (by omega) (by omega) (fun x hx => ?_)
  | refine drawK mo (by kernel_rfl) ?_
  | (exfalso; omega)
  | (refine PCall.call (row46v p k n hn e.name hl) ?_; generalize hR: rowN p.Enums n e.name = r; obtain ⟨r,okr⟩ := r; cases okr)
  | (refine pcK_of (sameCs _ on) ?_)
  | (refine PCall.call (sameCs _ on) ?_)
  | (refine PCall.call (when93 p k n hn hl e on (by assumption) ih' (rowN_len _ _ _)) ?_)
  | (refine PCall.call (merge94 p k n hn hl e on (by assumption) (by omega) ih') ?_)
  | (have hxm := List.mem_of_getElem? hx; refine pcK_of (ih' x hxm on (by omega)) ?_; generalize hfx: fitsF (rowN p.Enums n) p.Enums x on = fx; cases fx)
  | (refine finBq rfl ?_; rw [fitsF_eq]; first
    | (simp [*]; done)
    | (have h2: ¬ e.subs.length = 2 := (by omega); simp [*]; done)
    | (have h2: e.subs.length = 2 := (by omega); rw [drop_two h2 hx]; simp [fitsL,*]; done)
    | (have hLL := fitsL_no hxm hfx; simp [*]; done)
    | (have hLL: fitsL (rowN p.Enums n) p.Enums e.subs on = true := (by rw [fitsL_all]; exact List.all_eq_true.2 (take_full hpi (by omega))); simp [*]; done))
  | exact loopFrH _ (by omega) ⟨i + 1,by omega,rfl,take_all hpi (by simpa using hx) hfx,rfl⟩ (.next rfl (by omega) .nil) rfl
  | (refine loop_frH [8,11,75,76,77,78,79,80,81,82,83,84,85,86,87,88,89,90,91] (fun mm_ CC_ => ∃ (i: Nat),i ≤ e.subs.length ∧ mm_ = e.subs.length - i ∧ (∀ x ∈ e.subs.take i,fitsF (rowN p.Enums n) p.Enums x on = true) ∧ CC_ = [(11,.raw (.int .i64 ((i: Nat): Int)))]) (e.subs.length) _ ⟨0,by omega,by omega,by simp,rfl⟩ (.cons rfl .nil) ?_; rintro mm_ CC_ ji ⟨i,hi,rfl,hpi,rfl⟩)
end Go.Proofs.YtpamokpmlplopaaGreatDoor
