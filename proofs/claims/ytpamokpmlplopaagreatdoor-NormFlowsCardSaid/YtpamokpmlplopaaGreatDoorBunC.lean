/-
  AbsU, AbsT, Once, RightD, Ident, Ident2, Right, Count, Small, SmallE, ExD, AbsQ, Data, SmallPr, Slices1, Concat, DeclPr, AbsRF, AbsTA, Ctor1, Ctor2, Ctor3, Ctor4, Same1, ChkD, ScopeD, TyD, IdP, Lib1, Lib2, Lib3, IdP2, RightP, Once2, Walk, Walk2, RightP2, TyA, TyB, AbsW, RightP3, ChkP, TyE, RightR, TyF: put together.
-/
import Derived.Test.YtpamokpmlplopaaGreatDoorBunA
import Derived.Test.YtpamokpmlplopaaGreatDoorBunB
import Derived.ChangeShapes
import Derived.ChangeSame
import Derived.Carry
import Derived.OpenShut
import Derived.WalkKit
import Derived.Shelf.Strings.Search1
import Derived.Shelf.Strings.Count
namespace Go.Abs
open Go
def cntL (s: ByteArray): List ByteArray → Nat
 | [] => 0
 | x :: l => (if x = s then 1 else 0) + cntL s l
def opn (s: ByteArray): List (List ByteArray) → List Bool → Nat
 | ns :: N,p :: pl => (if p = true then 0 else cntL s ns) + opn s N pl
 | _,_ => 0
def waitsF (N: List (List ByteArray)) (pl: List Bool) (s: ByteArray): Bool := decide (0 < opn s N pl)
def readyF (N H: List (List ByteArray)) (pl: List Bool) (i: Nat): Bool := !(pl.getD i true) && (H.getD i []).all fun s => !waitsF N pl s
def pickF (N H: List (List ByteArray)) (pl: List Bool): Nat → Nat → Option Nat
 | _,0 => none
 | i,n + 1 => if readyF N H pl i = true then some i else pickF N H pl (i + 1) n
def orderG (N H: List (List ByteArray)): Nat → List Bool → List Nat → List Nat × Bool
 | 0,_,out => (out,true)
 | k + 1,pl,out => match pickF N H pl 0 N.length with
  | none => (out,false)
  | some i => orderG N H k (pl.set i true) (out ++ [i])
def orderF (N H: List (List ByteArray)): List Nat × Bool := orderG N H N.length (List.replicate N.length false) []
theorem cntL_append (s: ByteArray) (l m: List ByteArray): cntL s (l ++ m) = cntL s l + cntL s m := by
 induction l with
 | nil => simp [cntL]
 | cons x l ih => simp only [List.cons_append,cntL,ih]; omega
theorem cntL_take {s: ByteArray} {l: List ByteArray} {k: Nat} (h: k < l.length): cntL s (l.take (k + 1)) = cntL s (l.take k) + (if l[k] = s then 1 else 0) := by
 rw [List.take_succ_eq_append_getElem h,cntL_append]
 simp [cntL]
theorem cntL_le (s: ByteArray) (l: List ByteArray): cntL s l ≤ l.length := by
 induction l with
 | nil => simp [cntL]
 | cons x l ih => simp only [cntL,List.length_cons]; split <;> omega
theorem cntL_take_le (s: ByteArray) (l: List ByteArray) (k: Nat): cntL s (l.take k) ≤ cntL s l := by
 have := cntL_append s (l.take k) (l.drop k)
 rw [List.take_append_drop] at this
 omega
theorem cntL_mem {s: ByteArray} {l: List ByteArray} (h: s ∈ l): 0 < cntL s l := by
 induction l with
 | nil => simp at h
 | cons x l ih =>
  simp only [cntL]
  rcases List.mem_cons.1 h with rfl | h
  ·
   simp; omega
  ·
   have := ih h; omega
theorem cntL_zero {s: ByteArray} {l: List ByteArray} (h: s ∉ l): cntL s l = 0 := by
 induction l with
 | nil => simp [cntL]
 | cons x l ih =>
  simp only [cntL]
  rw [if_neg (fun e => h (by rw [e]; exact List.mem_cons_self)),ih (fun m => h (List.mem_cons_of_mem _ m))]
theorem opn_set {s: ByteArray}: ∀ {N: List (List ByteArray)} {pl: List Bool} {i: Nat} {ns: List ByteArray},N[i]? = some ns → pl[i]? = some false → opn s N pl = cntL s ns + opn s N (pl.set i true)
 | [],_,_,_,h,_ => by simp at h
 | _ :: _,[],_,_,_,h => by simp at h
 | n :: N,p :: pl,0,ns,h,k => by
  simp at h k
  subst h k
  simp [opn]
 | n :: N,p :: pl,i + 1,ns,h,k => by
  have := opn_set (s := s) (N := N) (pl := pl) (i := i) (by simpa using h) (by simpa using k)
  simp only [List.set_cons_succ,opn,this]
  omega
theorem opn_pos {s: ByteArray} {N: List (List ByteArray)} {pl: List Bool} {i: Nat} {ns: List ByteArray} (h: N[i]? = some ns) (hp: pl[i]? = some false) (hs: s ∈ ns): 0 < opn s N pl := by
 rw [opn_set h hp]
 have := cntL_mem hs
 omega
theorem opn_zero {s: ByteArray}: ∀ {N: List (List ByteArray)} {pl: List Bool},(∀ (i: Nat) ns,N[i]? = some ns → pl[i]? = some false → s ∉ ns) → opn s N pl = 0
 | [],_,_ => by simp [opn]
 | _ :: _,[],_ => by simp [opn]
 | n :: N,p :: pl,h => by
  have := opn_zero (s := s) (N := N) (pl := pl) (fun i ns a b => h (i + 1) ns (by simpa using a) (by simpa using b))
  simp only [opn,this]
  cases p with
  | true => simp
  | false => simp [cntL_zero (h 0 n rfl rfl)]
theorem opn_all {s: ByteArray}: ∀ {N: List (List ByteArray)},opn s N (List.replicate N.length false) = cntL s N.flatten
 | [] => by simp [opn,cntL]
 | n :: N => by
  simp only [List.length_cons,List.replicate_succ,opn,List.flatten_cons,cntL_append,opn_all (N := N)]
  simp
theorem opn_le {s: ByteArray}: ∀ {N: List (List ByteArray)} {pl: List Bool},opn s N pl ≤ N.flatten.length
 | [],_ => by simp [opn]
 | _ :: _,[] => by simp [opn]
 | n :: N,p :: pl => by
  have := opn_le (s := s) (N := N) (pl := pl)
  have := cntL_le s n
  simp only [opn,List.flatten_cons,List.length_append]
  split <;> omega
theorem pick_none {N H: List (List ByteArray)} {pl: List Bool}: ∀ {n i: Nat},(∀ j,i ≤ j → j < i + n → readyF N H pl j = false) → pickF N H pl i n = none
 | 0,_,_ => rfl
 | n + 1,i,h => by
  rw [pickF,h i (Nat.le_refl _) (by omega),if_neg (by simp)]
  exact pick_none fun j a b => h j (by omega) (by omega)
theorem pick_some {N H: List (List ByteArray)} {pl: List Bool}: ∀ {n i k: Nat},i ≤ k → k < i + n → (∀ j,i ≤ j → j < k → readyF N H pl j = false) → readyF N H pl k = true → pickF N H pl i n = some k
 | 0,i,k,h1,h2,_,_ => by omega
 | n + 1,i,k,h1,h2,h3,h4 => by
  rw [pickF]
  by_cases e: i = k
  ·
   subst e; rw [if_pos h4]
  ·
   rw [h3 i (Nat.le_refl _) (by omega),if_neg (by simp)]
   exact pick_some (by omega) (by omega) (fun j a b => h3 j (by omega) b) h4
theorem ready_not {N H: List (List ByteArray)} {pl: List Bool} {i: Nat} (h: pl[i]? = some true): readyF N H pl i = false := by
 simp [readyF,List.getD_eq_getElem?_getD,h]
theorem ready_wait {N H: List (List ByteArray)} {pl: List Bool} {i: Nat} {hs: List ByteArray} {s: ByteArray} (h: H[i]? = some hs) (hm: s ∈ hs) (hw: waitsF N pl s = true): readyF N H pl i = false := by
 simp only [readyF,List.getD_eq_getElem?_getD,h,Option.getD_some,Bool.and_eq_false_imp]
 intro _
 rw [Bool.eq_false_iff]
 intro hall
 have := List.all_eq_true.1 hall s hm
 simp [hw] at this
theorem ready_yes {N H: List (List ByteArray)} {pl: List Bool} {i: Nat} {hs: List ByteArray} (hp: pl[i]? = some false) (h: H[i]? = some hs) (hw: ∀ s ∈ hs,waitsF N pl s = false): readyF N H pl i = true := by
 simp only [readyF,List.getD_eq_getElem?_getD,h,hp,Option.getD_some,Bool.not_false,Bool.true_and]
 exact List.all_eq_true.2 fun s hs => by simp [hw s hs]
theorem ready_pl {N H: List (List ByteArray)} {pl: List Bool} {i: Nat} (h: readyF N H pl i = true): pl[i]? = some false := by
 simp only [readyF,Bool.and_eq_true,List.getD_eq_getElem?_getD] at h
 cases hq: pl[i]? with
 | none => rw [hq] at h; simp at h
 | some b => rw [hq] at h; cases b <;> simp_all
def MapN (f: Value → Option AV) (g: ByteArray → Nat): Prop := ∀ s,orZ (f (.string s)) (.raw (.int .i64 0)) = .raw (.int .i64 (g s))
theorem MapN.nil: MapN (fun _ => none) (fun _ => 0) := fun _ => rfl
theorem MapN.cast {f: Value → Option AV} {g g': ByteArray → Nat} (h: MapN f g) (e: ∀ s,g s = g' s): MapN f g' := fun s => by rw [h s,e]
theorem mput_same (f: Value → Option AV) (k: ByteArray) (v: AV): mput f (.string k) v (.string k) = some v := by simp [mput,keyEq]
theorem mput_other (f: Value → Option AV) {k s: ByteArray} (v: AV) (h: ¬ s = k): mput f (.string k) v (.string s) = f (.string s) := by
 unfold mput
 have: keyEq (.string s) (.string k) = false := by
  rw [Bool.eq_false_iff]; intro e; exact h (by have := (keyEq_iff (kk := .str) (a := .string s) (b := .string k) rfl rfl).1 e; cases this; rfl)
 rw [this]
theorem MapN.put {f: Value → Option AV} {g: ByteArray → Nat} (h: MapN f g) (k: ByteArray) (n: Nat) (g': ByteArray → Nat) (h1: g' k = n) (h2: ∀ s,¬ s = k → g' s = g s): MapN (mput f (.string k) (.raw (.int .i64 (n: Int)))) g' := by
 intro s
 by_cases e: s = k
 ·
  subst e; rw [mput_same,h1]; rfl
 ·
  rw [mput_other _ _ e,h s,h2 s e]
theorem dropB {pl: List Bool} {i: Nat} {b: Bool} (h: pl[i]? = some b): (pl.map AV.b).drop i = AV.b b :: (pl.map AV.b).drop (i + 1) := by
 obtain ⟨hi,rfl⟩ := List.getElem?_eq_some_iff.1 h
 rw [List.drop_eq_getElem_cons (by simpa using hi)]
 simp
theorem at_old {h r: List Blk} {k: Nat} {x: Blk} (hk: h[k]? = some x): (h ++ r)[k]? = some x := by
 rw [List.getElem?_append_left (by obtain ⟨a,_⟩ := List.getElem?_eq_some_iff.1 hk; exact a)]
 exact hk
end Go.Abs
namespace Go.Abs
open Go
theorem blk_at {h: List Blk} {k: Nat} {cs: List AV} (hb: blkCells h k = some cs): ∃ t,h[k]? = some (.cells t cs) := by
 unfold blkCells at hb
 split at hb
 ·
  cases hb; exact ⟨_,by assumption⟩
 ·
  cases hb
def NoW (N: List (List ByteArray)) (pl: List Bool) (s: ByteArray) (i: Nat): Prop := ∀ (j: Nat) ns,j < i → N[j]? = some ns → pl[j]? = some false → s ∉ ns
theorem NoW.zero {N: List (List ByteArray)} {pl: List Bool} {s: ByteArray}: NoW N pl s 0 := fun j _ h => by omega
theorem NoW.step {N: List (List ByteArray)} {pl: List Bool} {s: ByteArray} {i: Nat} {ns: List ByteArray} (h: NoW N pl s i) (hN: N[i]? = some ns) (hp: pl[i]? = some false → s ∉ ns): NoW N pl s (i + 1) := by
 intro j ms hj hm hq
 by_cases e: j = i
 ·
  subst e
  rw [hN] at hm
  cases hm
  exact hp hq
 ·
  exact h j ms (by omega) hm hq
theorem NoW.done {N: List (List ByteArray)} {pl: List Bool} {s: ByteArray} {i: Nat} (h: NoW N pl s i) (hi: N.length ≤ i): waitsF N pl s = false := by
 simp only [waitsF,decide_eq_false_iff_not]
 rw [opn_zero fun j ns hn hp => h j ns (by obtain ⟨a,_⟩ := List.getElem?_eq_some_iff.1 hn; omega) hn hp]
 omega
theorem waits_yes {N: List (List ByteArray)} {pl: List Bool} {s: ByteArray} {i: Nat} {ns: List ByteArray} (hN: N[i]? = some ns) (hp: pl[i]? = some false) (hs: s ∈ ns): waitsF N pl s = true := by
 simp only [waitsF,decide_eq_true_eq]
 exact opn_pos hN hp hs
theorem not_take {s: ByteArray} {ns: List ByteArray} {j: Nat} {p: Prop} (h: p → s ∉ ns.take j) (hj: ns.length ≤ j): p → s ∉ ns := by rw [List.take_of_length_le hj] at h; exact h
theorem not_step {s x: ByteArray} {ns: List ByteArray} {j: Nat} {p: Prop} (h: p → s ∉ ns.take j) (hx: ns[j]? = some x) (hn: p → ¬ x = s): p → s ∉ ns.take (j + 1) := by
 intro hp hm
 obtain ⟨hj,rfl⟩ := List.getElem?_eq_some_iff.1 hx
 rw [List.take_succ_eq_append_getElem hj] at hm
 rcases List.mem_append.1 hm with q | q
 ·
  exact h hp q
 ·
  simp at q
  exact hn hp q.symm
theorem map_some {α β: Type} {f: α → β} {l: List α} {i: Nat} {x: α} (h: l[i]? = some x): (l.map f)[i]? = some (f x) := by rw [List.getElem?_map,h]; rfl
end Go.Abs
namespace Go.Abs
open Go
theorem take_mapS {α β: Type} {f: α → β} {l: List α} {i: Nat} {x: α} (hx: l[((i: Nat): Int).toNat]? = some x): (l.take (i + 1)).map f = (l.take i).map f ++ [f x] := by
 rw [Int.toNat_natCast] at hx
 obtain ⟨hi,rfl⟩ := List.getElem?_eq_some_iff.1 hx
 rw [List.take_succ_eq_append_getElem hi,List.map_append]
 rfl
theorem take_filtT {α: Type} {p: α → Bool} {l: List α} {i: Nat} {x: α} (hx: l[((i: Nat): Int).toNat]? = some x) (hp: p x = true): (l.take (i + 1)).filter p = (l.take i).filter p ++ [x] := by
 rw [Int.toNat_natCast] at hx
 obtain ⟨hi,rfl⟩ := List.getElem?_eq_some_iff.1 hx
 rw [List.take_succ_eq_append_getElem hi,List.filter_append]
 simp [hp]
theorem take_filtF {α: Type} {p: α → Bool} {l: List α} {i: Nat} {x: α} (hx: l[((i: Nat): Int).toNat]? = some x) (hp: p x = false): (l.take (i + 1)).filter p = (l.take i).filter p := by
 rw [Int.toNat_natCast] at hx
 obtain ⟨hi,rfl⟩ := List.getElem?_eq_some_iff.1 hx
 rw [List.take_succ_eq_append_getElem hi,List.filter_append]
 simp [hp]
theorem map_snoc (l: List ByteArray) (x: ByteArray): l.map AV.s ++ [AV.s x] = (l ++ [x]).map AV.s := by simp
def argsP (q: DPlain): List ByteArray := if q.Kind = 5 then [] else q.Args.map DAtom.Var
def rawP (q: DPlain): List ByteArray := argsP q ++ ((if q.Reset = true then [q.Every.Var] else []) ++ q.On.map DCond.Var)
def readsP (q: DPlain): List ByteArray := (rawP q).filter fun s => decide (¬ s = ⟨#[]⟩)
end Go.Abs
namespace Go.Abs
open Go
theorem MapN.up {f: Value → Option AV} {a: ByteArray → Nat} {l: List ByteArray} {k: Nat} {x: ByteArray} (h: MapN f (fun s => a s + cntL s (l.take k))) (hx: l[((k: Nat): Int).toNat]? = some x): MapN (mput f (.string x) (.raw (.int .i64 ((a x + cntL x (l.take k) + 1: Nat): Int)))) (fun s => a s + cntL s (l.take (k + 1))) := by
 rw [Int.toNat_natCast] at hx
 obtain ⟨hi,rfl⟩ := List.getElem?_eq_some_iff.1 hx
 refine h.put _ _ _ ?_ fun s hs => ?_
 ·
  simp only [cntL_take hi,if_true,Nat.add_assoc]
 ·
  have: ¬ l[k] = s := fun e => hs e.symm
  simp only [cntL_take hi,if_neg this,Nat.add_zero]
theorem MapN.upW {f: Value → Option AV} {a: ByteArray → Nat} {l: List ByteArray} {k: Nat} {x: ByteArray} (h: MapN f (fun s => a s + cntL s (l.take k))) (hx: l[((k: Nat): Int).toNat]? = some x) (hb: a x + cntL x (l.take k) ≤ 1000000) :
  MapN (mput f (.string x) (.raw (.int .i64 (IntKind.i64.wrap (((a x + cntL x (l.take k): Nat): Int) + 1))))) (fun s => a s + cntL s (l.take (k + 1))) := by
 rw [wrap_in _ (by omega) (by omega)]
 exact h.up hx
theorem MapN.down {f: Value → Option AV} {g b: ByteArray → Nat} {l: List ByteArray} {k: Nat} {x: ByteArray} (h: MapN f g) (hg: ∀ s,g s + cntL s (l.take k) = b s) (hb: ∀ s,cntL s l ≤ b s) (hx: l[((k: Nat): Int).toNat]? = some x) :
  1 ≤ g x ∧ ∃ g',MapN (mput f (.string x) (.raw (.int .i64 ((g x: Int) - 1)))) g' ∧ ∀ s,g' s + cntL s (l.take (k + 1)) = b s := by
 rw [Int.toNat_natCast] at hx
 obtain ⟨hi,rfl⟩ := List.getElem?_eq_some_iff.1 hx
 have h1 := hg l[k]
 have h2 := hb l[k]
 have h3 := cntL_take (s := l[k]) hi
 have h4 := cntL_take_le l[k] l (k + 1)
 rw [if_pos rfl] at h3
 have h5: 1 ≤ g l[k] := by omega
 refine ⟨h5,fun s => if s = l[k] then g l[k] - 1 else g s,?_,fun s => ?_⟩
 ·
  have := h.put l[k] (g l[k] - 1) (fun s => if s = l[k] then g l[k] - 1 else g s) (by simp) (fun s hs => by simp [hs])
  have e: ((g l[k] - 1: Nat): Int) = (g l[k]: Int) - 1 := by omega
  rw [e] at this
  exact this
 ·
  have h6 := hg s
  by_cases e: s = l[k]
  ·
   subst e
   simp only [if_true]
   omega
  ·
   have: ¬ l[k] = s := fun q => e q.symm
   simp only [if_neg e,cntL_take hi,if_neg this]
   omega
theorem MapN.downW {f: Value → Option AV} {g b: ByteArray → Nat} {l: List ByteArray} {k: Nat} {x: ByteArray} (h: MapN f g) (hg: ∀ s,g s + cntL s (l.take k) = b s) (hb: ∀ s,cntL s l ≤ b s) (hx: l[((k: Nat): Int).toNat]? = some x) (hn: b x ≤ 1000000) :
  ∃ g',MapN (mput f (.string x) (.raw (.int .i64 (IntKind.i64.wrap ((g x: Int) - 1))))) g' ∧ ∀ s,g' s + cntL s (l.take (k + 1)) = b s := by
 obtain ⟨h1,h2⟩ := h.down hg hb hx
 have := hg x
 rw [wrap_in _ (by omega) (by omega)]
 exact h2
theorem cnt_bnd {N: List (List ByteArray)} {i: Nat} {q: List ByteArray} (hq: N[i]? = some q) (s: ByteArray) (j: Nat): cntL s (N.take i).flatten + cntL s (q.take j) ≤ N.flatten.length := by
 obtain ⟨hi,rfl⟩ := List.getElem?_eq_some_iff.1 hq
 have h1 := take_flatten_le N (i + 1)
 rw [List.take_succ_eq_append_getElem hi] at h1
 simp only [List.flatten_append,List.length_append,List.flatten_cons,List.flatten_nil,List.append_nil] at h1
 have h2 := cntL_le s (N.take i).flatten
 have h3 := cntL_take_le s N[i] j
 have h4 := cntL_le s N[i]
 omega
theorem cnt_step {N: List (List ByteArray)} {i: Nat} {q: List ByteArray} (hq: N[i]? = some q) {j: Nat} (hj: q.length ≤ j) (s: ByteArray): cntL s (N.take i).flatten + cntL s (q.take j) = cntL s (N.take (i + 1)).flatten := by
 obtain ⟨hi,rfl⟩ := List.getElem?_eq_some_iff.1 hq
 rw [List.take_of_length_le hj,List.take_succ_eq_append_getElem hi,List.flatten_append,cntL_append]
 simp
theorem cnt_all {N: List (List ByteArray)} {i: Nat} (hi: N.length ≤ i) (s: ByteArray): cntL s (N.take i).flatten = opn s N (List.replicate N.length false) := by
 rw [List.take_of_length_le hi,opn_all]
theorem MapN.at {f: Value → Option AV} {g: ByteArray → Nat} (h: MapN f g) (s: ByteArray): orZ (f (.string s)) (.raw (.int .i64 0)) = .raw (.int .i64 (g s)) := h s
theorem idx_any {α: Type} (p: α → Bool) (l: List α): decide (idxOf p l ≥ 0) = l.any p := by
 rcases idxOf_cases p l with ⟨h1,h2⟩ | ⟨i,x,h1,h2,h3,h4,_⟩
 ·
  rw [h1]
  have: l.any p = false := by
   rw [Bool.eq_false_iff]
   intro e
   obtain ⟨x,hx,hp⟩ := List.any_eq_true.1 e
   have := List.find?_eq_none.1 h2 x hx
   contradiction
  rw [this]; decide
 ·
  rw [h1]
  have: l.any p = true := List.any_eq_true.2 ⟨x,List.mem_of_getElem? h2,h4⟩
  rw [this,decide_eq_true_eq]; omega
end Go.Abs
namespace Go.Proofs.YtpamokpmlplopaaGreatDoor
open Go.Abs
set_option maxRecDepth 20000
set_option linter.unusedSimpArgs false
set_option linter.unusedVariables false
set_option maxHeartbeats 1000000
attribute [local irreducible] vc vcOps vcStep vcGuard prK hrK gK gsK brK callK ElemK SeqK BlockK ScopeK OpsK CallK LoopK LoopGo finPost ACall PCall PCallE BCall vqOps vqStep vqGuard qrK heK pcK gqK gqsK QOpsK qcallK DrawK
noncomputable def onceB (l: List ByteArray): Bool := @decide l.Nodup (Classical.propDecidable _)
theorem onceB_yes {l: List ByteArray} (h: l.Nodup): onceB l = true := by unfold onceB; simp [h]
theorem onceB_no {l: List ByteArray} (h: ¬ l.Nodup): onceB l = false := by unfold onceB; simp [h]
attribute [irreducible] onceB
theorem nodup_step {l: List ByteArray} {i: Nat} {x: ByteArray} (h: (l.take i).Nodup) (hx: l[i]? = some x) (hn: x ∉ l.take i): (l.take (i + 1)).Nodup := by
 obtain ⟨hi,rfl⟩ := List.getElem?_eq_some_iff.1 hx
 rw [List.take_succ_eq_append_getElem hi,List.nodup_append]
 refine ⟨h,by simp,fun a ha b hb e => ?_⟩
 rw [List.mem_singleton.1 hb] at e
 exact hn (e ▸ ha)
theorem nodup_bad {l: List ByteArray} {i: Nat} {x: ByteArray} (hx: l[i]? = some x) (hm: x ∈ l.take i): ¬ l.Nodup := by
 intro h
 obtain ⟨hi,rfl⟩ := List.getElem?_eq_some_iff.1 hx
 have h': (l.take i ++ l[i] :: l.drop (i + 1)).Nodup := by rw [← List.drop_eq_getElem_cons hi,List.take_append_drop]; exact h
 rw [List.nodup_append] at h'
 exact h'.2.2 l[i] hm l[i] List.mem_cons_self rfl
theorem nodup_all {l: List ByteArray} {i: Nat} (h: (l.take i).Nodup) (hi: l.length ≤ i): onceB l = true := onceB_yes (by rwa [List.take_of_length_le hi] at h)
theorem mem_take {l: List ByteArray} {k i: Nat} {x y: ByteArray} (hk: l[((k: Int)).toNat]? = some y) (hlt: k < i) (e: y = x): x ∈ l.take i := by
 rw [Int.toNat_natCast] at hk
 rw [List.mem_take_iff_getElem]
 obtain ⟨hi,he⟩ := List.getElem?_eq_some_iff.1 hk
 exact ⟨k,by omega,by rw [he,e]⟩
theorem ostep {l: List ByteArray} {i k: Nat} {x y: ByteArray} (h: ∀ x,l[i]? = some x → x ∉ l.take k) (hx: l[((i: Int)).toNat]? = some x) (hy: l[((k: Int)).toNat]? = some y) (hn: ¬ y = x): ∀ x,l[i]? = some x → x ∉ l.take (k + 1) := by
 rw [Int.toNat_natCast] at hx hy
 intro z hz
 rw [hx] at hz
 cases hz
 exact not_step (p := True) (fun _ => h x hx) hy (fun _ => hn) trivial
theorem oend {l: List ByteArray} {i k: Nat} (hN: (l.take i).Nodup) (h: ∀ x,l[i]? = some x → x ∉ l.take k) (hk: k = i) (hi: i < l.length): (l.take (i + 1)).Nodup := by
 subst hk
 exact nodup_step hN (List.getElem?_eq_getElem hi) (h _ (List.getElem?_eq_getElem hi))
theorem once_x (l: List ByteArray): PCall Tryz.prog 231 [.lst 1 (l.map AV.s) none] (.b (onceB l)) := by
 refine pcall_of_vc tabOK Tryz.func231 (by kernel_rfl) rfl pureL pureI (n := 25) rfl (rs := [.tmp 2]) rfl ?_
 repeat' first
  | exact finB rfl
  | exact finI rfl
  | exact finP rfl
  | exact absurd rfl (by assumption)
  | simp only [go_sem]
  | (intro _)
  | refine brK_dec (fun _ => ?_) (fun _ => ?_)
  | refine brK_any ?_ ?_
  | refine gK_dec (fun _ => ?_) (fun _ => ?_)
  | refine gK_any ?_ ?_
  | refine gqK_dec (fun _ => ?_) (fun _ => ?_)
  | refine ⟨by omega,?_⟩
  | refine elemHave (by omega) (by assumption) ?_
  | ((fail_if_success (clear hy)); refine elemMap (by omega) (by omega) (fun y hy => ?_))
  | refine elemMap (by omega) (by omega) (fun x hx => ?_)
  | refine drawK mo (by kernel_rfl) ?_
  | (exfalso; omega)
  | (rw [hy] at hx; cases hx)
  | (refine finBq rfl ?_; first | (rw [nodup_all hpi (by omega)]) | (rw [onceB_no]; exact nodup_bad (by simpa using hx) (mem_take hy (by omega) (by assumption))))
  | exact loopFrH _ (by omega) ⟨k + 1,by omega,rfl,ostep hpk hx hy (by assumption),rfl⟩ (.next rfl (by omega) .nil) rfl
  | (refine loop_frH [2,4,11,12,13,14,15,16,17,18,19,20,21,22,23,24] (fun mm_ CC_ => ∃ (k: Nat),k ≤ i ∧ mm_ = i - k ∧ (∀ x,l[i]? = some x → x ∉ l.take k) ∧ CC_ = [(4,.raw (.int .i64 ((k: Nat): Int)))]) (i) _ ⟨0,by omega,by omega,by simp,rfl⟩ (.cons rfl .nil) ?_; rintro mm_ CC_ jk ⟨k,hk,rfl,hpk,rfl⟩)
  | exact loopFrH _ (by omega) ⟨i + 1,by omega,rfl,oend hpi hpk (by omega) (by omega),rfl⟩ (.next rfl (by omega) .nil) rfl
  | (refine loop_frH [2,3,4,5,6,7,8,9,10,11,12,13,14,15,16,17,18,19,20,21,22,23,24] (fun mm_ CC_ => ∃ (i: Nat),i ≤ l.length ∧ mm_ = l.length - i ∧ ((l.take i).Nodup) ∧ CC_ = [(3,.raw (.int .i64 ((i: Nat): Int)))]) (l.length) _ ⟨0,by omega,by omega,by simp,rfl⟩ (.cons rfl .nil) ?_; rintro mm_ CC_ ji ⟨i,hi,rfl,hpi,rfl⟩)
structure DRule where
 number: Bool
 name: Bool
 op: Bool
 least: Int
 most: Int
 arms: Int
abbrev DRule.enc (r: DRule): AV := .agg [.b r.number,.b r.name,.b r.op,.i r.least,.i r.most,.i r.arms]
theorem DRule.pure (r: DRule): Go.Abs.Pure r.enc := .agg _ (pure_cons (.raw _) (pure_cons (.raw _) (pure_cons (.raw _) (pure_cons (.raw _) (pure_cons (.raw _) (pure_cons (.raw _) pure_nil))))))
abbrev ruleA (p: DRule × Bool): AV := .tup [p.1.enc,.b p.2]
theorem pure_ruleA (p: DRule × Bool): Go.Abs.Pure (ruleA p) := .tup _ (pure_cons (DRule.pure _) (pure_cons (.raw _) pure_nil))
theorem finRule {T: TypeId → TI} {rs: List ResultVar} {s: List AV} {h: List Blk} {p: DRule} {x y z: Bool} {a b c: Int} (hr: resAV T s h rs = some [.agg [.b x,.b y,.b z,.i a,.i b,.i c]]) (hp: p = ⟨x,y,z,a,b,c⟩): Go.Abs.Fin T rs p.enc s h := by
 subst hp
 exact ⟨_,hr,false,.refl _⟩
theorem finRule2 {T: TypeId → TI} {rs: List ResultVar} {s: List AV} {h: List Blk} {p: DRule × Bool} {x y z ok: Bool} {a b c: Int} (hr: resAV T s h rs = some [.agg [.b x,.b y,.b z,.i a,.i b,.i c],.b ok]) (hp: p = (⟨x,y,z,a,b,c⟩,ok)): Go.Abs.Fin T rs (ruleA p) s h := by
 subst hp
 exact ⟨_,hr,false,.refl _⟩
def k0: List Ex → Int
 | [] => 0
 | x :: _ => x.kind
def litE (e: Ex): Bool := if e.kind = 5 then decide (e.op = 1) && decide (e.subs.length = 1) && decide (k0 e.subs = 1) else decide (e.kind = 1 ∨ e.kind = 2 ∨ e.kind = 4)
def constE (e: Ex): Bool := if e.kind = 14 then e.subs.all litE else litE e
abbrev tTrue: ByteArray := ⟨#[116,114,117,101]⟩
abbrev tFalse: ByteArray := ⟨#[102,97,108,115,101]⟩
def armE (s: ByteArray): Bool := highF s || decide (s = tTrue) || decide (s = tFalse)
def nothingE (e: Ex) (n: Int): DRule := ⟨decide (e.n = 0),decide (e.name = ⟨#[]⟩),decide (e.op = 0),n,n,0⟩
def leafE (e: Ex): DRule :=
 if e.kind = 1 then { nothingE e 0 with number := decide (e.n ≥ 0) }
 else if e.kind = 2 then { nothingE e 0 with number := decide (e.n = 0 ∨ e.n = 1) }
 else if e.kind = 3 then { nothingE e 0 with name := lowF e.name }
 else if e.kind = 4 then { nothingE e 0 with name := highF e.name }
 else if e.kind = 17 then { nothingE e 0 with name := pathF e.name }
 else nothingE e 0
def ofE (e: Ex): DRule × Bool :=
 if e.kind = 1 ∨ e.kind = 2 ∨ e.kind = 3 ∨ e.kind = 4 ∨ e.kind = 17 then (leafE e,true)
 else if e.kind = 5 then ({ nothingE e 1 with op := decide (e.op = 1 ∨ e.op = 2) },true)
 else if e.kind = 6 then ({ nothingE e 2 with op := decide (3 ≤ e.op ∧ e.op ≤ 16) },true)
 else if e.kind = 7 ∨ e.kind = 16 then (nothingE e 3,true)
 else if e.kind = 8 ∨ e.kind = 9 ∨ e.kind = 15 then (nothingE e 2,true)
 else if e.kind = 10 then (nothingE e 1,true)
 else if e.kind = 11 then ({ nothingE e 1 with name := lowF e.name,arms := 1 },true)
 else if e.kind = 12 then ({ nothingE e e.arms.length with name := lowF e.name,arms := 6 },true)
 else if e.kind = 13 then (⟨decide (e.n = 0 ∨ e.n = 1),lowF e.name,decide (e.op = 0),e.n,if e.n = 0 then 6 else 7,0⟩,true)
 else if e.kind = 14 then ({ nothingE e 1 with most := 8 },true)
 else (⟨false,false,false,0,0,0⟩,false)
noncomputable def partP (e: Ex): Bool :=
 (ofE e).2 && (ofE e).1.number && (ofE e).1.name && (ofE e).1.op && decide ((ofE e).1.least ≤ e.subs.length) && decide ((e.subs.length: Int) ≤ (ofE e).1.most) && decide ((e.arms.length: Int) ≤ (ofE e).1.arms) && !(decide ((ofE e).1.arms > 0) && decide (e.arms.length = 0))
  && onceB e.arms && e.arms.all armE && (decide (¬ e.kind = 8) || constE (e.subs.headD e))
def numbersE (e: Ex): Bool := (if e.kind = 5 then decide (1 ≤ e.op ∧ e.op ≤ 2) else if e.kind = 6 then decide (3 ≤ e.op ∧ e.op ≤ 16) else decide (e.op = 0)) && (if e.kind = 1 then decide (0 ≤ e.n) else if e.kind = 2 ∨ e.kind = 13 then decide (e.n = 0 ∨ e.n = 1) else decide (e.n = 0))
def namedE (e: Ex): Bool := if e.kind = 3 ∨ e.kind = 11 ∨ e.kind = 12 ∨ e.kind = 13 then lowF e.name else if e.kind = 4 then highF e.name else if e.kind = 17 then pathF e.name else decide (e.name = ⟨#[]⟩)
noncomputable def armsE (e: Ex): Bool := e.arms.all armE && (if e.kind = 11 then decide (e.arms.length = 1) else if e.kind = 12 then decide (1 ≤ e.arms.length ∧ e.arms.length ≤ 6) && onceB e.arms else decide (e.arms.length = 0))
def subsE (e: Ex): Int × Int :=
 if e.kind = 5 ∨ e.kind = 10 ∨ e.kind = 11 then (1,1) else if e.kind = 6 ∨ e.kind = 8 ∨ e.kind = 9 ∨ e.kind = 15 then (2,2) else if e.kind = 7 ∨ e.kind = 16 then (3,3)
 else if e.kind = 12 then (e.arms.length,e.arms.length) else if e.kind = 13 then (e.n,6 + e.n) else if e.kind = 14 then (1,8) else (0,0)
noncomputable def partE (e: Ex): Bool := decide (1 ≤ e.kind ∧ e.kind ≤ 17) && numbersE e && namedE e && armsE e && decide ((subsE e).1 ≤ e.subs.length) && decide ((e.subs.length: Int) ≤ (subsE e).2) && (decide (¬ e.kind = 8) || constE (e.subs.headD e))
theorem once0 {l: List ByteArray} (h: l.length = 0): onceB l = true := onceB_yes (by rw [List.length_eq_zero_iff.1 h]; exact List.nodup_nil)
theorem once1 {l: List ByteArray} (h: l.length = 1): onceB l = true := by
 match l,h with
 | [x],_ => exact onceB_yes (by simp)
mutual
def depthE: Ex → Nat
 | .mk _ _ _ _ _ s => depthL s + 1
def depthL: List Ex → Nat
 | [] => 0
 | x :: xs => max (depthE x) (depthL xs)
end
theorem depthE_eq (e: Ex): depthE e = depthL e.subs + 1 := by cases e; simp [depthE,Ex.subs]
theorem depthL_append (l m: List Ex): depthL (l ++ m) = max (depthL l) (depthL m) := by
 induction l with
 | nil => simp [depthL]
 | cons x l ih => simp only [List.cons_append,depthL,ih]; omega
theorem depthL_take {l: List Ex} {k: Nat} {x: Ex} (hx: l[k]? = some x): depthL (l.take (k + 1)) = max (depthL (l.take k)) (depthE x) := by
 obtain ⟨hk,rfl⟩ := List.getElem?_eq_some_iff.1 hx
 rw [List.take_succ_eq_append_getElem hk,depthL_append]
 simp [depthL]
mutual
theorem depth_le: ∀ (e: Ex),depthE e ≤ (parts e).length
 | .mk _ _ _ _ _ s => by
  have := depthL_le s
  simp only [depthE,parts,List.length_cons]; omega
theorem depthL_le: ∀ (l: List Ex),depthL l ≤ (partsL l).length
 | [] => by simp [depthL]
 | x :: xs => by
  have h1 := depth_le x
  have h2 := depthL_le xs
  simp only [depthL,partsL,List.length_append]; omega
end
noncomputable def rightE (e: Ex): Bool := decide ((parts e).length ≤ 60) && decide (depthE e ≤ 12) && (parts e).all partE
set_option maxHeartbeats 4000000 in
theorem part_same (e: Ex): partP e = partE e := by
 unfold partP partE
 by_cases h: 1 ≤ e.kind ∧ e.kind ≤ 17
 ·
  have: e.kind = 1 ∨ e.kind = 2 ∨ e.kind = 3 ∨ e.kind = 4 ∨ e.kind = 5 ∨ e.kind = 6 ∨ e.kind = 7 ∨ e.kind = 8 ∨ e.kind = 9 ∨ e.kind = 10 ∨ e.kind = 11 ∨ e.kind = 12 ∨ e.kind = 13 ∨ e.kind = 14 ∨ e.kind = 15 ∨ e.kind = 16 ∨ e.kind = 17 := by omega
  rcases this with h | h | h | h | h | h | h | h | h | h | h | h | h | h | h | h | h
  all_goals
   rw [Bool.eq_iff_iff]
   simp only [ofE,leafE,nothingE,numbersE,namedE,armsE,subsE,h]
   have o0 := @once0 e.arms
   have o1 := @once1 e.arms
   simp
   first | (done) | (constructor <;> (intro hh; simp_all <;> omega)) | skip
  ·
   intro hc
   rw [← List.length_eq_zero_iff]
   constructor
   ·
    rintro ⟨⟨⟨⟨⟨⟨⟨a,b⟩,c⟩,d⟩,f⟩,g⟩,_⟩,j⟩
    exact ⟨⟨⟨⟨⟨c,a⟩,b⟩,j,g⟩,d⟩,f⟩
   ·
    rintro ⟨⟨⟨⟨⟨c,a⟩,b⟩,j,g⟩,d⟩,f⟩
    exact ⟨⟨⟨⟨⟨⟨⟨a,b⟩,c⟩,d⟩,f⟩,g⟩,o0 g⟩,j⟩
  ·
   rw [← List.length_eq_zero_iff]
   constructor
   ·
    rintro ⟨⟨⟨⟨⟨⟨⟨⟨a,b⟩,c⟩,d⟩,f⟩,g⟩,g2⟩,_⟩,j⟩
    exact ⟨⟨⟨⟨⟨c,a⟩,b⟩,j,by omega⟩,d⟩,f⟩
   ·
    rintro ⟨⟨⟨⟨⟨c,a⟩,b⟩,j,g⟩,d⟩,f⟩
    exact ⟨⟨⟨⟨⟨⟨⟨⟨a,b⟩,c⟩,d⟩,f⟩,by omega⟩,by omega⟩,o1 g⟩,j⟩
  ·
   rw [← List.length_eq_zero_iff]
   constructor
   ·
    rintro ⟨⟨⟨⟨⟨⟨⟨⟨a,b⟩,c⟩,d⟩,f⟩,g⟩,g2⟩,i⟩,j⟩
    exact ⟨⟨⟨⟨⟨c,a⟩,b⟩,j,⟨by omega,by omega⟩,i⟩,d⟩,f⟩
   ·
    rintro ⟨⟨⟨⟨⟨c,a⟩,b⟩,j,⟨g1,g2⟩,i⟩,d⟩,f⟩
    exact ⟨⟨⟨⟨⟨⟨⟨⟨a,b⟩,c⟩,d⟩,f⟩,by omega⟩,by omega⟩,i⟩,j⟩
 ·
  have h2: (ofE e).2 = false := by
   unfold ofE
   repeat' (first | rw [if_neg (by omega)] | rfl)
  rw [h2,decide_eq_false h]
  simp
theorem k0_at {l: List Ex} {x: Ex} (hx: l[((0: Int)).toNat]? = some x): k0 l = x.kind := by
 match l with
 | y :: l => simp at hx; rw [hx]; rfl
theorem head_at {l: List Ex} {x z: Ex} (hx: l[((0: Int)).toNat]? = some x): l.headD z = x := by
 match l with
 | y :: l => simp at hx; rw [hx]; rfl
theorem sub_small {e x: Ex} (hx: x ∈ e.subs) (h: (parts e).length ≤ 100000): (parts x).length ≤ 100000 := by
 obtain ⟨i,hi,rfl⟩ := List.getElem_of_mem hx
 have := parts_le hi
 rw [parts_eq e] at h
 simp at h
 omega
theorem max_step {l: List Ex} {i: Nat} {x: Ex} (hx: l[i]? = some x): (if ((depthE x: Nat): Int) > ((depthL (l.take i): Nat): Int) then ((depthE x: Nat): Int) else ((depthL (l.take i): Nat): Int)) = ((depthL (l.take (i + 1)): Nat): Int) := by
 rw [depthL_take hx]
 split <;> omega
theorem parts_len {e: Ex} {i: Nat} {x: Ex} (hx: e.subs[i]? = some x): (partsL (e.subs.take (i + 1))).length = (partsL (e.subs.take i)).length + (parts x).length := by
 obtain ⟨hi,rfl⟩ := List.getElem?_eq_some_iff.1 hx
 rw [partsL_take hi,List.length_append]
abbrev exBx (e: Ex): Blk := .cells 72 [.i e.kind,.i e.n,.s e.name,.i e.op,.lst 1 (e.arms.map AV.s) none,.lst 6 (e.subs.map Ex.enc) none]
abbrev eH (e: Ex): List Blk := [.cells 72 [.i e.kind,.i e.n,.s e.name,.i e.op,.lst 1 (e.arms.map AV.s) none,.lst 6 (e.subs.map Ex.enc) none]]
mutual
def countF: Ex → Int → Int
 | .mk _ _ _ _ _ s,left => if left ≤ 0 then 0 else countL s (left - 1)
def countL: List Ex → Int → Int
 | [],left => left
 | x :: xs,left => if left > 0 then countL xs (countF x left) else left
end
theorem countF_eq (e: Ex) (left: Int): countF e left = if left ≤ 0 then 0 else countL e.subs (left - 1) := by cases e; simp [countF,Ex.subs]
mutual
theorem countF_le: ∀ (e: Ex) (l: Int),countF e l = 0 ∨ (0 ≤ countF e l ∧ countF e l < l)
 | .mk _ _ _ _ _ s,l => by
  rw [countF]
  split
  ·
   left; omega
  ·
   have := countL_le s (l - 1)
   omega
theorem countL_le: ∀ (es: List Ex) (l: Int),(l ≤ 0 ∧ countL es l = l) ∨ (0 ≤ countL es l ∧ countL es l ≤ l)
 | [],l => by rw [countL]; omega
 | x :: xs,l => by
  rw [countL]
  split
  ·
   have h1 := countF_le x l
   have h2 := countL_le xs (countF x l)
   omega
  ·
   omega
end
theorem count_spec: ∀ (e: Ex) (left: Int),left ≤ 200 → PCall Tryz.prog 54 [e.enc,.i left] (.i (countF e left)) := by
 intro e
 induction e using Ex.ind with
 | _ e ih =>
 intro left hl
 refine pcall_of_vc tabOK Tryz.func54 (by kernel_rfl) rfl (pure_cons (pure_enc e) (pure_cons (.raw _) pure_nil)) (.raw _) (n := 29) rfl (rs := [.tmp 4]) rfl ?_
 simp only [go_sem]
 rw [countF_eq]
 refine brK_dec (fun hb => ?_) (fun hb => ?_)
 ·
  simp only [go_sem]
  rw [if_pos hb]
  exact ⟨_,rfl,false,.refl _⟩
 ·
  simp only [go_sem]
  rw [if_neg hb,wrap_in _ (by omega) (by omega)]
  refine loop_rule (fun n s h => ∃ (k: Nat) (l: Int),k ≤ e.subs.length ∧ 0 ≤ l ∧ l ≤ 200 ∧ n = e.subs.length - k ∧ countL (e.subs.drop k) l = countL e.subs (left - 1) ∧
   Vis 29 [(1,.i l),(2,.ptr 0 0),(5,.i k)] s ∧ h = [.cells 72 [.i e.kind,.i e.n,.s e.name,.i e.op,.lst 1 (e.arms.map AV.s) none,.lst 6 (e.subs.map Ex.enc) none]]) _ ⟨0,left - 1,by omega,by omega,by omega,rfl,rfl,.cons rfl (.cons rfl (.cons rfl (.nil rfl))),rfl⟩ ?_
  rintro n s h ⟨k,l,hk,hl0,hl,rfl,hc,hv,rfl⟩
  obtain ⟨j,rfl⟩ := hv.out
  simp only [go_sem]
  intro hm
  have fin: (¬ ((k: Int) < e.subs.length) ∨ ¬ 0 < l) → countL e.subs (left - 1) = l := by
   intro hor
   rw [← hc]
   rcases hor with hor | hor
   ·
    rw [List.drop_of_length_le (by omega),countL]
   ·
    cases hd: e.subs.drop k with
    | nil => rw [countL]
    | cons x xs => rw [countL,if_neg hor]
  refine gK_dec (fun hlt => ?_) (fun hge => ?_)
  ·
   simp only [go_sem]
   refine brK_dec (fun hpos => ?_) (fun hneg => ?_)
   ·
    simp only [go_sem]
    have hlt': k < e.subs.length := by omega
    refine elemK (e.subs[k]).enc (by omega) (map_at _ (List.getElem?_eq_getElem hlt')) ?_
    simp only [go_sem]
    have hm1 := ih e.subs[k] (List.getElem_mem _) l hl
    refine PCall.call hm1 ?_
    simp only [go_sem]
    have hle := countF_le e.subs[k] l
    rw [wrap_in _ (by omega) (by omega)]
    refine loopGo _ ?_ ⟨k + 1,countF e.subs[k] l,by omega,by omega,by omega,rfl,?_,.cons rfl (.cons rfl (.cons rfl (.nil rfl))),rfl⟩
    ·
     omega
    ·
     rw [← hc,List.drop_eq_getElem_cons hlt',countL,if_pos (by omega)]
   ·
    simp only [go_sem]
    rw [fin (.inr hneg)]
    exact ⟨_,rfl,false,.refl _⟩
  ·
   simp only [go_sem]
   rw [fin (.inl hge)]
   exact ⟨_,rfl,false,.refl _⟩
theorem few_e (e: Ex) (he: (parts e).length ≤ 100000): PCallE Tryz.prog 55 [e.enc] (fun r => ∃ b: Bool,r = .b b ∧ (b = true → ∀ x ∈ parts e,x.name.size ≤ 200 ∧ ∀ a ∈ x.arms,a.size ≤ 100)) := by
 refine pcallE_of_vc tabOK Tryz.func55 (by kernel_rfl) rfl (pure_cons (pure_enc e) pure_nil) (n := 50) rfl (rs := [.tmp 2]) rfl ?_
 repeat' first
  | exact finB rfl
  | exact finI rfl
  | exact finP rfl
  | exact absurd rfl (by assumption)
  | simp only [go_sem]
  | (intro _)
  | refine brK_dec (fun _ => ?_) (fun _ => ?_)
  | refine brK_any ?_ ?_
  | refine gK_dec (fun _ => ?_) (fun _ => ?_)
  | refine gK_any ?_ ?_
  | refine gqK_dec (fun _ => ?_) (fun _ => ?_)
  | refine ⟨by omega,?_⟩
  | refine elemHave (by omega) (by assumption) ?_
  | refine elemMap (by omega) (by omega) (fun x hx => ?_)
  | refine drawK mo (by kernel_rfl) ?_
  | (exact finBk (K := fun b => b = true → ∀ x ∈ parts e,x.name.size ≤ 200 ∧ ∀ a ∈ x.arms,a.size ≤ 100) rfl (fun _ => take_full hpi (by omega)))
  | (exact finBk (K := fun b => b = true → ∀ x ∈ parts e,x.name.size ≤ 200 ∧ ∀ a ∈ x.arms,a.size ≤ 100) rfl (by intro h; cases h))
  | (refine PCall.call (parts_spec _ he) ?_)
  | exact loopGo _ (by omega) ⟨i + 1,by omega,rfl,(take_all hpi (by assumption) ⟨by omega,take_full hpk (by omega)⟩),(.next rfl (by omega) (.cons rfl (.cons rfl (.nil rfl)))),rfl⟩
  | (refine loop_rule (fun n s h => ∃ (i: Nat),i ≤ (parts e).length ∧ n = (parts e).length - i ∧ (∀ x ∈ (parts e).take i,x.name.size ≤ 200 ∧ ∀ a ∈ x.arms,a.size ≤ 100) ∧ Vis 50 [(4,.i i),(1,.ptr 0 0),(3,.lst 6 ((parts e).map Ex.enc) none)] s ∧ h = eH e) ((parts e).length) ⟨0,by omega,by omega,(by simp),(.cons rfl (.cons rfl (.cons rfl (.nil rfl)))),rfl⟩ ?_; rintro n s h ⟨i,hi,rfl,hpi,hvi,rfl⟩; obtain ⟨ji,rfl⟩ := hvi.out)
  | exact loopGo _ (by omega) ⟨k + 1,by omega,rfl,(take_all hpk (by assumption) (by omega)),(.next rfl (by omega) (.cons rfl (.cons rfl (.cons rfl (.nil rfl))))),rfl⟩
  | (refine loop_rule (fun n s h => ∃ (k: Nat),k ≤ x.arms.length ∧ n = x.arms.length - k ∧ (∀ a ∈ x.arms.take k,a.size ≤ 100) ∧ Vis 50 [(5,.i k),(1,.ptr 0 0),(3,.lst 6 ((parts e).map Ex.enc) none),(4,.i i)] s ∧ h = eH e) (x.arms.length) ⟨0,by omega,by omega,(by simp),(.cons rfl (.cons rfl (.cons rfl (.cons rfl (.nil rfl))))),rfl⟩ ?_; rintro n s h ⟨k,hk,rfl,hpk,hvk,rfl⟩; obtain ⟨jk,rfl⟩ := hvk.out)
mutual
theorem count_size: ∀ (e: Ex) (l: Int),0 < countF e l → countF e l = l - (parts e).length
 | .mk _ _ _ _ _ s,l => by
  rw [countF,parts]
  split
  ·
   intro h; omega
  ·
   intro h
   have := countL_size s (l - 1) h
   simp only [List.length_cons]
   omega
theorem countL_size: ∀ (es: List Ex) (l: Int),0 < countL es l → countL es l = l - (partsL es).length
 | [],l => by rw [countL,partsL]; simp
 | x :: xs,l => by
  rw [countL,partsL]
  split
  ·
   intro h
   have h1 := countL_size xs (countF x l) h
   have h3: 0 < countF x l := by
    have := countL_le xs (countF x l)
    omega
   have h2 := count_size x l h3
   simp only [List.length_append]
   omega
  ·
   intro h; omega
end
abbrev okE (e: Ex): Prop := (parts e).length ≤ 200 ∧ ∀ x ∈ parts e,x.name.size ≤ 200 ∧ ∀ a ∈ x.arms,a.size ≤ 100
theorem small_e (e: Ex): PCallE Tryz.prog 29 [e.enc] (fun r => ∃ b: Bool,r = .b b ∧ (b = true → okE e)) := by
 refine pcallE_of_vc tabOK Tryz.func29 (by kernel_rfl) rfl (pure_cons (pure_enc e) pure_nil) (n := 10) rfl (rs := [.tmp 2]) rfl ?_
 have hc := count_size e 200
 repeat' first
  | exact finB rfl
  | exact finI rfl
  | exact finP rfl
  | exact absurd rfl (by assumption)
  | simp only [go_sem]
  | (intro _)
  | refine brK_dec (fun _ => ?_) (fun _ => ?_)
  | refine brK_any ?_ ?_
  | refine gK_dec (fun _ => ?_) (fun _ => ?_)
  | refine gK_any ?_ ?_
  | refine gqK_dec (fun _ => ?_) (fun _ => ?_)
  | refine ⟨by omega,?_⟩
  | refine elemHave (by omega) (by assumption) ?_
  | refine elemMap (by omega) (by omega) (fun x hx => ?_)
  | refine drawK mo (by kernel_rfl) ?_
  | (exact finBk (K := fun b => b = true → okE e) rfl (fun hb => ⟨by omega,hr hb⟩))
  | (exact finBk (K := fun b => b = true → okE e) rfl (by intro h; cases h))
  | (refine PCall.call (count_spec e 200 (by omega)) ?_)
  | (refine PCallE.call (few_e e (by omega)) (fun r hr => ?_); obtain ⟨b,rfl,hr⟩ := hr)
end Go.Proofs.YtpamokpmlplopaaGreatDoor
namespace Go.Proofs.YtpamokpmlplopaaGreatDoor
open Go.Abs
set_option maxRecDepth 20000
set_option linter.unusedSimpArgs false
set_option linter.unusedVariables false
set_option maxHeartbeats 1000000
attribute [local irreducible] vc vcOps vcStep vcGuard prK hrK gK gsK brK callK ElemK SeqK BlockK ScopeK OpsK CallK LoopK LoopGo finPost ACall PCall PCallE BCall vqOps vqStep vqGuard qrK heK pcK gqK gqsK QOpsK qcallK DrawK
theorem mem_partsL {l: List Ex} {y: Ex} (h: y ∈ partsL l): ∃ x ∈ l,y ∈ parts x := by
 induction l with
 | nil => simp [partsL] at h
 | cons x l ih =>
  simp only [partsL,List.mem_append] at h
  rcases h with h | h
  ·
   exact ⟨x,by simp,h⟩
  ·
   obtain ⟨z,hz,hy⟩ := ih h
   exact ⟨z,by simp [hz],hy⟩
theorem sub_partsL {l: List Ex} {x y: Ex} (hx: x ∈ l) (h: y ∈ parts x): y ∈ partsL l := by
 induction l with
 | nil => simp at hx
 | cons z l ih =>
  simp only [partsL,List.mem_append]
  rcases List.mem_cons.1 hx with rfl | hx
  ·
   exact .inl h
  ·
   exact .inr (ih hx)
theorem sub_parts {e x y: Ex} (hx: x ∈ e.subs) (h: y ∈ parts x): y ∈ parts e := by
 rw [parts_eq]
 exact List.mem_cons_of_mem _ (sub_partsL hx h)
theorem self_parts (e: Ex): e ∈ parts e := by rw [parts_eq]; simp
theorem partE_len {e: Ex} (h: partE e = true): (subsE e).1 ≤ e.subs.length ∧ (e.subs.length: Int) ≤ (subsE e).2 ∧ (e.kind = 8 → constE (e.subs.headD e) = true) := by
 unfold partE at h
 simp only [Bool.and_eq_true,Bool.or_eq_true,decide_eq_true_eq] at h
 refine ⟨h.1.1.2,h.1.2,fun hk => ?_⟩
 rcases h.2 with h2 | h2
 ·
  exact absurd hk h2
 ·
  exact h2
theorem depth_mem {l: List Ex} {x: Ex} (hx: x ∈ l): depthE x ≤ depthL l := by
 induction l with
 | nil => simp at hx
 | cons y l ih =>
  simp only [depthL]
  rcases List.mem_cons.1 hx with rfl | hx
  ·
   omega
  ·
   have := ih hx; omega
theorem len_mem {l: List Ex} {x: Ex} (hx: x ∈ l): (parts x).length ≤ (partsL l).length := by
 obtain ⟨k,hk,rfl⟩ := List.getElem_of_mem hx
 exact parts_le hk
theorem part_in: ∀ (e x: Ex),x ∈ parts e → (∀ y ∈ parts x,y ∈ parts e) ∧ (parts x).length ≤ (parts e).length ∧ depthE x ≤ depthE e := by
 intro e
 induction e using Ex.ind with
 | _ e ih =>
 intro x hx
 rw [parts_eq] at hx
 rcases List.mem_cons.1 hx with rfl | hx
 ·
  exact ⟨fun y h => h,Nat.le_refl _,Nat.le_refl _⟩
 ·
  obtain ⟨z,hz,hxz⟩ := mem_partsL hx
  obtain ⟨h1,h2,h3⟩ := ih z hz x hxz
  have h4 := len_mem hz
  have h5 := depth_mem hz
  refine ⟨fun y hy => sub_parts hz (h1 y hy),?_,?_⟩
  ·
   rw [parts_eq e,List.length_cons]; omega
  ·
   rw [depthE_eq e]; omega
theorem ok_part {e x: Ex} (h: okE e) (hx: x ∈ parts e): okE x := by
 obtain ⟨h1,h2,h3⟩ := part_in e x hx
 exact ⟨Nat.le_trans h2 h.1,fun y hy => h.2 y (h1 y hy)⟩
end Go.Proofs.YtpamokpmlplopaaGreatDoor
namespace Go.Abs
open Go.RowKit
def mkT (x: TI) (cs: List AV): AV := match x.agg with | true => .agg cs | false => cs.headD (.tup [])
def FieldsTy (Q: TypeId → List AV → Prop): List (Nat × TypeId) → List AV → Prop
 | [],cs => cs = []
 | f :: fs,cs => ∃ a b,cs = a ++ b ∧ Q f.2 a ∧ FieldsTy Q fs b
def Ty (T: TypeId → TI): Nat → TypeId → List AV → Prop
 | 0,_,_ => False
 | n + 1,t,cs => match (T t).kind with
  | .bool => ∃ b,cs = [.raw (.bool b)]
  | .int k => ∃ m,cs = [.raw (.int k m)] ∧ (Lit.int k m).wf = true
  | .string => ∃ s: ByteArray,cs = [.raw (.string s)] ∧ s.size ≤ maxLen
  | .slice e => ∃ es: List (List AV),cs = [.lst (T e).size (es.map (mkT (T e))) none] ∧ es.length ≤ maxLen ∧ ∀ x ∈ es,Ty T n e x
  | .struct fs => FieldsTy (Ty T n) fs cs
  | .array m e => ∃ es: List (List AV),cs = es.flatten ∧ es.length = m ∧ ∀ x ∈ es,Ty T n e x
  | _ => False
def rowOK (T: TypeId → TI): Nat → List (Nat × TypeId) → Nat → Bool
 | n,[],m => decide (n = m)
 | n,f :: fs,m => decide (f.1 = n) && rowOK T (n + (T f.2).size) fs m
def closedT (T: TypeId → TI) (ts: List TypeId): Bool :=
 ts.all fun t => match (T t).kind with
  | .bool | .int _ | .string => decide ((T t).size = 1)
  | .slice e => ts.contains e && decide ((T t).size = 1)
  | .struct fs => fs.all (fun f => ts.contains f.2) && rowOK T 0 fs (T t).size
  | .array m e => ts.contains e && decide ((T t).size = m * (T e).size)
  | _ => false
theorem mapM_at {α β: Type} {f: α → Option β}: ∀ {l: List α} {ys: List β},l.mapM f = some ys → l.length = ys.length ∧ ∀ (i: Nat) x,l[i]? = some x → ∃ y,f x = some y := by
 intro l
 induction l with
 | nil => intro ys h; simp at h; subst h; exact ⟨rfl,fun i x hx => by simp at hx⟩
 | cons a l ih =>
  intro ys h
  rw [List.mapM_cons] at h
  cases ha: f a with
  | none => simp [ha] at h
  | some b =>
   cases hl: l.mapM f with
   | none => simp [ha,hl] at h
   | some bs =>
    simp [ha,hl] at h
    subst h
    obtain ⟨h1,h2⟩ := ih hl
    refine ⟨by simp [h1],fun i x hx => ?_⟩
    cases i with
    | zero => simp at hx; subst hx; exact ⟨b,ha⟩
    | succ i => exact h2 i x (by simpa using hx)
section
variable {P: Program} {T: TypeId → TI} {H: Type} {enc: TypeId × Value → H} {w: World} {φ: Nat → Loc}
abbrev Old (w: World): Addr → Prop := fun a => a.block < w.heap.size
def CellsAre (w: World) (φ: Nat → Loc) (azs: List AV) (cs: List Value): Prop :=
 azs.length = cs.length ∧ ∀ (j: Nat) a v,azs[j]? = some a → cs[j]? = some v → C (Old w) w φ a v ∧ v.oneCell' = true
theorem CellsAre.nil: CellsAre w φ [] [] := ⟨rfl,fun j a v h => by simp at h⟩
theorem CellsAre.one {a: AV} {v: Value} (h: C (Old w) w φ a v) (h1: v.oneCell' = true): CellsAre w φ [a] [v] := by
 refine ⟨rfl,fun j b u hb hu => ?_⟩
 cases j with
 | zero => simp at hb hu; subst hb; subst hu; exact ⟨h,h1⟩
 | succ j => simp at hb
theorem CellsAre.append {azs bs: List AV} {cs ds: List Value} (h: CellsAre w φ azs cs) (k: CellsAre w φ bs ds): CellsAre w φ (azs ++ bs) (cs ++ ds) := by
 refine ⟨by simp [h.1,k.1],fun j a v ha hv => ?_⟩
 rw [List.getElem?_append] at ha hv
 rw [← h.1] at hv
 split at ha
 ·
  rename_i hj; rw [if_pos hj] at hv; exact h.2 j a v ha hv
 ·
  rename_i hj; rw [if_neg hj] at hv; exact k.2 _ a v ha hv
theorem cellsOf_eq (hT: TabOK P T) {t: TypeId} (hk: (T t).kind ≠ .other): P.cellsOf t = (T t).size := by
 obtain ⟨i,z,hi,hs,_⟩ := (hT t).known hk
 simp [Program.cellsOf,hi,hs]
theorem mkT_cells {n: Nat} {t: TypeId} {azs: List AV} (h: Ty T n t azs): (mkT (T t) azs).cells = azs := by
 cases n with
 | zero => exact h.elim
 | succ n =>
  unfold Ty at h
  unfold mkT TI.agg
  cases hk: (T t).kind <;> simp only [hk] at h ⊢
  case bool => obtain ⟨b,rfl⟩ := h; rfl
  case int => obtain ⟨b,rfl,_⟩ := h; rfl
  case string => obtain ⟨b,rfl,_⟩ := h; rfl
  case slice => obtain ⟨es,rfl,_⟩ := h; rfl
  case struct => rfl
  case array => rfl
theorem cells_of {w: World} {base: Nat} {a: Addr} {n: Nat} {cs: List Value} (h: w.cells? base a n = some cs): cs.length = n ∧ ∀ (j: Nat) v,cs[j]? = some v → w.cell? (a.add j) = some v := by
 unfold World.cells? at h
 split at h
 ·
  have key: ∀ (l: List Nat) (cs: List Value),l.mapM (fun i => w.cell? (a.add i)) = some cs → cs.length = l.length ∧ ∀ (j: Nat) v,cs[j]? = some v → ∃ i,l[j]? = some i ∧ w.cell? (a.add i) = some v := by
   intro l
   induction l with
   | nil => intro cs h; simp at h; subst h; exact ⟨rfl,fun j v hv => by simp at hv⟩
   | cons i l ih =>
    intro cs h
    rw [List.mapM_cons] at h
    cases hi: w.cell? (a.add i) with
    | none => simp [hi] at h
    | some u =>
     cases hl: l.mapM (fun i => w.cell? (a.add i)) with
     | none => simp [hi,hl] at h
     | some us =>
      simp [hi,hl] at h
      subst h
      obtain ⟨h1,h2⟩ := ih us hl
      refine ⟨by simp [h1],fun j v hv => ?_⟩
      cases j with
      | zero => simp at hv; subst hv; exact ⟨i,rfl,hi⟩
      | succ j => simpa using h2 j v (by simpa using hv)
  obtain ⟨h1,h2⟩ := key _ _ h
  refine ⟨by simpa using h1,fun j v hv => ?_⟩
  obtain ⟨i,hi,hc⟩ := h2 j v hv
  have hlt: j < n := by have := (List.getElem?_eq_some_iff.1 hv).1; rw [h1] at this; simpa using this
  rw [List.getElem?_range hlt] at hi
  cases hi
  exact hc
 ·
  cases h
theorem cell_lt {w: World} {a: Addr} {v: Value} (h: w.cell? a = some v): a.block < w.heap.size := by
 unfold World.cell? at h
 split at h
 ·
  rename_i c e f hb; exact (Array.getElem?_eq_some_iff.1 hb).1
 ·
  cases h
theorem exists_row {β: Type} {Q: Nat → β → Prop} (n: Nat) (h: ∀ i,i < n → ∃ y,Q i y): ∃ ys: List β,ys.length = n ∧ ∀ (i: Nat) y,ys[i]? = some y → Q i y := by
 induction n with
 | zero => exact ⟨[],rfl,fun i y hy => by simp at hy⟩
 | succ n ih =>
  obtain ⟨ys,h1,h2⟩ := ih fun i hi => h i (by omega)
  obtain ⟨y,hy⟩ := h n (by omega)
  refine ⟨ys ++ [y],by simp [h1],fun i z hz => ?_⟩
  rw [List.getElem?_append] at hz
  split at hz
  ·
   exact h2 i z hz
  ·
   rename_i hi
   have := (List.getElem?_eq_some_iff.1 hz).1
   simp at this
   have e: i = n := by omega
   subst e
   simp [h1] at hz
   subst hz
   exact hy
theorem fields_trod {n: Nat} {ts: List TypeId} {R: TypeId → List Value → Option (DataW H × List MemPlace)}
  (ih: ∀ (t: TypeId) (cs: List Value) x,t ∈ ts → R t cs = some x → ∃ azs,Ty T n t azs ∧ CellsAre w φ azs cs ∧ cs.length = (T t).size) :
  ∀ (F: List Field) (off m: Nat) (cs: List Value) (ys: List (DataW H × List MemPlace)),(∀ f ∈ F,f.type ∈ ts ∧ P.cellsOf f.type = (T f.type).size) → rowOK T off (F.map fun f => (f.offset,f.type)) m = true → cs.length = m →
   off ≤ m → F.mapM (fun f => R f.type ((cs.drop f.offset).take (P.cellsOf f.type))) = some ys → ∃ azs,FieldsTy (Ty T n) (F.map fun f => (f.offset,f.type)) azs ∧ CellsAre w φ azs (cs.drop off) := by
 intro F
 induction F with
 | nil =>
  intro off m cs ys _ hr hl _ _
  simp only [List.map_nil,rowOK,decide_eq_true_eq] at hr
  refine ⟨[],rfl,?_⟩
  rw [List.drop_of_length_le (by omega)]
  exact CellsAre.nil
 | cons f F ihF =>
  intro off m cs ys hf hr hl hom hm
  simp only [List.map_cons,rowOK,Bool.and_eq_true,decide_eq_true_eq] at hr
  obtain ⟨hoff,hr⟩ := hr
  rw [List.mapM_cons] at hm
  obtain ⟨hft,hfs⟩ := hf f (by simp)
  cases h0: R f.type ((cs.drop f.offset).take (P.cellsOf f.type)) with
  | none => simp [h0] at hm
  | some y =>
   cases h1: F.mapM (fun f => R f.type ((cs.drop f.offset).take (P.cellsOf f.type))) with
   | none => simp [h0,h1] at hm
   | some ys' =>
    obtain ⟨a,ha,hca,hla⟩ := ih _ _ _ hft h0
    rw [hfs,hoff,List.length_take,List.length_drop] at hla
    have hle: off + (T f.type).size ≤ m ∨ (T f.type).size = 0 := by omega
    obtain ⟨azs,has,hcas⟩ := ihF (off + (T f.type).size) m cs ys' (fun g hg => hf g (by simp [hg])) hr hl (by omega) h1
    refine ⟨a ++ azs,⟨a,azs,rfl,ha,has⟩,?_⟩
    have e: cs.drop off = (cs.drop off).take (T f.type).size ++ cs.drop (off + (T f.type).size) := by
     rw [← List.drop_drop,List.take_append_drop]
    rw [e]
    rw [hfs,hoff] at hca
    exact hca.append hcas
theorem CellsAre.cons2 {azs: List (List AV)} {m sz: Nat} {cs: List Value} (hl: azs.length = m) (hcs: cs.length = m * sz) (h: ∀ (i: Nat) a,azs[i]? = some a → a.length = sz ∧ CellsAre w φ a ((cs.drop (i * sz)).take sz)): CellsAre w φ azs.flatten cs := by
 induction azs generalizing m cs with
 | nil => simp at hl; subst hl; simp at hcs; subst hcs; exact CellsAre.nil
 | cons a azs ih =>
  simp only [List.flatten_cons]
  have h0 := h 0 a rfl
  simp only [Nat.zero_mul,List.drop_zero] at h0
  have e: cs = cs.take sz ++ cs.drop sz := (List.take_append_drop _ _).symm
  rw [e]
  refine h0.2.append (ih (m := m - 1) (by simp at hl; omega) ?_ fun i b hb => ?_)
  ·
   rw [List.length_drop,hcs,Nat.sub_mul,Nat.one_mul]
  ·
   have := h (i + 1) b (by simpa using hb)
   rw [List.drop_drop]
   have e2: sz + i * sz = (i + 1) * sz := by rw [Nat.succ_mul]; omega
   rw [e2]
   exact this
theorem flatten_flat {n: Nat} {t: TypeId}: ∀ {es: List (List AV)},(∀ x ∈ es,Ty T n t x) → flat (es.map (mkT (T t))) = es.flatten
 | [],_ => rfl
 | x :: es,h => by
  simp only [List.map_cons,flat,List.flatMap_cons,List.flatten_cons]
  rw [mkT_cells (h x (by simp))]
  congr 1
  exact flatten_flat fun y hy => h y (by simp [hy])
theorem trod_Ty (hT: TabOK P T) {ts: List TypeId} (hc: closedT T ts = true) {base: Nat} {sp: Nat → Bool} {hd: Bool}: ∀ (n: Nat) (t: TypeId) (cs: List Value) (x: DataW H × List MemPlace),
  t ∈ ts → DataW.trod enc P w base sp hd n t cs = some x → ∃ azs,Ty T n t azs ∧ CellsAre w φ azs cs ∧ cs.length = (T t).size := by
 have hnoT: ∀ t ∈ ts,(T t).kind ≠ .other := by
  intro t ht e
  have hct := List.all_eq_true.1 hc t ht
  simp [e] at hct
 intro n
 induction n with
 | zero => intro t cs x _ h; simp [DataW.trod] at h
 | succ n ih =>
  intro t cs x ht h
  have hct := List.all_eq_true.1 hc t ht
  have hno := hnoT t ht
  obtain ⟨i,z,hi,hsz,_,hz,hzc,hzz,hza,_,hzl,hK⟩ := (hT t).known hno
  unfold Ty
  cases hk: (T t).kind <;> simp only [hk] at hct hK ⊢ <;> try contradiction
  case bool =>
   simp only [KindOK] at hK
   have hct := of_decide_eq_true hct
   simp only [DataW.trod,hK] at h
   match cs,h with
   | [.bool b],_ => exact ⟨_,⟨b,rfl⟩,.one (.raw _) rfl,hct.symm⟩
  case int k =>
   simp only [KindOK] at hK
   have hct := of_decide_eq_true hct
   simp only [DataW.trod,hK] at h
   match cs,h with
   | [.int k' m],h =>
    simp only at h
    split at h
    ·
     rename_i hh
     obtain ⟨rfl,hw⟩ := hh
     exact ⟨_,⟨m,rfl,hw⟩,.one (.raw _) rfl,hct.symm⟩
    ·
     cases h
  case string =>
   simp only [KindOK] at hK
   have hct := of_decide_eq_true hct
   simp only [DataW.trod,hK] at h
   match cs,h with
   | [.string b],h =>
    simp only at h
    split at h
    ·
     rename_i hh
     exact ⟨_,⟨b,rfl,hh⟩,.one (.raw _) rfl,hct.symm⟩
    ·
     cases h
  case slice e =>
   simp only [KindOK] at hK
   simp only [Bool.and_eq_true,List.contains_iff_mem,decide_eq_true_eq] at hct
   obtain ⟨hes,hct⟩ := hct
   simp only [DataW.trod,hK] at h
   have hsz := cellsOf_eq hT (hnoT e hes)
   match cs,h with
   | [.slice none 0 0],_ => exact ⟨_,⟨[],rfl,by simp,by simp⟩,.one (.lstnil _ _ trivial) rfl,hct.symm⟩
   | [.slice (some a) len cap],h =>
    simp only at h
    split at h
    ·
     rename_i hh
     obtain ⟨_,hcap,hmax⟩ := hh
     simp only [Option.bind_eq_some_iff] at h
     obtain ⟨elems,hel,_⟩ := h
     obtain ⟨hlen,hat⟩ := mapM_at hel
     simp only [List.length_range] at hlen
     have key: ∀ i,i < len → ∃ azs,Ty T n e azs ∧ ∃ vs,w.cells? base (a.add (i * P.cellsOf e)) (P.cellsOf e) = some vs ∧ CellsAre w φ azs vs := by
      intro i hi
      obtain ⟨y,hy⟩ := hat i i (List.getElem?_range hi)
      simp only [Option.bind_eq_some_iff] at hy
      obtain ⟨vs,hvs,hy⟩ := hy
      obtain ⟨azs,h1,h2,_⟩ := ih e vs y hes hy
      exact ⟨azs,h1,vs,hvs,h2⟩
     obtain ⟨es,hesl,hee⟩ := exists_row len key
     have hty: ∀ x ∈ es,Ty T n e x := by
      intro x hx
      obtain ⟨j,hj,rfl⟩ := List.getElem_of_mem hx
      exact (hee j _ (List.getElem?_eq_getElem hj)).1
     have hflat := flatten_flat hty
     have hcl: ∀ x ∈ es.map (mkT (T e)),x.cells.length = (T e).size := by
      intro x hx
      obtain ⟨y,hy,rfl⟩ := List.mem_map.1 hx
      rw [mkT_cells (hty y hy)]
      obtain ⟨j,hj,rfl⟩ := List.getElem_of_mem hy
      obtain ⟨_,vs,hvs,hca⟩ := hee j _ (List.getElem?_eq_getElem hj)
      rw [hca.1,(cells_of hvs).1,hsz]
     have hcells: ∀ (j: Nat) c,(flat (es.map (mkT (T e))))[j]? = some c → ∃ u,w.cell? (a.add j) = some u ∧ C (Old w) w φ c u ∧ u.oneCell' = true := by
      intro j c hj
      have hjl: j < (flat (es.map (mkT (T e)))).length := (List.getElem?_eq_some_iff.1 hj).1
      rw [flat_length hcl,List.length_map,hesl] at hjl
      have hpos: 0 < (T e).size := by
       rcases Nat.eq_zero_or_pos (T e).size with h0 | h0
       ·
        rw [h0] at hjl; simp at hjl
       ·
        exact h0
      have hil: j / (T e).size < len := by rw [Nat.div_lt_iff_lt_mul hpos]; exact hjl
      have hdm: j / (T e).size * (T e).size + j % (T e).size = j := by rw [Nat.mul_comm]; exact Nat.div_add_mod _ _
      have hx: es[j / (T e).size]? = some (es[j / (T e).size]'(by rw [hesl]; exact hil)) := List.getElem?_eq_getElem _
      obtain ⟨ht',vs,hvs,hca⟩ := hee _ _ hx
      obtain ⟨hvl,hva⟩ := cells_of hvs
      rw [hsz] at hvs hvl hva
      have hxm: (es.map (mkT (T e)))[j / (T e).size]? = some (mkT (T e) (es[j / (T e).size]'(by rw [hesl]; exact hil))) := by rw [List.getElem?_map,hx]; rfl
      have hml: j % (T e).size < (es[j / (T e).size]'(by rw [hesl]; exact hil)).length := by rw [hca.1,hvl]; exact Nat.mod_lt _ hpos
      have hcc := flat_at hcl hxm (j := j % (T e).size) (c := (es[j / (T e).size]'(by rw [hesl]; exact hil))[j % (T e).size]) (by rw [mkT_cells ht']; exact List.getElem?_eq_getElem _)
      rw [hdm,hj] at hcc
      have hvj: vs[j % (T e).size]? = some (vs[j % (T e).size]'(by rw [hvl]; exact Nat.mod_lt _ hpos)) := List.getElem?_eq_getElem _
      refine ⟨vs[j % (T e).size]'(by rw [hvl]; exact Nat.mod_lt _ hpos),?_,?_⟩
      ·
       have := hva _ _ hvj
       rw [add_add,hdm] at this
       exact this
      ·
       have := hca.2 _ _ _ (List.getElem?_eq_getElem hml) hvj
       cases hcc
       exact this
     obtain ⟨us,hul,hu⟩ := exists_vals (Q := fun j c u => w.cell? (a.add j) = some u ∧ C (Old w) w φ c u ∧ u.oneCell' = true) _ hcells
     have hget: ∀ (j: Nat) c,(flat (es.map (mkT (T e))))[j]? = some c → us[j]? = some (us.getD j undef) := by
      intro j c hj
      have hj': j < us.length := by rw [hul]; exact (List.getElem?_eq_some_iff.1 hj).1
      rw [List.getD_eq_getElem?_getD,List.getElem?_eq_getElem hj']; rfl
     refine ⟨_,⟨es,rfl,by omega,hty⟩,.one ?_ rfl,hct.symm⟩
     refine .lst _ _ _ a len cap (fun j => us.getD j undef) (by simp [hesl]) hcap hmax hcl (fun j c hj => ?_) (fun j c hj => ?_) (fun j c hj => ?_) trivial
     ·
      have := hu j c _ hj (hget j c hj)
      exact ⟨this.1,by have := cell_lt this.1; unfold Addr.add at this ⊢; split <;> simpa [*] using this⟩
     ·
      exact (hu j c _ hj (hget j c hj)).2.1
     ·
      exact (hu j c _ hj (hget j c hj)).2.2
    ·
     cases h
  case struct fs =>
   obtain ⟨F,hu,hF,_,_⟩ := hK
   simp only [Bool.and_eq_true,List.all_eq_true,List.contains_iff_mem] at hct
   obtain ⟨hfs,hrow⟩ := hct
   have hco := cellsOf_eq hT hno
   subst hF
   simp only [DataW.trod,hu] at h
   split at h
   ·
    rename_i hl
    simp only [Option.map_eq_some_iff] at h
    obtain ⟨ys,hys,_⟩ := h
    obtain ⟨azs,h1,h2⟩ := fields_trod (P := P) (T := T) (H := H) (w := w) (φ := φ) (n := n) (ts := ts) (R := fun t cs => DataW.trod enc P w base sp hd n t cs) (fun t cs x ht hx => ih t cs x ht hx) F.toList 0 (T t).size cs ys
     (fun f hf => by
      have := hfs (f.offset,f.type) (List.mem_map.2 ⟨f,hf,rfl⟩)
      exact ⟨this,cellsOf_eq hT (hnoT _ this)⟩) hrow (by rw [hl,hco]) (Nat.zero_le _) hys
    exact ⟨azs,h1,h2,by rw [hl,hco]⟩
   ·
    cases h
  case array m e =>
   simp only [KindOK] at hK
   simp only [Bool.and_eq_true,List.contains_iff_mem,decide_eq_true_eq] at hct
   obtain ⟨hes,hct⟩ := hct
   have hco := cellsOf_eq hT hno
   have hsz := cellsOf_eq hT (hnoT e hes)
   have hu := hK.1
   simp only [DataW.trod,hu] at h
   split at h
   ·
    rename_i hl
    simp only [Option.map_eq_some_iff] at h
    obtain ⟨ys,hys,_⟩ := h
    obtain ⟨_,hat⟩ := mapM_at hys
    have key: ∀ i,i < m → ∃ azs,Ty T n e azs ∧ CellsAre w φ azs ((cs.drop (i * (T e).size)).take (T e).size) ∧ azs.length = (T e).size := by
     intro i hi
     obtain ⟨y,hy⟩ := hat i i (List.getElem?_range hi)
     obtain ⟨azs,h1,h2,h3⟩ := ih e _ y hes hy
     rw [hsz] at h2 h3
     exact ⟨azs,h1,h2,by rw [h2.1,h3]⟩
    obtain ⟨es,hesl,hee⟩ := exists_row m key
    refine ⟨es.flatten,⟨es,rfl,hesl,fun x hx => ?_⟩,?_,by rw [hl,hco]⟩
    ·
     obtain ⟨j,hj,rfl⟩ := List.getElem_of_mem hx
     exact (hee j _ (List.getElem?_eq_getElem hj)).1
    ·
     exact CellsAre.cons2 hesl (by rw [hl,hco,hct]) fun i a ha => ⟨(hee i a ha).2.2,(hee i a ha).2.1⟩
   ·
    cases h
theorem trod_val (hT: TabOK P T) {ts: List TypeId} (hc: closedT T ts = true) {base b': Nat} {sp: Nat → Bool} {hd: Bool} {rc: Reach} {t: TypeId} {v: Value} {d: DataW H} {ps: List MemPlace} (ht: t ∈ ts)
  (hf: Value.okWide P w rc b' t v) (h: DataW.Trod enc P w base sp hd t v d ps): ∃ n azs,Ty T n t azs ∧ C (Old w) w φ (mkT (T t) azs) v := by
 obtain ⟨n,hn⟩ := h
 obtain ⟨azs,h1,h2,h3⟩ := trod_Ty (w := w) (φ := φ) hT hc n t _ _ ht hn
 refine ⟨n,azs,h1,?_⟩
 have hct := List.all_eq_true.1 hc t ht
 have hno: (T t).kind ≠ .other := by intro e; simp [e] at hct
 obtain ⟨i,z,hi,hsz,_,hz,hzc,hzz,hza,_,hzl,hK⟩ := (hT t).known hno
 have scalar: ∀ u,v = u → u.cells = #[u] → (∃ a,azs = [a]) → C (Old w) w φ (azs.headD (.tup [])) v := by
  rintro u rfl hu ⟨a,rfl⟩
  rw [hu] at h2
  exact (h2.2 0 a v rfl rfl).1
 have agg: ∀ cs,v = .agg cs → C (Old w) w φ (.agg azs) v := by
  rintro cs rfl
  refine .agg azs cs (by have := h2.1; simpa [Value.cells] using this.symm) (fun i a v ha hv => (h2.2 i a v ha (by simpa [Value.cells] using hv)).1) (fun v hv => ?_)
  obtain ⟨k,hk,rfl⟩ := List.getElem_of_mem hv
  have hkl: k < azs.length := by rw [h2.1]; simpa [Value.cells] using hk
  exact (h2.2 k _ _ (List.getElem?_eq_getElem hkl) (by simp [Value.cells])).2
 cases n with
 | zero => exact h1.elim
 | succ n =>
 unfold Ty at h1
 unfold mkT TI.agg
 cases hk: (T t).kind <;> simp only [hk] at hct hK h1 ⊢ <;> try contradiction
 case bool =>
  simp only [KindOK] at hK
  obtain ⟨b,rfl⟩ := WideShapes.okWide_bool hK hf
  obtain ⟨b',rfl⟩ := h1
  exact scalar _ rfl rfl ⟨_,rfl⟩
 case int k =>
  simp only [KindOK] at hK
  obtain ⟨b,rfl⟩ := WideShapes.okWide_int hK hf
  obtain ⟨b',rfl,_⟩ := h1
  exact scalar _ rfl rfl ⟨_,rfl⟩
 case string =>
  simp only [KindOK] at hK
  obtain ⟨b,rfl⟩ := WideShapes.okWide_string hK hf
  obtain ⟨b',rfl,_⟩ := h1
  exact scalar _ rfl rfl ⟨_,rfl⟩
 case slice e =>
  simp only [KindOK] at hK
  obtain ⟨a,l,c,rfl⟩ := WideShapes.okWide_slice hK hf
  obtain ⟨b',rfl,_⟩ := h1
  exact scalar _ rfl rfl ⟨_,rfl⟩
 case struct fs =>
  obtain ⟨F,hu,_⟩ := hK
  simp only [Value.okWide,hu] at hf
  obtain ⟨cs,rfl,_⟩ := hf
  exact agg _ rfl
 case array m e =>
  simp only [KindOK] at hK
  simp only [Value.okWide,hK.1] at hf
  obtain ⟨cs,rfl,_⟩ := hf
  exact agg _ rfl
def TyAll (T: TypeId → TI): List TypeId → List AV → Prop
 | [],azs => azs = []
 | t :: ts,azs => ∃ n a r,azs = mkT (T t) a :: r ∧ Ty T n t a ∧ TyAll T ts r
theorem trodAll_vals (hT: TabOK P T) {ts: List TypeId} (hc: closedT T ts = true) {base b': Nat} {sp: Nat → Bool} {hd: Bool} {rc: Reach}: ∀ {us: List TypeId} {vs: List Value} {ds: List (DataW H)} {ps: List MemPlace},(∀ t ∈ us,t ∈ ts) →
  (∀ (j: Nat) t v,us[j]? = some t → vs[j]? = some v → Value.okWide P w rc b' t v) → DataW.TrodAll enc P w base sp hd us vs ds ps → ∃ azs,TyAll T us azs ∧ CAll (Old w) w φ azs vs.toArray ∧ ds.length = us.length
 | [],vs,ds,ps,_,_,h => by
  obtain ⟨rfl,rfl,rfl⟩ := ChangeShapes.trodAll_nil h
  exact ⟨[],rfl,CAll.nil,rfl⟩
 | t :: us,vs,ds,ps,hm,hv,h => by
  obtain ⟨v,vs1,d,ds1,a,b,rfl,rfl,rfl,h1,h2⟩ := ChangeShapes.trodAll_cons h
  obtain ⟨azs,k1,k2,k3⟩ := trodAll_vals hT hc (fun t ht => hm t (by simp [ht])) (fun j t v hj hjv => hv (j + 1) t v (by simpa using hj) (by simpa using hjv)) h2
  obtain ⟨n,x,q1,q2⟩ := trod_val (φ := φ) hT hc (hm t (by simp)) (hv 0 t v rfl rfl) h1
  exact ⟨_ :: azs,⟨n,x,azs,rfl,q1,k1⟩,CAll.cons q2 k2,by simp [k3]⟩
theorem args_stay (hl: laidOutB P = true) {W W': World} (hb: Below W.heap.size W W'): ∀ {us: List TypeId} {vs: List Value} {ds: List (DataW H)} {ps: List MemPlace},(∀ t ∈ us,P.readableRec t = true ∧ t < P.types.size) →
  (∀ p ∈ ps,p.block < W.heap.size) → DataW.TrodAll enc P W 0 (fun _ => true) true us vs ds ps → DataW.TrodAll enc P W' 0 (fun b => decide (b < W.heap.size)) true us vs ds ps
 | [],vs,ds,ps,_,_,h => by
  obtain ⟨rfl,rfl,rfl⟩ := ChangeShapes.trodAll_nil h
  exact ChangeShapes.trodAll_mk0
 | t :: us,vs,ds,ps,hm,hp,h => by
  obtain ⟨v,vs1,d,ds1,a,b,rfl,rfl,rfl,h1,h2⟩ := ChangeShapes.trodAll_cons h
  exact ⟨a,b,Below.trod hl (hm t (by simp)).1 (hm t (by simp)).2 h1 hb (fun x hx => hp x (by simp [hx])),args_stay hl hb (fun t ht => hm t (by simp [ht])) (fun x hx => hp x (by simp [hx])) h2,rfl⟩
theorem law_contract {f: FuncId} {fn: Func} {s: ChangeSpec} {tb: TypeId} {ts: List TypeId} (hT: TabOK P T) (hc: closedT T ts = true) (hl: laidOutB P = true) (hpar: fn.params.toList.all (fun t => ts.contains t && P.readableRec t && decide (t < P.types.size)) = true)
  (hres: fn.resultTypes = #[tb]) (htb: P.underlying tb = some .bool) (hsv: s.vars = []) (hs: ∀ ds: List (DataW H),ds.length = fn.params.toList.length → (s.fn H ds).results = [.lit (.bool true)] ∧ (s.fn H ds).args = ds ∧ (s.fn H ds).vars = [])
  (hcall: ∀ azs,TyAll T fn.params.toList azs → PCall P f azs (.raw (.bool true)))
  (W: World) (base: Nat) (args: Array Value) (ds gs: List (DataW H)) (before: List MemPlace) (hval: ∀ (j: Nat) t v,fn.params[j]? = some t → args[j]? = some v → Value.okWide P W .any base t v)
  (hW: DataW.Whole enc P fn.params.toList s.vars false W args.toList ds gs before) (htab: ∀ x ∈ tabL,∃ cs t l,W.heap[x.1]? = some (.cells cs t l) ∧ x.2 cs) :
  Calls P f args W fun e W' => ∃ v,e = .returned v ∧ s.post enc P fn false true false false W args v W' := by
 have hW' := hW
 obtain ⟨p,q,hA,hV,rfl,hfz,hnd⟩ := hW
 rw [hsv] at hV
 have hg: gs = [] ∧ q = [] := by
  cases gs with
  | nil => exact ⟨rfl,hV⟩
  | cons g gs => exact hV.elim
 obtain ⟨rfl,rfl⟩ := hg
 have hm: ∀ t ∈ fn.params.toList,t ∈ ts ∧ P.readableRec t = true ∧ t < P.types.size := by
  intro t ht
  have := List.all_eq_true.1 hpar t ht
  simp only [Bool.and_eq_true,List.contains_iff_mem,decide_eq_true_eq] at this
  exact ⟨this.1.1,this.1.2,this.2⟩
 obtain ⟨azs,k1,k2,k3⟩ := trodAll_vals (φ := fun _ => .no) hT hc (fun t ht => (hm t ht).1) (fun j t v hj hv => hval j t v (by simpa using hj) (by simpa using hv)) hA
 obtain ⟨_,_,h3⟩ := hcall azs k1
 obtain ⟨_,hcalls⟩ := h3 (Old W) W args (fun a ha => ha) (fun x hx => ⟨htab x hx,no_owns⟩) k2
 refine Calls.mono hcalls ?_
 rintro e W' ⟨v,S',rfl,hcv,hr,hx⟩
 cases hcv
 have hb: Below W.heap.size W W' := ⟨hx.os,hx.tape,hx.output,hx.size,fun k hk => hx.keep k hk no_owns⟩
 obtain ⟨e1,e2,e3⟩ := hs ds k3
 refine ⟨_,rfl,ds,[],_,[],p,[],hW',?_,?_,?_,hb.frame _,fun h => by cases h⟩
 ·
  rw [List.append_nil,e1,hres]
  exact ChangeShapes.trodAll_mk1 (shut_bool htb true)
 ·
  rw [List.append_nil,e2]
  exact args_stay hl hb (fun t ht => (hm t ht).2) (fun x hx => hW'.lt x (by simp [hx])) hA
 ·
  rw [List.append_nil,e3,hsv]
  rfl
end
end Go.Abs
namespace Go.Proofs.YtpamokpmlplopaaGreatDoor
open Go.Abs
set_option maxRecDepth 20000
set_option linter.unusedSimpArgs false
set_option linter.unusedVariables false
set_option maxHeartbeats 1000000
attribute [local irreducible] vc vcOps vcStep vcGuard prK hrK gK gsK brK callK ElemK SeqK BlockK ScopeK OpsK CallK LoopK LoopGo finPost ACall PCall PCallE BCall vqOps vqStep vqGuard qrK heK pcK gqK gqsK QOpsK qcallK DrawK
theorem ty_list {α: Type} {enc: α → AV} {n: Nat} {t: TypeId} {q: α → Prop} (h: ∀ cs,Ty ti n t cs → ∃ x: α,mkT (ti t) cs = enc x ∧ q x): ∀ {es: List (List AV)},(∀ x ∈ es,Ty ti n t x) → ∃ l: List α,es.map (mkT (ti t)) = l.map enc ∧ ∀ x ∈ l,q x
 | [],_ => ⟨[],rfl,by simp⟩
 | x :: es,hx => by
  obtain ⟨y,hy,hq⟩ := h x (hx x (by simp))
  obtain ⟨l,hl,hql⟩ := ty_list h (es := es) fun z hz => hx z (by simp [hz])
  exact ⟨y :: l,by simp [hy,hl],by simp only [List.mem_cons]; rintro z (rfl | hz); exact hq; exact hql z hz⟩
theorem ty_slice {α: Type} {enc: α → AV} {t e sz: Nat} (hk: (ti t).kind = .slice e) (hs: (ti e).size = sz) {n: Nat} {q: α → Prop} (h: ∀ n' cs,n' < n → Ty ti n' e cs → ∃ x: α,mkT (ti e) cs = enc x ∧ q x) {cs: List AV} (hc: Ty ti n t cs): ∃ l: List α,cs = [.lst sz (l.map enc) none] ∧ ∀ x ∈ l,q x := by
 cases n with
 | zero => exact hc.elim
 | succ n =>
  unfold Ty at hc
  simp only [hk] at hc
  obtain ⟨es,rfl,_,hes⟩ := hc
  obtain ⟨l,hl,hq⟩ := ty_list (enc := enc) (t := e) (fun cs hcs => h n cs (by omega) hcs) hes
  exact ⟨l,by rw [hl,hs],hq⟩
theorem ty_iK {t: Nat} (hk: (ti t).kind = .int .i64) {n: Nat} {cs: List AV} (h: Ty ti n t cs): ∃ k: Int,cs = [.i k] ∧ I64 k := by
 cases n with
 | zero => exact h.elim
 | succ n =>
  unfold Ty at h
  simp only [hk] at h
  obtain ⟨k,rfl,hw⟩ := h
  simp only [Lit.wf,Bool.and_eq_true,decide_eq_true_eq] at hw
  exact ⟨k,rfl,(hw: (IntKind.i64.min: Int) ≤ k ∧ k ≤ IntKind.i64.max)⟩
theorem ty_sK {t: Nat} (hk: (ti t).kind = .string) {n: Nat} {cs: List AV} (h: Ty ti n t cs): ∃ k: ByteArray,cs = [.s k] ∧ S47 k := by
 cases n with
 | zero => exact h.elim
 | succ n => unfold Ty at h; simp only [hk] at h; obtain ⟨k,rfl,hw⟩ := h; exact ⟨k,rfl,hw⟩
theorem ty_i {n: Nat} {cs: List AV} (h: Ty ti n 3 cs): ∃ k: Int,cs = [.i k] ∧ I64 k := ty_iK rfl h
theorem ty_l {n: Nat} {cs: List AV} (h: Ty ti n 2 cs): ∃ k: Int,cs = [.i k] ∧ I64 k := ty_iK rfl h
theorem ty_s {n: Nat} {cs: List AV} (h: Ty ti n 9 cs): ∃ k: ByteArray,cs = [.s k] ∧ S47 k := ty_sK rfl h
theorem ty_ss {n: Nat} {cs: List AV} (h: Ty ti n 46 cs): ∃ l: List ByteArray,cs = [.lst 1 (l.map AV.s) none] ∧ ∀ y ∈ l,S47 y := ty_slice (e := 9) rfl rfl (fun _ _ _ hc => by obtain ⟨s,rfl,hs⟩ := ty_s hc; exact ⟨s,rfl,hs⟩) h
theorem ty_ex: ∀ {n: Nat} {cs: List AV},Ty ti n 72 cs → ∃ e: Ex,.agg cs = e.enc ∧ e.ok := by
 intro n
 induction n using Nat.strongRecOn with
 | _ n ih =>
 intro cs h
 cases n with
 | zero => exact h.elim
 | succ n =>
  simp only [Ty,ti,FieldsTy] at h
  obtain ⟨a1,b1,rfl,h1,a2,b2,rfl,h2,a3,b3,rfl,h3,a4,b4,rfl,h4,a5,b5,rfl,h5,a6,b6,rfl,h6,rfl⟩ := h
  obtain ⟨k,rfl,q1⟩ := ty_i h1
  obtain ⟨m,rfl,q2⟩ := ty_l h2
  obtain ⟨nm,rfl,q3⟩ := ty_s h3
  obtain ⟨op,rfl,q4⟩ := ty_i h4
  obtain ⟨arms,rfl,q5⟩ := ty_ss h5
  obtain ⟨subs,rfl,q6⟩ := ty_slice (enc := Ex.enc) (t := 70) (e := 72) (sz := 6) rfl rfl (fun n' cs' hn hc => ih n' (by omega) hc) h6
  exact ⟨.mk k m nm op arms subs,by rw [Go.Abs.enc_eq]; rfl,(Ex.ok_eq _).2 ⟨q1,q2,q3,q4,q5,q6⟩⟩
theorem ty_DTy {n: Nat} {cs: List AV} (h: Ty ti n 42 cs): ∃ x: DTy,.agg cs = x.enc ∧ x.ok := by
 cases n with
 | zero => exact h.elim
 | succ n =>
  simp only [Ty,ti,FieldsTy] at h
  obtain ⟨a0,b0,rfl,h0,a1,b1,rfl,h1,a2,b2,rfl,h2,rfl⟩ := h
  obtain ⟨x0,rfl,q0⟩ := ty_iK rfl h0
  obtain ⟨x1,rfl,q1⟩ := ty_iK rfl h1
  obtain ⟨x2,rfl,q2⟩ := ty_iK rfl h2
  exact ⟨⟨x0,x1,x2⟩,by rw [DTy.enc_eq]; rfl,⟨q0,q1,q2⟩⟩
theorem ty_DEnum {n: Nat} {cs: List AV} (h: Ty ti n 80 cs): ∃ x: DEnum,.agg cs = x.enc ∧ x.ok := by
 cases n with
 | zero => exact h.elim
 | succ n =>
  simp only [Ty,ti,FieldsTy] at h
  obtain ⟨a0,b0,rfl,h0,a1,b1,rfl,h1,rfl⟩ := h
  obtain ⟨x0,rfl,q0⟩ := ty_s h0
  obtain ⟨x1,rfl,q1⟩ := ty_ss h1
  exact ⟨⟨x0,x1⟩,by rw [DEnum.enc_eq]; rfl,⟨q0,q1⟩⟩
theorem tys_DEnum {n: Nat} {cs: List AV} (h: Ty ti n 22 cs): ∃ l: List DEnum,cs = [.lst 2 (l.map DEnum.enc) none] ∧ ∀ x ∈ l,x.ok := ty_slice (e := 80) rfl rfl (fun _ _ _ hc => ty_DEnum hc) h
theorem ty_DDecl {n: Nat} {cs: List AV} (h: Ty ti n 77 cs): ∃ x: DDecl,.agg cs = x.enc ∧ x.ok := by
 cases n with
 | zero => exact h.elim
 | succ n =>
  simp only [Ty,ti,FieldsTy] at h
  obtain ⟨a0,b0,rfl,h0,a1,b1,rfl,h1,a2,b2,rfl,h2,a3,b3,rfl,h3,rfl⟩ := h
  obtain ⟨x0,rfl,q0⟩ := ty_s h0
  obtain ⟨x1,e1,q1⟩ := ty_DTy h1
  obtain ⟨x2,rfl,q2⟩ := ty_s h2
  obtain ⟨x3,rfl,q3⟩ := ty_s h3
  rw [DTy.enc_eq] at e1
  cases e1
  exact ⟨⟨x0,x1,x2,x3⟩,by rw [DDecl.enc_eq]; rfl,⟨q0,q1,q2,q3⟩⟩
theorem tys_DDecl {n: Nat} {cs: List AV} (h: Ty ti n 65 cs): ∃ l: List DDecl,cs = [.lst 6 (l.map DDecl.enc) none] ∧ ∀ x ∈ l,x.ok := ty_slice (e := 77) rfl rfl (fun _ _ _ hc => ty_DDecl hc) h
theorem ty_DEq {n: Nat} {cs: List AV} (h: Ty ti n 74 cs): ∃ x: DEq,.agg cs = x.enc ∧ x.ok := by
 cases n with
 | zero => exact h.elim
 | succ n =>
  simp only [Ty,ti,FieldsTy] at h
  obtain ⟨a0,b0,rfl,h0,a1,b1,rfl,h1,rfl⟩ := h
  obtain ⟨x0,rfl,q0⟩ := ty_ss h0
  obtain ⟨x1,e1,q1⟩ := ty_ex h1
  rw [Go.Abs.enc_eq] at e1
  cases e1
  exact ⟨⟨x0,x1⟩,by rw [DEq.enc_eq]; rfl,⟨q0,q1⟩⟩
theorem tys_DEq {n: Nat} {cs: List AV} (h: Ty ti n 66 cs): ∃ l: List DEq,cs = [.lst 7 (l.map DEq.enc) none] ∧ ∀ x ∈ l,x.ok := ty_slice (e := 74) rfl rfl (fun _ _ _ hc => ty_DEq hc) h
theorem ty_DNode {n: Nat} {cs: List AV} (h: Ty ti n 68 cs): ∃ x: DNode,.agg cs = x.enc ∧ x.ok := by
 cases n with
 | zero => exact h.elim
 | succ n =>
  simp only [Ty,ti,FieldsTy] at h
  obtain ⟨a0,b0,rfl,h0,a1,b1,rfl,h1,a2,b2,rfl,h2,a3,b3,rfl,h3,a4,b4,rfl,h4,rfl⟩ := h
  obtain ⟨x0,rfl,q0⟩ := ty_s h0
  obtain ⟨x1,rfl,q1⟩ := tys_DDecl h1
  obtain ⟨x2,rfl,q2⟩ := tys_DDecl h2
  obtain ⟨x3,rfl,q3⟩ := tys_DDecl h3
  obtain ⟨x4,rfl,q4⟩ := tys_DEq h4
  exact ⟨⟨x0,x1,x2,x3,x4⟩,by rw [DNode.enc_eq]; rfl,⟨q0,q1,q2,q3,q4⟩⟩
theorem tys_DNode {n: Nat} {cs: List AV} (h: Ty ti n 23 cs): ∃ l: List DNode,cs = [.lst 5 (l.map DNode.enc) none] ∧ ∀ x ∈ l,x.ok := ty_slice (e := 68) rfl rfl (fun _ _ _ hc => ty_DNode hc) h
theorem ty_DProg {n: Nat} {cs: List AV} (h: Ty ti n 25 cs): ∃ x: DProg,.agg cs = x.enc ∧ x.ok := by
 cases n with
 | zero => exact h.elim
 | succ n =>
  simp only [Ty,ti,FieldsTy] at h
  obtain ⟨a0,b0,rfl,h0,a1,b1,rfl,h1,rfl⟩ := h
  obtain ⟨x0,rfl,q0⟩ := tys_DEnum h0
  obtain ⟨x1,rfl,q1⟩ := tys_DNode h1
  exact ⟨⟨x0,x1⟩,by rw [DProg.enc_eq]; rfl,⟨q0,q1⟩⟩
theorem eqv_DTy (x y: DTy): eqV ti 6 42 (.agg x.enc.cells) (.agg y.enc.cells) = some (decide (x = y)) := by
 obtain ⟨xKind,xEnum,xLen⟩ := x
 obtain ⟨yKind,yEnum,yLen⟩ := y
 rw [DTy.enc_cells,DTy.enc_cells]
 simp [eqV,eqFs,ti,loadAV,takeN,kEq,TI.agg,str_beq,int_beq]
theorem eql_DTy (x y: DTy): structAV ti 42 .eql x.enc y.enc = .ok (.raw (.bool (decide (x = y)))) := by
 unfold structAV
 rw [DTy.isAgg,DTy.isAgg,eqv_DTy]
theorem neq_DTy (x y: DTy): structAV ti 42 .neq x.enc y.enc = .ok (.raw (.bool (decide (¬ x = y)))) := by
 unfold structAV
 rw [DTy.isAgg,DTy.isAgg,eqv_DTy]
 simp
attribute [go_sem] eql_DTy neq_DTy
theorem eqv_DDecl (x y: DDecl): eqV ti 6 77 (.agg x.enc.cells) (.agg y.enc.cells) = some (decide (x = y)) := by
 obtain ⟨xName,⟨xTyKind,xTyEnum,xTyLen⟩,xOn,xCtor⟩ := x
 obtain ⟨yName,⟨yTyKind,yTyEnum,yTyLen⟩,yOn,yCtor⟩ := y
 rw [DDecl.enc_cells,DDecl.enc_cells]
 simp [eqV,eqFs,ti,loadAV,takeN,kEq,TI.agg,str_beq,int_beq]
theorem eql_DDecl (x y: DDecl): structAV ti 77 .eql x.enc y.enc = .ok (.raw (.bool (decide (x = y)))) := by
 unfold structAV
 rw [DDecl.isAgg,DDecl.isAgg,eqv_DDecl]
theorem neq_DDecl (x y: DDecl): structAV ti 77 .neq x.enc y.enc = .ok (.raw (.bool (decide (¬ x = y)))) := by
 unfold structAV
 rw [DDecl.isAgg,DDecl.isAgg,eqv_DDecl]
 simp
attribute [go_sem] eql_DDecl neq_DDecl
theorem eqv_DCond (x y: DCond): eqV ti 6 97 (.agg x.enc.cells) (.agg y.enc.cells) = some (decide (x = y)) := by
 obtain ⟨xVar,xVal⟩ := x
 obtain ⟨yVar,yVal⟩ := y
 rw [DCond.enc_cells,DCond.enc_cells]
 simp [eqV,eqFs,ti,loadAV,takeN,kEq,TI.agg,str_beq,int_beq]
theorem eql_DCond (x y: DCond): structAV ti 97 .eql x.enc y.enc = .ok (.raw (.bool (decide (x = y)))) := by
 unfold structAV
 rw [DCond.isAgg,DCond.isAgg,eqv_DCond]
theorem neq_DCond (x y: DCond): structAV ti 97 .neq x.enc y.enc = .ok (.raw (.bool (decide (¬ x = y)))) := by
 unfold structAV
 rw [DCond.isAgg,DCond.isAgg,eqv_DCond]
 simp
attribute [go_sem] eql_DCond neq_DCond
theorem eqv_DAtom (x y: DAtom): eqV ti 6 51 (.agg x.enc.cells) (.agg y.enc.cells) = some (decide (x = y)) := by
 obtain ⟨xVar,xN⟩ := x
 obtain ⟨yVar,yN⟩ := y
 rw [DAtom.enc_cells,DAtom.enc_cells]
 simp [eqV,eqFs,ti,loadAV,takeN,kEq,TI.agg,str_beq,int_beq]
theorem eql_DAtom (x y: DAtom): structAV ti 51 .eql x.enc y.enc = .ok (.raw (.bool (decide (x = y)))) := by
 unfold structAV
 rw [DAtom.isAgg,DAtom.isAgg,eqv_DAtom]
theorem neq_DAtom (x y: DAtom): structAV ti 51 .neq x.enc y.enc = .ok (.raw (.bool (decide (¬ x = y)))) := by
 unfold structAV
 rw [DAtom.isAgg,DAtom.isAgg,eqv_DAtom]
 simp
attribute [go_sem] eql_DAtom neq_DAtom
theorem eqv_DFault (x y: DFault): eqV ti 6 61 (.agg x.enc.cells) (.agg y.enc.cells) = some (decide (x = y)) := by
 obtain ⟨xNode,xEq,xErr⟩ := x
 obtain ⟨yNode,yEq,yErr⟩ := y
 rw [DFault.enc_cells,DFault.enc_cells]
 simp [eqV,eqFs,ti,loadAV,takeN,kEq,TI.agg,str_beq,int_beq]
theorem eql_DFault (x y: DFault): structAV ti 61 .eql x.enc y.enc = .ok (.raw (.bool (decide (x = y)))) := by
 unfold structAV
 rw [DFault.isAgg,DFault.isAgg,eqv_DFault]
theorem neq_DFault (x y: DFault): structAV ti 61 .neq x.enc y.enc = .ok (.raw (.bool (decide (¬ x = y)))) := by
 unfold structAV
 rw [DFault.isAgg,DFault.isAgg,eqv_DFault]
 simp
attribute [go_sem] eql_DFault neq_DFault
abbrev dataTypes: List TypeId := [2,3,4,5,9,22,23,25,28,30,34,35,37,42,43,45,46,48,49,51,53,59,61,65,66,68,70,72,74,77,80,97,191,197]
theorem dataClosed: closedT ti dataTypes = true := by kernel_rfl
abbrev fewD (l: List DDecl): Prop := l.length ≤ 20 ∧ ∀ d ∈ l,d.Name.size ≤ 100 ∧ d.On.size ≤ 100 ∧ d.Ctor.size ≤ 100
abbrev okEnum (e: DEnum): Prop := e.Ctors.length ≤ 12 ∧ e.Name.size ≤ 100 ∧ ∀ c ∈ e.Ctors,c.size ≤ 100
abbrev okEnums (l: List DEnum): Prop := l.length ≤ 8 ∧ ∀ e ∈ l,okEnum e
abbrev okEq (x: DEq): Prop := x.Names.length ≤ 20 ∧ okE x.E ∧ ∀ s ∈ x.Names,s.size ≤ 100
abbrev okNode (n: DNode): Prop := fewD n.Ins ∧ fewD n.Outs ∧ fewD n.Vars ∧ n.Eqs.length ≤ 30 ∧ n.Name.size ≤ 100 ∧ ∀ x ∈ n.Eqs,okEq x
abbrev okProg (p: DProg): Prop := okEnums p.Enums ∧ p.Nodes.length ≤ 10 ∧ ∀ n ∈ p.Nodes,okNode n
theorem few_d (l: List DDecl): PCallE Tryz.prog 28 [.lst 6 (l.map DDecl.enc) none] (fun r => ∃ b: Bool,r = .b b ∧ (b = true → fewD l)) := by
 refine pcallE_of_vc tabOK Tryz.func28 (by kernel_rfl) rfl pureL (n := 38) rfl (rs := [.tmp 2]) rfl ?_
 repeat' first
  | exact finB rfl
  | exact finI rfl
  | exact finP rfl
  | exact absurd rfl (by assumption)
  | simp only [go_sem]
  | (intro _)
  | refine brK_dec (fun _ => ?_) (fun _ => ?_)
  | refine brK_any ?_ ?_
  | refine gK_dec (fun _ => ?_) (fun _ => ?_)
  | refine gK_any ?_ ?_
  | refine gqK_dec (fun _ => ?_) (fun _ => ?_)
  | refine ⟨by omega,?_⟩
  | refine elemHave (by omega) (by assumption) ?_
  | refine elemMap (by omega) (by omega) (fun x hx => ?_)
  | refine drawK mo (by kernel_rfl) ?_
  | (exact finBk (K := fun b => b = true → fewD l) rfl (fun h => Bool.noConfusion h))
  | (exact finBk (K := fun b => b = true → fewD l) rfl (fun hb => ⟨by have := of_decide_eq_true hb; omega,take_full hpi (by omega)⟩))
  | exact loopFrH _ (by omega) ⟨i + 1,by omega,rfl,take_all hpi (by assumption) ⟨by omega,by omega,by omega⟩,rfl⟩ (.next rfl (by omega) .nil) rfl
  | (refine loop_frH [2,3,4,5,6,7,8,9,10,11,12,13,14,15,16,17,18,19,20,21,22,23,24,25,26,27,28,29,30,31,32,33,34] (fun mm_ CC_ => ∃ (i: Nat),i ≤ l.length ∧ mm_ = l.length - i ∧ (∀ d ∈ l.take i,d.Name.size ≤ 100 ∧ d.On.size ≤ 100 ∧ d.Ctor.size ≤ 100) ∧ CC_ = [(3,.raw (.int .i64 ((i: Nat): Int)))]) (l.length) _ ⟨0,by omega,by omega,by simp,rfl⟩ (.cons rfl .nil) ?_; rintro mm_ CC_ ji ⟨i,hi,rfl,hpi,rfl⟩)
theorem small_en (l: List DEnum): PCallE Tryz.prog 27 [.lst 2 (l.map DEnum.enc) none] (fun r => ∃ b: Bool,r = .b b ∧ (b = true → okEnums l)) := by
 refine pcallE_of_vc tabOK Tryz.func27 (by kernel_rfl) rfl pureL (n := 50) rfl (rs := [.tmp 2]) rfl ?_
 repeat' first
  | exact finB rfl
  | exact finI rfl
  | exact finP rfl
  | exact absurd rfl (by assumption)
  | simp only [go_sem]
  | (intro _)
  | refine brK_dec (fun _ => ?_) (fun _ => ?_)
  | refine brK_any ?_ ?_
  | refine gK_dec (fun _ => ?_) (fun _ => ?_)
  | refine gK_any ?_ ?_
  | refine gqK_dec (fun _ => ?_) (fun _ => ?_)
  | refine ⟨by omega,?_⟩
  | refine elemHave (by omega) (by assumption) ?_
  | refine elemMap (by omega) (by omega) (fun x hx => ?_)
  | refine drawK mo (by kernel_rfl) ?_
  | (exact finBk (K := fun b => b = true → okEnums l) rfl (fun h => Bool.noConfusion h))
  | (exact finBk (K := fun b => b = true → okEnums l) rfl (fun hb => ⟨by omega,take_full hpi (by omega)⟩))
  | exact loopFrH _ (by omega) ⟨k + 1,by omega,rfl,take_all hpk (by assumption) (by omega),rfl⟩ (.next rfl (by omega) .nil) rfl
  | (refine loop_frH [2,4,30,31,32,33,34,35,36,37,38,39,40,41,42,43,44,45,46,47,48,49] (fun mm_ CC_ => ∃ (k: Nat),k ≤ x.Ctors.length ∧ mm_ = x.Ctors.length - k ∧ (∀ c ∈ x.Ctors.take k,c.size ≤ 100) ∧ CC_ = [(4,.raw (.int .i64 ((k: Nat): Int)))]) (x.Ctors.length) _ ⟨0,by omega,by omega,by simp,rfl⟩ (.cons rfl .nil) ?_; rintro mm_ CC_ jk ⟨k,hk,rfl,hpk,rfl⟩)
  | exact loopFrH _ (by omega) ⟨i + 1,by omega,rfl,take_all hpi (by assumption) ⟨by omega,by omega,take_full hpk (by omega)⟩,rfl⟩ (.next rfl (by omega) .nil) rfl
  | (refine loop_frH [2,3,4,8,9,10,11,12,13,14,15,16,17,18,19,20,21,22,23,24,25,26,27,28,29,30,31,32,33,34,35,36,37,38,39,40,41,42,43,44,45,46,47,48,49] (fun mm_ CC_ => ∃ (i: Nat),i ≤ l.length ∧ mm_ = l.length - i ∧ (∀ e ∈ l.take i,okEnum e) ∧ CC_ = [(3,.raw (.int .i64 ((i: Nat): Int)))]) (l.length) _ ⟨0,by omega,by omega,by simp,rfl⟩ (.cons rfl .nil) ?_; rintro mm_ CC_ ji ⟨i,hi,rfl,hpi,rfl⟩)
theorem small_p (p: DProg): PCallE Tryz.prog 8 [p.enc] (fun r => ∃ b: Bool,r = .b b ∧ (b = true → okProg p)) := by
 refine pcallE_of_vc tabOK Tryz.func8 (by kernel_rfl) rfl pureL (n := 94) rfl (rs := [.tmp 2]) rfl ?_
 repeat' first
  | exact finB rfl
  | exact finI rfl
  | exact finP rfl
  | exact absurd rfl (by assumption)
  | simp only [go_sem]
  | (intro _)
  | refine brK_dec (fun _ => ?_) (fun _ => ?_)
  | refine brK_any ?_ ?_
  | refine gK_dec (fun _ => ?_) (fun _ => ?_)
  | refine gK_any ?_ ?_
  | refine gqK_dec (fun _ => ?_) (fun _ => ?_)
  | refine ⟨by omega,?_⟩
  | refine elemHave (by omega) (by assumption) ?_
  | refine elemMap (by omega) (by omega) (fun x hx => ?_)
  | refine drawK mo (by kernel_rfl) ?_
  | (exact finBk (K := fun b => b = true → okProg p) rfl (fun hb => ⟨hbe,by omega,take_full hpi (by omega)⟩))
  | (exact finBk (K := fun b => b = true → okProg p) rfl (fun h => Bool.noConfusion h))
  | (refine PCallE.call (small_en _) (fun r hr => ?_); obtain ⟨b,rfl,hbe⟩ := hr; cases b <;> (try replace hbe := hbe rfl))
  | (refine PCallE.call (few_d _) (fun r hr => ?_); obtain ⟨b,rfl,hbd⟩ := hr; cases b <;> (try replace hbd := hbd rfl))
  | (refine PCallE.call (small_e _) (fun r hr => ?_); obtain ⟨b,rfl,hbx⟩ := hr; cases b <;> (try replace hbx := hbx rfl))
  | exact loopFrH _ (by omega) ⟨j + 1,by omega,rfl,take_all hpj (by assumption) (by omega),rfl⟩ (.next rfl (by omega) .nil) rfl
  | (refine loop_frH [2,7,80,81,82,83,84,85,86,87,88,89,90,91,92,93] (fun mm_ CC_ => ∃ (j: Nat),j ≤ x.Names.length ∧ mm_ = x.Names.length - j ∧ (∀ s ∈ x.Names.take j,s.size ≤ 100) ∧ CC_ = [(7,.raw (.int .i64 ((j: Nat): Int)))]) (x.Names.length) _ ⟨0,by omega,by omega,by simp,rfl⟩ (.cons rfl .nil) ?_; rintro mm_ CC_ jj ⟨j,hj,rfl,hpj,rfl⟩)
  | exact loopFrX _ (by omega) _ ⟨k + 1,by omega,rfl,take_all hpk (by assumption) ⟨by omega,by assumption,take_full hpj (by omega)⟩,rfl⟩ (.next rfl (by omega) .nil) rfl (by first | rfl | (simp only [List.append_assoc,List.cons_append,List.nil_append]; rfl))
  | (refine loop_frX [2,5,6,7,58,59,60,61,62,63,64,65,66,67,68,69,70,71,72,73,74,75,76,77,78,79,80,81,82,83,84,85,86,87,88,89,90,91,92,93] (fun mm_ CC_ => ∃ (k: Nat),k ≤ x.Eqs.length ∧ mm_ = x.Eqs.length - k ∧ (∀ q ∈ x.Eqs.take k,okEq q) ∧ CC_ = [(5,.raw (.int .i64 ((k: Nat): Int)))]) (x.Eqs.length) _ ⟨0,by omega,by omega,by simp,rfl⟩ (.cons rfl .nil) ?_; rintro mm_ CC_ jk rk ⟨k,hk,rfl,hpk,rfl⟩)
  | exact loopFrX _ (by omega) _ ⟨i + 1,by omega,rfl,take_all hpi (by assumption) ⟨by assumption,by assumption,by assumption,by omega,by omega,take_full hpk (by omega)⟩,rfl⟩ (.next rfl (by omega) .nil) rfl (by first | rfl | (simp only [List.append_assoc,List.cons_append,List.nil_append]; rfl))
  | (refine loop_frX [2,3,4,5,6,7,18,19,20,21,22,23,24,25,26,27,28,29,30,31,32,33,34,35,36,37,38,39,40,41,42,43,44,45,46,47,48,49,50,51,52,53,54,55,56,57,58,59,60,61,62,63,64,65,66,67,68,69,70,71,72,73,74,75,76,77,78,79,80,81,82,83,84,85,86,87,88,89,90,91,92,93] (fun mm_ CC_ => ∃ (i: Nat),i ≤ p.Nodes.length ∧ mm_ = p.Nodes.length - i ∧ (∀ n ∈ p.Nodes.take i,okNode n) ∧ CC_ = [(3,.raw (.int .i64 ((i: Nat): Int)))]) (p.Nodes.length) _ ⟨0,by omega,by omega,by simp,rfl⟩ (.cons rfl .nil) ?_; rintro mm_ CC_ ji ri ⟨i,hi,rfl,hpi,rfl⟩)
theorem indexNode {l: List DNode} {p: DNode → Bool} {g: Nat} {first capt: List AV} {h: List Blk} {K: AV → List Blk → Prop} (hp: ∀ x ∈ l,∀ K: AV → List Blk → Prop,K (.b (p x)) h → ACall Tryz.prog g (first ++ DNode.enc x :: capt) h K)
  (hK: K (.i (idxOf p l)) h): ACall Tryz.prog 175 [.lst 5 (l.map (DNode.enc)) none,.fn (.func g) first capt] h K := by
 refine acall_of_vc tabOK Tryz.func175 (by kernel_rfl) rfl (n := 19) rfl (rs := [.tmp 4]) rfl ?_
 simp only [go_sem]
 intro hlen
 refine loop_frH [5,8,9,10,11,12,13,14,15,16,18] (fun n C => ∃ (i: Nat),i ≤ l.length ∧ n = l.length - i ∧ (∀ x ∈ l.take i,p x = false) ∧ C = [(8,.raw (.int .i64 (i: Nat)))]) l.length _ ⟨0,by omega,by omega,by simp,rfl⟩ (.cons rfl .nil) ?_
 rintro n C j ⟨i,hi,rfl,hp0,rfl⟩
 simp only [go_sem]
 refine brK_dec (fun hlt => ?_) (fun hge => ?_)
 ·
  simp only [go_sem]
  refine elemMap (by omega) (by omega) (fun x hx => ?_)
  simp only [go_sem]
  refine hp x (List.mem_of_getElem? hx) _ ?_
  simp only [go_sem]
  cases hb: p x with
  | true =>
   simp only [go_sem]
   rw [idxOf_at hp0 hx hb] at hK
   exact finH1 rfl (.raw _) hK
  | false =>
   simp only [go_sem]
   exact loopFrH (l.length - (i + 1)) (by omega) ⟨i + 1,by omega,rfl,take_all hp0 (by rw [Int.toNat_natCast] at hx; exact hx) hb,rfl⟩ (.next rfl (by omega) .nil) rfl
 ·
  simp only [go_sem]
  rw [idxOf_none (take_full hp0 (by omega))] at hK
  exact finH1 rfl (.raw _) hK
theorem indexDecl {l: List DDecl} {p: DDecl → Bool} {g: Nat} {first capt: List AV} {h: List Blk} {K: AV → List Blk → Prop} (hp: ∀ x ∈ l,∀ K: AV → List Blk → Prop,K (.b (p x)) h → ACall Tryz.prog g (first ++ DDecl.enc x :: capt) h K)
  (hK: K (.i (idxOf p l)) h): ACall Tryz.prog 259 [.lst 6 (l.map (DDecl.enc)) none,.fn (.func g) first capt] h K := by
 refine acall_of_vc tabOK Tryz.func259 (by kernel_rfl) rfl (n := 19) rfl (rs := [.tmp 4]) rfl ?_
 simp only [go_sem]
 intro hlen
 refine loop_frH [5,8,9,10,11,12,13,14,15,16,18] (fun n C => ∃ (i: Nat),i ≤ l.length ∧ n = l.length - i ∧ (∀ x ∈ l.take i,p x = false) ∧ C = [(8,.raw (.int .i64 (i: Nat)))]) l.length _ ⟨0,by omega,by omega,by simp,rfl⟩ (.cons rfl .nil) ?_
 rintro n C j ⟨i,hi,rfl,hp0,rfl⟩
 simp only [go_sem]
 refine brK_dec (fun hlt => ?_) (fun hge => ?_)
 ·
  simp only [go_sem]
  refine elemMap (by omega) (by omega) (fun x hx => ?_)
  simp only [go_sem]
  refine hp x (List.mem_of_getElem? hx) _ ?_
  simp only [go_sem]
  cases hb: p x with
  | true =>
   simp only [go_sem]
   rw [idxOf_at hp0 hx hb] at hK
   exact finH1 rfl (.raw _) hK
  | false =>
   simp only [go_sem]
   exact loopFrH (l.length - (i + 1)) (by omega) ⟨i + 1,by omega,rfl,take_all hp0 (by rw [Int.toNat_natCast] at hx; exact hx) hb,rfl⟩ (.next rfl (by omega) .nil) rfl
 ·
  simp only [go_sem]
  rw [idxOf_none (take_full hp0 (by omega))] at hK
  exact finH1 rfl (.raw _) hK
theorem indexStr {l: List ByteArray} {p: ByteArray → Bool} {g: Nat} {first capt: List AV} {h: List Blk} {K: AV → List Blk → Prop} (hp: ∀ x ∈ l,∀ K: AV → List Blk → Prop,K (.b (p x)) h → ACall Tryz.prog g (first ++ AV.s x :: capt) h K)
  (hK: K (.i (idxOf p l)) h): ACall Tryz.prog 148 [.lst 1 (l.map (AV.s)) none,.fn (.func g) first capt] h K := by
 refine acall_of_vc tabOK Tryz.func148 (by kernel_rfl) rfl (n := 19) rfl (rs := [.tmp 4]) rfl ?_
 simp only [go_sem]
 intro hlen
 refine loop_frH [5,8,9,10,11,12,13,14,15,16,18] (fun n C => ∃ (i: Nat),i ≤ l.length ∧ n = l.length - i ∧ (∀ x ∈ l.take i,p x = false) ∧ C = [(8,.raw (.int .i64 (i: Nat)))]) l.length _ ⟨0,by omega,by omega,by simp,rfl⟩ (.cons rfl .nil) ?_
 rintro n C j ⟨i,hi,rfl,hp0,rfl⟩
 simp only [go_sem]
 refine brK_dec (fun hlt => ?_) (fun hge => ?_)
 ·
  simp only [go_sem]
  refine elemMap (by omega) (by omega) (fun x hx => ?_)
  simp only [go_sem]
  refine hp x (List.mem_of_getElem? hx) _ ?_
  simp only [go_sem]
  cases hb: p x with
  | true =>
   simp only [go_sem]
   rw [idxOf_at hp0 hx hb] at hK
   exact finH1 rfl (.raw _) hK
  | false =>
   simp only [go_sem]
   exact loopFrH (l.length - (i + 1)) (by omega) ⟨i + 1,by omega,rfl,take_all hp0 (by rw [Int.toNat_natCast] at hx; exact hx) hb,rfl⟩ (.next rfl (by omega) .nil) rfl
 ·
  simp only [go_sem]
  rw [idxOf_none (take_full hp0 (by omega))] at hK
  exact finH1 rfl (.raw _) hK
theorem indexEx {l: List Ex} {p: Ex → Bool} {g: Nat} {first capt: List AV} {h: List Blk} {K: AV → List Blk → Prop} (hp: ∀ x ∈ l,∀ K: AV → List Blk → Prop,K (.b (p x)) h → ACall Tryz.prog g (first ++ Ex.enc x :: capt) h K)
  (hK: K (.i (idxOf p l)) h): ACall Tryz.prog 217 [.lst 6 (l.map (Ex.enc)) none,.fn (.func g) first capt] h K := by
 refine acall_of_vc tabOK Tryz.func217 (by kernel_rfl) rfl (n := 19) rfl (rs := [.tmp 4]) rfl ?_
 simp only [go_sem]
 intro hlen
 refine loop_frH [5,8,9,10,11,12,13,14,15,16,18] (fun n C => ∃ (i: Nat),i ≤ l.length ∧ n = l.length - i ∧ (∀ x ∈ l.take i,p x = false) ∧ C = [(8,.raw (.int .i64 (i: Nat)))]) l.length _ ⟨0,by omega,by omega,by simp,rfl⟩ (.cons rfl .nil) ?_
 rintro n C j ⟨i,hi,rfl,hp0,rfl⟩
 simp only [go_sem]
 refine brK_dec (fun hlt => ?_) (fun hge => ?_)
 ·
  simp only [go_sem]
  refine elemMap (by omega) (by omega) (fun x hx => ?_)
  simp only [go_sem]
  refine hp x (List.mem_of_getElem? hx) _ ?_
  simp only [go_sem]
  cases hb: p x with
  | true =>
   simp only [go_sem]
   rw [idxOf_at hp0 hx hb] at hK
   exact finH1 rfl (.raw _) hK
  | false =>
   simp only [go_sem]
   exact loopFrH (l.length - (i + 1)) (by omega) ⟨i + 1,by omega,rfl,take_all hp0 (by rw [Int.toNat_natCast] at hx; exact hx) hb,rfl⟩ (.next rfl (by omega) .nil) rfl
 ·
  simp only [go_sem]
  rw [idxOf_none (take_full hp0 (by omega))] at hK
  exact finH1 rfl (.raw _) hK
end Go.Proofs.YtpamokpmlplopaaGreatDoor
namespace Go.Proofs.YtpamokpmlplopaaGreatDoor
open Go.Abs
set_option maxRecDepth 20000
set_option linter.unusedSimpArgs false
set_option linter.unusedVariables false
set_option maxHeartbeats 1000000
attribute [local irreducible] vc vcOps vcStep vcGuard prK hrK gK gsK brK callK ElemK SeqK BlockK ScopeK OpsK CallK LoopK LoopGo finPost ACall PCall PCallE BCall vqOps vqStep vqGuard qrK heK pcK gqK gqsK QOpsK qcallK DrawK
open Go.RowKit
def growPostD (n: Nat) (w: World) (e: Ending) (w': World): Prop :=
 ∃ (cap: Nat) (vs: Array Value),e = .returned (.slice (some ⟨w.heap.size,0,none⟩) 0 cap) ∧ n ≤ cap ∧ cap ≤ maxLen ∧ vs.size = cap * 6 ∧ w' = (w.alloc (.cells vs 77)).drew
theorem grow_walkD (n: Nat) (h0: 0 < n) (hn: n ≤ 4294967296) (w: World): Calls Tryz.prog 199 #[.slice none 0 0,.int .i64 (n: Int)] w (growPostD n w) := by
 have hb: Tryz.t77.bytes = 72 := by kernel_rfl
 have hns := nextslicecap_zero h0
 go_enter Tryz.func199,Tryz.ntmps199
 go_wp2
 all_goals first
  | (exfalso; simp only [hb,hns] at *; omega)
  | (go_ret
    have hge := grownCap_ge w n 0 77
    have hcm := grownCap_le_maxLen w n 0 77 (by simp only [maxLen]; omega)
    exact ⟨_,_,rfl,hge,hcm,by simp only [Array.size_append,zeroCells_size]; show n * 6 + (grownCap w n 0 77 - n) * 6 = grownCap w n 0 77 * 6; omega,rfl⟩)
theorem grow0_walkD (w: World): Calls Tryz.prog 199 #[.slice none 0 0,.int .i64 0] w fun e w' => e = .returned (.slice none 0 0) ∧ w' = w := by
 go_enter Tryz.func199,Tryz.ntmps199
 go_wp2
 go_ret
 exact ⟨rfl,rfl⟩
theorem grow_callD {n: Nat} (hn: n ≤ 4294967296) {h: List Blk} {K: AV → List Blk → Prop} (hK: K (.lst 6 [] (some h.length)) (h ++ [.tok 77 6 0])): ACall Tryz.prog 199 [.raw (.slice none 0 0),.i n] h K := by
 refine acall_of fun S φ w vs hr hargs => ?_
 have hvs: vs = #[.slice none 0 0,.int .i64 n] := by
  obtain ⟨v0,h0,c0⟩ := hargs.at (i := 0) rfl
  obtain ⟨v1,h1,c1⟩ := hargs.at (i := 1) rfl
  cases c0; cases c1
  have hl := hargs.1
  apply Array.ext_getElem?
  intro i
  match i with
  | 0 => exact h0
  | 1 => exact h1
  | i + 2 => simp at hl ⊢; omega
 subst hvs
 refine ⟨run_callFunc Tryz.func199 (by kernel_rfl) rfl _ w,?_⟩
 rcases Nat.eq_zero_or_pos n with rfl | h0
 ·
  refine Calls.mono (grow0_walkD w) ?_
  rintro e w' ⟨rfl,rfl⟩
  obtain ⟨k1,k2⟩ := hr.push (l := .tok 0 (.slice none 0 0)) (x := .tok 77 6 0) (S' := S) (w' := w') rfl rfl rfl (Nat.le_refl _) (fun _ _ => rfl) (fun _ h => h) (fun _ h => .inl h) hr.bnd
   ⟨_,upd_same _ _ _,.inl ⟨rfl,rfl⟩⟩ (fun b hb => by simp [blockOf] at hb)
  exact ⟨_,_,_,S,_,rfl,hK,.lstnil _ _ ⟨_,_,upd_same _ _ _,Nat.le_refl _,fun _ => rfl⟩,k1,k2⟩
 ·
  refine Calls.mono (grow_walkD n h0 hn w) ?_
  rintro e w' ⟨cap,us,rfl,hc,hm,hus,rfl⟩
  obtain ⟨k1,k2⟩ := hr.push (l := .tok 0 (.slice (some ⟨w.heap.size,0,none⟩) 0 cap)) (x := .tok 77 6 0) (S' := S) (w' := (w.alloc (.cells us 77)).drew) rfl rfl rfl (by show _ ≤ (w.heap.push _).size; simp) (fun b hb => alloc_heap w _ _ hb) (fun _ h => h) (fun _ h => .inl h)
   (fun a ha => by have := hr.bnd a ha; show _ < (w.heap.push _).size; simp; omega)
   ⟨_,upd_same _ _ _,.inr (.inr ⟨w.heap.size,cap,us,by omega,hm,rfl,heap_alloc_new w _,hus,fun a ha e => by have := hr.bnd a ha; omega⟩)⟩
   (fun b hb => by simp only [blockOf] at hb; split at hb; cases hb; cases hb; exact Nat.le_refl _)
  refine ⟨_,_,_,S,_,rfl,hK,?_,k1,k2⟩
  exact .lst _ [] _ _ _ _ (fun _ => undef) rfl (Nat.zero_le _) hm (by simp) (fun j c hj => by simp [flat] at hj) (fun j c hj => by simp [flat] at hj) (fun j c hj => by simp [flat] at hj) ⟨_,_,upd_same _ _ _,Nat.le_refl _,fun _ => rfl⟩
def encsD (l: List DDecl): AV := .lst 6 (l.map (DDecl.enc)) none
theorem encsD_eq (l: List DDecl): encsD l = .lst 6 (l.map (DDecl.enc)) none := rfl
instance (ls: List (List DDecl)): PureI (.lst 1 (ls.map encsD) none) := ⟨pure_list (fun x => DDecl.pures x) _⟩
attribute [go_sem] encsD_eq
def lensD (ls: List (List DDecl)): Nat := ls.flatten.length
theorem concatD (ls: List (List DDecl)) (hl: lensD ls ≤ 4294967296): PCall Tryz.prog 157 [.lst 1 (ls.map encsD) none] (.lst 6 (ls.flatten.map (DDecl.enc)) none) := by
 refine pcall_of_vc tabOK Tryz.func157 (by kernel_rfl) rfl pureL pureI (n := 36) rfl (rs := [.tmp 2]) rfl ?_
 simp only [go_sem]
 intro hlen
 refine loop_frH [5,11,12,13,14,15,16,17,18,3,19,20,21,22] (fun n C => ∃ (i: Nat),i ≤ ls.length ∧ n = ls.length - i ∧ C = [(11,.raw (.int .i64 (i: Nat))),(3,.i (lensD (ls.take i)))]) ls.length _ ⟨0,by omega,by omega,rfl⟩ (.cons rfl (.cons rfl .nil)) ?_
 rintro n C j ⟨i,hi,rfl,rfl⟩
 simp only [go_sem]
 refine brK_dec (fun hlt => ?_) (fun hge => ?_)
 ·
  simp only [go_sem]
  refine elemMap (by omega) (by omega) (fun x hx => ?_)
  rw [Int.toNat_natCast] at hx
  have ht: lensD (ls.take (i + 1)) = lensD (ls.take i) + x.length := by
   unfold lensD
   rw [List.take_add_one,hx]
   simp
  have hle: lensD (ls.take (i + 1)) ≤ lensD ls := take_flatten_le _ _
  simp only [go_sem]
  intro hxl
  rw [wrap_in _ (by omega) (by omega)]
  refine brK_dec (fun hneg => ?_) (fun _ => ?_)
  ·
   omega
  ·
   simp only [go_sem]
   exact loopFrH (ls.length - (i + 1)) (by omega) ⟨i + 1,by omega,rfl,rfl⟩ (.next rfl (by omega) (.cons (by rw [ht]; rfl) .nil)) rfl
 ·
  simp only [go_sem]
  rw [List.take_of_length_le (by omega)]
  refine grow_callD hl ?_
  simp only [go_sem]
  intro _
  refine loop_fr [8,27,28,29,30,31,32,33,6,34] (fun n C h => ∃ (i: Nat),i ≤ ls.length ∧ n = ls.length - i ∧ C = [(27,.raw (.int .i64 (i: Nat))),(6,.lst 6 ((ls.take i).flatten.map (DDecl.enc)) (some 0))] ∧ h = [.tok 77 6 (lensD (ls.take i))]) ls.length _ ⟨0,by omega,by omega,rfl,rfl⟩ (.cons rfl (.cons rfl .nil)) ?_
  rintro n C j' h ⟨i,hi,rfl,rfl,rfl⟩
  simp only [go_sem]
  refine brK_dec (fun hlt => ?_) (fun hge => ?_)
  ·
   simp only [go_sem]
   refine elemMap (by omega) (by omega) (fun x hx => ?_)
   rw [Int.toNat_natCast] at hx
   have ht: (ls.take (i + 1)).flatten = (ls.take i).flatten ++ x := by
    rw [List.take_add_one,hx]
    simp
   have hle: lensD (ls.take (i + 1)) ≤ lensD ls := take_flatten_le _ _
   have hle': (ls.take i).flatten.length + x.length ≤ 4294967296 := by
    have: lensD (ls.take (i + 1)) = (ls.take i).flatten.length + x.length := by unfold lensD; rw [ht]; simp
    omega
   simp only [go_sem]
   refine ⟨⟨rfl,hle'⟩,?_⟩
   exact loopFr (ls.length - (i + 1)) (by omega) ⟨i + 1,by omega,rfl,rfl,by simp [lensD,ht]⟩ (.next rfl (by omega) (.cons (by rw [ht,List.map_append]; rfl) .nil)) rfl
  ·
   simp only [go_sem]
   rw [List.take_of_length_le (by omega)]
   exact ⟨_,rfl,false,.tok _ _ _⟩
end Go.Proofs.YtpamokpmlplopaaGreatDoor
namespace Go.Proofs.YtpamokpmlplopaaGreatDoor
open Go.Abs
set_option maxRecDepth 20000
set_option linter.unusedSimpArgs false
set_option linter.unusedVariables false
set_option maxHeartbeats 1000000
attribute [local irreducible] vc vcOps vcStep vcGuard prK hrK gK gsK brK callK ElemK SeqK BlockK ScopeK OpsK CallK LoopK LoopGo finPost ACall PCall PCallE BCall vqOps vqStep vqGuard qrK heK pcK gqK gqsK QOpsK qcallK DrawK
abbrev allV (n: DNode): List DDecl := [n.Ins,n.Outs,n.Vars].flatten
abbrev zeroD: DDecl := ⟨⟨#[]⟩,⟨0,0,0⟩,⟨#[]⟩,⟨#[]⟩⟩
def isD (name: ByteArray) (d: DDecl): Bool := decide (d.Name = name)
def declF (name: ByteArray): List DDecl → DDecl × Bool
 | [] => (zeroD,false)
 | d :: l => if d.Name = name then (d,true) else declF name l
def decl (n: DNode) (name: ByteArray): DDecl × Bool := declF name (allV n)
abbrev declA (p: DDecl × Bool): AV := .tup [p.1.enc,.b p.2]
theorem declF_eq (name: ByteArray) (l: List DDecl): declF name l = match l.find? (isD name) with | some d => (d,true) | none => (zeroD,false) := by
 induction l with
 | nil => rfl
 | cons d l ih =>
  simp only [declF,List.find?_cons,isD]
  by_cases h: d.Name = name
  ·
   simp [h]
  ·
   simp [h,ih,isD]
theorem declF_next {name: ByteArray} {l: List DDecl} {i: Nat} {x: DDecl} (hx: l[((i: Int)).toNat]? = some x) (hn: ¬ x.Name = name) {D: DDecl × Bool} (hD: declF name (l.drop i) = D): declF name (l.drop (i + 1)) = D := by
 rw [← hD]
 rw [Int.toNat_natCast] at hx
 obtain ⟨hi,rfl⟩ := List.getElem?_eq_some_iff.1 hx
 rw [List.drop_eq_getElem_cons hi,declF,if_neg hn]
theorem declF_found {name: ByteArray} {l: List DDecl} {i: Nat} {x: DDecl} (hx: l[((i: Int)).toNat]? = some x) (hn: x.Name = name) {D: DDecl × Bool} (hD: declF name (l.drop i) = D): D = (x,true) := by
 rw [← hD]
 rw [Int.toNat_natCast] at hx
 obtain ⟨hi,rfl⟩ := List.getElem?_eq_some_iff.1 hx
 rw [List.drop_eq_getElem_cons hi,declF,if_pos hn]
theorem all63 (n: DNode) (hl: (allV n).length ≤ 4294967296): PCall Tryz.prog 258 [n.enc] (.lst 6 ((allV n).map DDecl.enc) none) := by
 refine pcall_of_vc tabOK Tryz.func258 (by kernel_rfl) rfl pureL pureI (n := 11) rfl (rs := [.tmp 2]) rfl ?_
 repeat' first
  | exact finB rfl
  | exact finI rfl
  | exact finP rfl
  | exact absurd rfl (by assumption)
  | simp only [go_sem]
  | (intro _)
  | refine brK_dec (fun _ => ?_) (fun _ => ?_)
  | refine brK_any ?_ ?_
  | refine gK_dec (fun _ => ?_) (fun _ => ?_)
  | refine gK_any ?_ ?_
  | refine gqK_dec (fun _ => ?_) (fun _ => ?_)
  | refine ⟨by omega,?_⟩
  | refine elemHave (by omega) (by assumption) ?_
  | refine elemMap (by omega) (by omega) (fun x hx => ?_)
  | refine drawK mo (by kernel_rfl) ?_
  | (refine PCall.callW (concatD [n.Ins,n.Outs,n.Vars] hl) ⟨.tok _ _ _,trivial⟩ ?_)
theorem decl25 (n: DNode) (name: ByteArray) (hl: (allV n).length ≤ 4294967296): PCall Tryz.prog 208 [n.enc,.s name] (declA (decl n name)) := by
 refine pcall_of_vc tabOK Tryz.func208 (by kernel_rfl) rfl pureL pureI (n := 21) rfl (rs := [.cell 4 77,.tmp 5]) rfl ?_
 simp only [go_sem]
 refine PCall.call (all63 n hl) ?_
 simp only [go_sem]
 refine acallK_of_vc tabOK Tryz.func260 (by kernel_rfl) rfl (n := 4) rfl (rs := [.tmp 2]) rfl ?_
 simp only [go_sem]
 refine finK rfl ?_
 simp only [go_sem]
 refine indexDecl (p := isD name) (fun x hx K hK => ?_) ?_
 ·
  refine acall_of_vc tabOK Tryz.func296 (by kernel_rfl) rfl (n := 8) rfl (rs := [.tmp 3]) rfl ?_
  simp only [go_sem]
  exact finH0 _ rfl (.raw _) hK
 have hd := declF_eq name (allV n)
 unfold decl
 rcases idxOf_cases (isD name) (allV n) with ⟨h1,h2⟩ | ⟨i,x,h1,h2,h3,_,h4⟩
 ·
  rw [h1]
  rw [h2] at hd
  rw [hd]
  repeat' first
  | exact finB rfl
  | exact finI rfl
  | exact finP rfl
  | exact absurd rfl (by assumption)
  | simp only [go_sem]
  | (intro _)
  | refine brK_dec (fun _ => ?_) (fun _ => ?_)
  | refine brK_any ?_ ?_
  | refine gK_dec (fun _ => ?_) (fun _ => ?_)
  | refine gK_any ?_ ?_
  | refine gqK_dec (fun _ => ?_) (fun _ => ?_)
  | refine ⟨by omega,?_⟩
  | refine elemHave (by omega) (by assumption) ?_
  | refine elemMap (by omega) (by omega) (fun x hx => ?_)
  | refine drawK mo (by kernel_rfl) ?_
  | (exact finT rfl)
  | omega
  | (rw [show declA (zeroD,false) = .tup [zeroD.enc,.b false] from rfl,DDecl.enc_eq]; exact ⟨_,(by first | (simp only [go_sem]; done) | (simp only [go_sem]; exact rfl) | exact rfl),false,.refl _⟩)
 ·
  rw [h1]
  rw [h3] at hd
  rw [hd]
  repeat' first
  | exact finB rfl
  | exact finI rfl
  | exact finP rfl
  | exact absurd rfl (by assumption)
  | simp only [go_sem]
  | (intro _)
  | refine brK_dec (fun _ => ?_) (fun _ => ?_)
  | refine brK_any ?_ ?_
  | refine gK_dec (fun _ => ?_) (fun _ => ?_)
  | refine gK_any ?_ ?_
  | refine gqK_dec (fun _ => ?_) (fun _ => ?_)
  | refine ⟨by omega,?_⟩
  | refine elemHave (by omega) (by assumption) ?_
  | refine elemMap (by omega) (by omega) (fun x hx => ?_)
  | refine drawK mo (by kernel_rfl) ?_
  | exact ⟨_,(by first | (simp only [go_sem]; done) | (simp only [go_sem]; exact rfl) | exact rfl),false,.refl _⟩
  | omega
  | (refine elemHave (by omega) (by rw [Int.toNat_natCast]; exact h2) ?_)
theorem all66 (n: DNode) (hl: (allV n).length ≤ 4294967296): PCall Tryz.prog 117 [n.enc] (.lst 6 ((allV n).map DDecl.enc) none) := by
 refine pcall_of_vc tabOK Tryz.func117 (by kernel_rfl) rfl pureL pureI (n := 13) rfl (rs := [.tmp 2]) rfl ?_
 have hl': n.Ins.length + n.Outs.length + n.Vars.length ≤ 4294967296 := by simpa [allV,Nat.add_assoc] using hl
 have e: (allV n).map DDecl.enc = n.Ins.map DDecl.enc ++ (n.Outs.map DDecl.enc ++ n.Vars.map DDecl.enc) := by simp [allV]
 repeat' first
  | exact finB rfl
  | exact finI rfl
  | exact finP rfl
  | exact absurd rfl (by assumption)
  | simp only [go_sem]
  | (intro _)
  | refine brK_dec (fun _ => ?_) (fun _ => ?_)
  | refine brK_any ?_ ?_
  | refine gK_dec (fun _ => ?_) (fun _ => ?_)
  | refine gK_any ?_ ?_
  | refine gqK_dec (fun _ => ?_) (fun _ => ?_)
  | refine ⟨by omega,?_⟩
  | refine elemHave (by omega) (by assumption) ?_
  | refine elemMap (by omega) (by omega) (fun x hx => ?_)
  | refine drawK mo (by kernel_rfl) ?_
  | (refine ⟨⟨by simp,by simp; omega⟩,?_⟩)
  | (rw [e]; exact ⟨_,rfl,false,.tok _ _ _⟩)
theorem decl26 (n: DNode) (name: ByteArray) (hl: (allV n).length ≤ 4294967296): PCall Tryz.prog 101 [n.enc,.s name] (declA (decl n name)) := by
 refine pcall_of_vc tabOK Tryz.func101 (by kernel_rfl) rfl pureL pureI (n := 28) rfl (rs := [.cell 4 77,.tmp 5]) rfl ?_
 unfold decl
 repeat' first
  | exact finB rfl
  | exact finI rfl
  | exact finP rfl
  | exact absurd rfl (by assumption)
  | simp only [go_sem]
  | (intro _)
  | refine brK_dec (fun _ => ?_) (fun _ => ?_)
  | refine brK_any ?_ ?_
  | refine gK_dec (fun _ => ?_) (fun _ => ?_)
  | refine gK_any ?_ ?_
  | refine gqK_dec (fun _ => ?_) (fun _ => ?_)
  | refine ⟨by omega,?_⟩
  | refine elemHave (by omega) (by assumption) ?_
  | refine elemMap (by omega) (by omega) (fun x hx => ?_)
  | refine drawK mo (by kernel_rfl) ?_
  | (refine PCall.call (all66 n hl) ?_)
  | (rw [← hpi,List.drop_of_length_le (by omega)]; simp only [declF]; rw [show declA (zeroD,false) = .tup [zeroD.enc,.b false] from rfl,DDecl.enc_eq]; exact ⟨_,(by first | (simp only [go_sem]; done) | (simp only [go_sem]; exact rfl) | exact rfl),false,.refl _⟩)
  | (rw [declF_found (by assumption) (by assumption) hpi]; exact ⟨_,(by first | (simp only [go_sem]; done) | (simp only [go_sem]; exact rfl) | exact rfl),false,.refl _⟩)
  | exact loopFrH _ (by omega) ⟨i + 1,by omega,rfl,declF_next (by assumption) (by assumption) hpi,rfl⟩ (.next rfl (by omega) .nil) rfl
  | (refine loop_frH [5,7,10,11,12,13,14,15,16,17,18,19,20,21,22,23,24,25,26] (fun mm_ CC_ => ∃ (i: Nat),i ≤ (allV n).length ∧ mm_ = (allV n).length - i ∧ (declF name ((allV n).drop i) = declF name (allV n)) ∧ CC_ = [(7,.raw (.int .i64 ((i: Nat): Int)))]) ((allV n).length) _ ⟨0,by omega,by omega,rfl,rfl⟩ (.cons rfl .nil) ?_; rintro mm_ CC_ ji ⟨i,hi,rfl,hpi,rfl⟩)
def findF (p: DProg) (name: ByteArray): Int := idxOf (fun n => decide (n.Name = name)) p.Nodes
theorem find23 (p: DProg) (name: ByteArray): PCall Tryz.prog 140 [p.enc,.s name] (.i (findF p name)) := by
 refine pcall_of_vc tabOK Tryz.func140 (by kernel_rfl) rfl pureL pureI (n := 9) rfl (rs := [.tmp 4]) rfl ?_
 simp only [go_sem]
 refine indexNode (p := fun n => decide (n.Name = name)) (fun x hx K hK => ?_) ?_
 ·
  refine acall_of_vc tabOK Tryz.func176 (by kernel_rfl) rfl (n := 8) rfl (rs := [.tmp 3]) rfl ?_
  simp only [go_sem]
  exact finH0 _ rfl (.raw _) hK
 repeat' first
  | exact finB rfl
  | exact finI rfl
  | exact finP rfl
  | exact absurd rfl (by assumption)
  | simp only [go_sem]
  | (intro _)
  | refine brK_dec (fun _ => ?_) (fun _ => ?_)
  | refine brK_any ?_ ?_
  | refine gK_dec (fun _ => ?_) (fun _ => ?_)
  | refine gK_any ?_ ?_
  | refine gqK_dec (fun _ => ?_) (fun _ => ?_)
  | refine ⟨by omega,?_⟩
  | refine elemHave (by omega) (by assumption) ?_
  | refine elemMap (by omega) (by omega) (fun x hx => ?_)
  | refine drawK mo (by kernel_rfl) ?_
theorem find24 (p: DProg) (name: ByteArray): PCall Tryz.prog 141 [p.enc,.s name] (.i (findF p name)) := by
 refine pcall_of_vc tabOK Tryz.func141 (by kernel_rfl) rfl pureL pureI (n := 22) rfl (rs := [.tmp 4]) rfl ?_
 unfold findF
 repeat' first
  | exact finB rfl
  | exact finI rfl
  | exact finP rfl
  | exact absurd rfl (by assumption)
  | simp only [go_sem]
  | (intro _)
  | refine brK_dec (fun _ => ?_) (fun _ => ?_)
  | refine brK_any ?_ ?_
  | refine gK_dec (fun _ => ?_) (fun _ => ?_)
  | refine gK_any ?_ ?_
  | refine gqK_dec (fun _ => ?_) (fun _ => ?_)
  | refine ⟨by omega,?_⟩
  | refine elemHave (by omega) (by assumption) ?_
  | refine elemMap (by omega) (by omega) (fun x hx => ?_)
  | refine drawK mo (by kernel_rfl) ?_
  | (rw [idxOf_none (take_full hpi (by omega))]; exact ⟨_,(by first | (simp only [go_sem]; done) | (simp only [go_sem]; exact rfl) | exact rfl),false,.refl _⟩)
  | (rw [idxOf_at hpi (by assumption) (by simpa using (by assumption))]; exact ⟨_,(by first | (simp only [go_sem]; done) | (simp only [go_sem]; exact rfl) | exact rfl),false,.refl _⟩)
  | exact loopFrH _ (by omega) ⟨i + 1,by omega,rfl,take_all hpi (by assumption) (by simpa using (by assumption)),rfl⟩ (.next rfl (by omega) .nil) rfl
  | (refine loop_frH [4,5,6,7,8,9,10,11,12,13,14,15,16,17,18,19,20,21] (fun mm_ CC_ => ∃ (i: Nat),i ≤ p.Nodes.length ∧ mm_ = p.Nodes.length - i ∧ (∀ n ∈ p.Nodes.take i,decide (n.Name = name) = false) ∧ CC_ = [(5,.raw (.int .i64 ((i: Nat): Int)))]) (p.Nodes.length) _ ⟨0,by omega,by omega,by simp,rfl⟩ (.cons rfl .nil) ?_; rintro mm_ CC_ ji ⟨i,hi,rfl,hpi,rfl⟩)
end Go.Proofs.YtpamokpmlplopaaGreatDoor
namespace Go.Abs
open Go.RowKit
def setPs (s: List AV): List Tmp → List AV → List AV
 | t :: ts,v :: vs => setPs (s.set t v) ts vs
 | _,_ => s
section
variable {P: Program} {T: TypeId → TI} {S S': Addr → Prop} {φ φ': Nat → Loc} {h h': List Blk} {w w': World}
theorem setPs_list: ∀ (ps: List Tmp) {s args: List AV} {tmps: Array Value} {vs: List Value},CAll S w φ s tmps → CAll S w φ args vs.toArray → CAll S w φ (setPs s ps args) ((ps.zip vs).foldl (fun t p => t.setIfInBounds p.1 p.2) tmps)
 | [],s,args,tmps,vs,hs,_ => by simpa [setPs] using hs
 | t :: ps,s,[],tmps,vs,hs,ha => by
  have: vs = [] := List.length_eq_zero_iff.1 (by simpa using ha.1)
  subst this
  simpa [setPs] using hs
 | t :: ps,s,v :: args,tmps,[],hs,ha => by have := ha.1; simp at this
 | t :: ps,s,v :: args,tmps,u :: vs,hs,ha => by
  simp only [setPs,List.zip_cons_cons,List.foldl_cons]
  refine setPs_list ps (hs.set t (ha.2 0 v u rfl rfl)) ⟨by have := ha.1; simpa using this,fun i x y hx hy => ha.2 (i + 1) x y (by simpa using hx) (by simpa using hy)⟩
theorem setPs_all {ps: Array Tmp} {s args: List AV} {tmps vs: Array Value} (hs: CAll S w φ s tmps) (ha: CAll S w φ args vs): CAll S w φ (setPs s ps.toList args) ((ps.zip vs).foldl (fun t (p,v) => t.setIfInBounds p v) tmps) := by
 have := setPs_list ps.toList (vs := vs.toList) hs (by simpa using ha)
 rw [← Array.foldl_toList,Array.toList_zip]
 exact this
theorem lp_put {k l: Nat} {st: LoopState} {pe: Option Code} {ps: Array Tmp} {x y: Code} {s: List AV} (hr: R S φ h w) (hk: h[k]? = some (.lp l st pe ps x y s)) :
  ∃ rec: Loop,w.heap[l]? = some (.loop rec) ∧ rec.state = st ∧ rec.pending = pe ∧ rec.params = ps ∧ rec.assign = x ∧ rec.body = y ∧ CAll S w φ s rec.tmps ∧
   ∀ st' pe',R S (upd φ k (.obj l)) (h.set k (.lp l st' pe' ps x y s)) (w.putObj l (.loop { rec with state := st',pending := pe' })) ∧ Ext S φ h w S (upd φ k (.obj l)) (h.set k (.lp l st' pe' ps x y s)) (w.putObj l (.loop { rec with state := st',pending := pe' })) := by
 obtain ⟨g1,fn,tmps,D,g2,g3,g4⟩ := hr.blk _ _ hk
 have hlt := (Array.getElem?_eq_some_iff.1 g2).1
 have hown: blockOf (φ k) (.lp l st pe ps x y s) = some l := by rw [g1]; rfl
 have hoth: ∀ (o: Obj) b,b ≠ l → (w.putObj l o).heap[b]? = w.heap[b]? := fun o b hb => World.putObj_heap_other hb
 have hle: ∀ j,(φ j).le (upd φ k (.obj l) j) := fun j => by
  by_cases e: j = k
  ·
   subst e; rw [upd_same,g1]; rfl
  ·
   rw [upd_other _ e]; exact Loc.le_refl _
 refine ⟨_,g2,rfl,rfl,rfl,rfl,rfl,g3,fun st' pe' => ?_⟩
 have hcell: ∀ (o: Obj) c,S c → (w.putObj l o).cell? c = w.cell? c := fun o c hc => cell_of_heap (hoth o c.block (g4 c hc))
 exact hr.put (k := k) (x := .lp l st' pe' ps x y s) (l := .obj l) (S' := S) hk rfl rfl rfl (by simp) (fun b _ hne => hoth _ b (fun e => hne (by rw [hown,e]))) (fun _ h => h) (hcell _) (fun _ h => .inl h) (fun c hc => by have := hr.bnd c hc; simpa using this) (by rw [g1]; rfl)
  ⟨upd_same _ _ _,fn,tmps,D,World.putObj_heap_same hlt,g3.mono (fun _ h => h) (hcell _) hle,g4⟩ (fun b hb => by cases hb; exact .inr hown)
def roundB (l k: Nat) (ps: Array Tmp) (x y: Code) (s: List AV) (K: AV → List Blk → Prop): Post := fun e _ h2 =>
 h2[k]? = some (.lp l .busy none ps x y s) ∧ match e with
  | .normal => K (.raw (.bool true)) (h2.set k (.lp l .ready none ps x y s))
  | .ret => K (.raw (.bool false)) (h2.set k (.lp l .done (some .ret) ps x y s))
  | .exit id => K (.raw (.bool false)) (h2.set k (.lp l .done (some (.exit id)) ps x y s))
  | .goto _ => False
def roundA (P: Program) (T: TypeId → TI) (l k: Nat) (ps: Array Tmp) (x y: Code) (s: List AV) (K: AV → List Blk → Prop): Post := fun e s1 h1 => match e with
 | .normal => h1[k]? = some (.lp l .ready none ps x y s) ∧ vc P T y (roundB l k ps x y s K) s1 (h1.set k (.lp l .busy none ps x y s))
 | _ => False
set_option maxHeartbeats 1000000 in
theorem ycall_of_vc (hT: TabOK P T) {l k: Nat} {ps: Array Tmp} {x y: Code} {s args: List AV} {K: AV → List Blk → Prop} (hk: h[k]? = some (.lp l .ready none ps x y s)) (hl: args.length = ps.size) (hx: noR x = true) (hy: noR y = true)
  (hv: vc P T x (roundA P T l k ps x y s K) (setPs s ps.toList args) h): YCall P l args h K := by
 intro S φ w vs hr hargs
 obtain ⟨rec,g1,g2,g3,g4,g5,g6,g7,_⟩ := lp_put hr hk
 have hrun := run_yield (P := P) (args := vs) g1 (by rw [g4,hargs.1,hl])
 refine ⟨_,_,_,_,hrun,roundIn_of_wpIn trivial ?_⟩
 rw [g4,g5,g6]
 refine wpIn_mono (vc_soundIn (ro := some l) (n0 := w.heap.size) hT x (fun _ => hx) hv (MK.nil (Nat.le_refl _)) (setPs_all g7 hargs) hr) ?_
 rintro e a1 w1 ⟨xx,hxx,s1,h1,S1,φ1,hK1,hd1,hs1,hr1,he1⟩
 cases e <;> simp only [exitOf] at hxx <;> cases hxx
 ·
  obtain ⟨hk1,hv1⟩ := hK1
  obtain ⟨rec1,f1,f2,f3,f4,f5,f6,f7,f8⟩ := lp_put hr1 hk1
  have hbr := run_beginRound (P := P) f1 f2
  have e1: ({ rec1 with state := .busy }: Loop) = { rec1 with state := .busy,pending := none } := by rw [← f3]
  rw [e1] at hbr
  obtain ⟨m1,m2⟩ := f8 .busy none
  refine ⟨_,hbr,?_⟩
  refine wpIn_mono (vc_soundIn (ro := some l) (n0 := w.heap.size) hT y (fun _ => hy) hv1 (hd1.ext m2) (m2.CAll hs1) m1) ?_
  rintro e a2 w2 ⟨xx,hxx,s2,h2,S2,φ2,hK2,hd2,hs2,hr2,he2⟩
  obtain ⟨hk2,hK2⟩ := hK2
  obtain ⟨rec2,p1,p2,p3,p4,p5,p6,p7,p8⟩ := lp_put hr2 hk2
  have hee := (he1.trans m2).trans he2
  have fin: ∀ (jump: Option Code),∃ w3,(Instr.endRound l jump).run P w2 = .ok (.bool jump.isNone) w3 ∧ R S2 (upd φ2 k (.obj l)) (h2.set k (.lp l (if jump.isNone then .ready else .done) jump ps x y s)) w3 ∧ Ext S φ h w S2 (upd φ2 k (.obj l)) (h2.set k (.lp l (if jump.isNone then .ready else .done) jump ps x y s)) w3 := fun jump => by
   obtain ⟨n1,n2⟩ := p8 (if jump.isNone then .ready else .done) jump
   exact ⟨_,run_endRound (P := P) jump p1,n1,hee.trans n2⟩
  cases e <;> simp only [exitOf] at hxx <;> cases hxx
  ·
   obtain ⟨w3,q1,q2,q3⟩ := fin none
   exact ⟨_,w3,q1,_,_,_,S2,_,rfl,hK2,.raw _,q2,q3⟩
  ·
   rename_i id
   obtain ⟨w3,q1,q2,q3⟩ := fin (some (.exit id))
   exact ⟨_,w3,q1,_,_,_,S2,_,rfl,hK2,.raw _,q2,q3⟩
  ·
   exact hK2.elim
  ·
   obtain ⟨w3,q1,q2,q3⟩ := fin (some .ret)
   exact ⟨_,w3,q1,_,_,_,S2,_,rfl,hK2,.raw _,q2,q3⟩
 ·
  exact hK1.elim
 ·
  exact hK1.elim
 ·
  exact hK1.elim
end
end Go.Abs
namespace Go.Abs
open Go
theorem blk_app {h r: List Blk} {k: Nat} {cs: List AV} (hb: blkCells h k = some cs): blkCells (h ++ r) k = some cs := by
 obtain ⟨t,ht⟩ := blk_at hb
 unfold blkCells
 rw [at_old ht]
abbrev AV.n (n: Nat): AV := .raw (.int .i64 (n: Int))
def okAt (N H: List (List ByteArray)) (pl: List Bool) (i: Nat) (a: Int): Prop :=
 (a = -1 ∧ ∀ j,j < i → readyF N H pl j = false) ∨ ∃ k: Nat,k < i ∧ a = k ∧ readyF N H pl k = true ∧ ∀ j,j < k → readyF N H pl j = false
section
variable {N H: List (List ByteArray)} {pl: List Bool} {i: Nat} {a: Int}
theorem okAt.zero: okAt N H pl 0 (-1) := .inl ⟨rfl,fun j h => by omega⟩
theorem okAt.hit (h: okAt N H pl i a) (ha: a < 0) (hr: readyF N H pl i = true): okAt N H pl (i + 1) (i: Int) := by
 rcases h with ⟨_,h⟩ | ⟨k,_,h,_⟩
 ·
  exact .inr ⟨i,by omega,rfl,hr,h⟩
 ·
  omega
theorem okAt.miss (h: okAt N H pl i a) (ha: a < 0) (hr: readyF N H pl i = false): okAt N H pl (i + 1) a := by
 rcases h with ⟨h0,h⟩ | ⟨k,_,h,_⟩
 ·
  refine .inl ⟨h0,fun j hj => ?_⟩
  by_cases e: j = i
  ·
   subst e; exact hr
  ·
   exact h j (by omega)
 ·
  omega
theorem okAt.none_ (h: okAt N H pl i a) (ha: a < 0) (hi: N.length ≤ i): pickF N H pl 0 N.length = none := by
 rcases h with ⟨_,h⟩ | ⟨k,_,h,_⟩
 ·
  exact pick_none fun j _ hj => h j (by omega)
 ·
  omega
theorem okAt.got (h: okAt N H pl i a) (ha: ¬ a < 0) (hi: i ≤ N.length): ∃ k: Nat,a = k ∧ k < N.length ∧ pickF N H pl 0 N.length = some k ∧ pl[k]? = some false := by
 rcases h with ⟨h,_⟩ | ⟨k,h1,h2,h3,h4⟩
 ·
  omega
 ·
  exact ⟨k,h2,by omega,pick_some (by omega) (by omega) (fun j _ hj => h4 j hj) h3,ready_pl h3⟩
theorem order_none {k: Nat} {out: List Nat} (h: pickF N H pl 0 N.length = none) (hk: 0 < k): orderG N H k pl out = (out,false) := by
 obtain ⟨m,rfl⟩: ∃ m,k = m + 1 := ⟨k - 1,by omega⟩
 rw [orderG,h]
theorem order_some {k j: Nat} {out: List Nat} (h: pickF N H pl 0 N.length = some j) (hk: 0 < k): orderG N H k pl out = orderG N H (k - 1) (pl.set j true) (out ++ [j]) := by
 obtain ⟨m,rfl⟩: ∃ m,k = m + 1 := ⟨k - 1,by omega⟩
 rw [orderG,h]
 rfl
theorem not_next {p: Nat → Prop} (h: ∀ j,j < i → p j) (hi: p i): ∀ j,j < i + 1 → p j := fun j hj => by
 by_cases e: j = i
 ·
  subst e; exact hi
 ·
  exact h j (by omega)
theorem set_b' (pl: List Bool) (k: Nat) (b: Bool): (pl.map AV.b).set k (.raw (.bool b)) = (pl.set k b).map AV.b := List.map_set.symm
theorem any_waits (N: List (List ByteArray)) (pl: List Bool) (l: List ByteArray): (l.any fun s => decide (((opn s N pl: Nat): Int) > 0)) = l.any fun s => waitsF N pl s := by
 have: (fun s => decide (((opn s N pl: Nat): Int) > 0)) = fun s => waitsF N pl s := by
  funext s
  simp only [waitsF,decide_eq_decide]
  omega
 rw [this]
theorem ready_any {hs: List ByteArray} (hp: pl[i]? = some false) (h: H[i]? = some hs) {b: Bool} (hb: (hs.any fun s => waitsF N pl s) = b): readyF N H pl i = !b := by
 cases b with
 | true =>
  obtain ⟨s,hs,hw⟩ := List.any_eq_true.1 hb
  exact ready_wait h hs hw
 | false =>
  refine ready_yes hp h fun s hs => ?_
  have := List.any_eq_false.1 hb s hs
  simpa using this
end
end Go.Abs
namespace Go.Proofs.YtpamokpmlplopaaGreatDoor
open Go.Abs
set_option maxRecDepth 20000
set_option linter.unusedSimpArgs false
set_option linter.unusedVariables false
set_option maxHeartbeats 1000000
attribute [local irreducible] vc vcOps vcStep vcGuard prK hrK gK gsK brK callK ElemK SeqK BlockK ScopeK OpsK CallK LoopK LoopGo finPost ACall PCall PCallE BCall vqOps vqStep vqGuard qrK heK pcK gqK gqsK QOpsK qcallK DrawK
theorem ctors154 (L: List DEnum) {h: List Blk} {K: AV → List Blk → Prop} (hK: K (.fn (.func 297) [] [.ptr h.length 0]) (h ++ [.cells 22 [.lst 2 (L.map DEnum.enc) none]])) :
  ACall Tryz.prog 261 [.lst 2 (L.map DEnum.enc) none] h K := by
 refine acallK_of_vc tabOK Tryz.func261 (by kernel_rfl) rfl (n := 4) rfl (rs := [.tmp 2]) rfl ?_
 simp only [go_sem]
 exact finK rfl hK
theorem ctors155 (L: List DEnum) (yl k0: Nat) (I: Nat → Nat → List Blk → Prop) (St: List Blk → Prop) {h: List Blk} {K: AV → List Blk → Prop}
  (hk: ∀ i k h,I i k h → h[k0]? = some (.cells 22 [.lst 2 (L.map DEnum.enc) none]))
  (hg: ∀ i k h r,I i k h → I i k (h ++ r)) (hr: ∀ i e h,L[i]? = some e → I i e.Ctors.length h → I (i + 1) 0 h)
  (hy: ∀ i k e c h,L[i]? = some e → e.Ctors[k]? = some c → I i k h → ∀ K: AV → List Blk → Prop,(∀ h',I i (k + 1) h' → K (.b true) h') → (∀ h',St h' → K (.b false) h') → YCall Tryz.prog yl [.agg [.i (i: Int),.i (k: Int)],.s c] h K)
  (h0: I 0 0 h) (hK: ∀ h',I L.length 0 h' → K (.tup []) h') (hS: ∀ h',St h' → K (.tup []) h'): ACall Tryz.prog 297 [.fn (.yield yl) [] [],.ptr k0 0] h K := by
 refine acallK_of_vc tabOK Tryz.func297 (by kernel_rfl) rfl (n := 31) rfl (rs := []) rfl ?_
 simp only [go_sem,hk 0 0 h h0]
 intro hlen
 refine loop_fr [3,4,5,6,9,10,11,12,13,14,15,16,17,18,19,20,21,22,23,24,25,26,27,28,29,30] (fun m C hh => ∃ i: Nat,i ≤ L.length ∧ m = L.length - i ∧ I i 0 hh ∧ C = [(9,.raw (.int .i64 (i: Nat)))]) L.length _ ⟨0,by omega,by omega,h0,rfl⟩ (.cons rfl .nil) ?_
 rintro m C jo hh ⟨i,hi,rfl,hI,rfl⟩
 simp only [go_sem]
 refine brK_dec (fun hlt => ?_) (fun hge => ?_)
 ·
  simp only [go_sem]
  refine elemMap (by omega) (by omega) (fun e he => ?_)
  have he': L[i]? = some e := by simpa using he
  simp only [go_sem,at_app0,set_app0]
  intro hlen2
  refine loop_fr [5,6,17,18,19,20,21,22,23,24,25,26,27,28,29] (fun m C hh => ∃ k: Nat,k ≤ e.Ctors.length ∧ m = e.Ctors.length - k ∧ I i k hh ∧ C = [(17,.raw (.int .i64 (k: Nat)))]) e.Ctors.length _ ⟨0,by omega,by omega,hg _ _ _ _ hI,rfl⟩ (.cons rfl .nil) ?_
  rintro m C ji hh2 ⟨k,hk2,rfl,hI2,rfl⟩
  simp only [go_sem]
  refine brK_dec (fun hlt2 => ?_) (fun hge2 => ?_)
  ·
   simp only [go_sem]
   refine elemMap (by omega) (by omega) (fun c hc => ?_)
   simp only [go_sem]
   refine hy i k e c hh2 he' (by simpa using hc) hI2 _ (fun h' hI' => ?_) (fun h' hS' => ?_)
   ·
    simp only [go_sem]
    exact loopFr _ (by omega) ⟨k + 1,by omega,rfl,hI',rfl⟩ (.next rfl (by omega) .nil) rfl
   ·
    simp only [go_sem]
    exact ⟨[],rfl,.tup [],.refl _,hS _ hS'⟩
  ·
   simp only [go_sem]
   have: k = e.Ctors.length := by omega
   subst this
   exact loopFr _ (by omega) ⟨i + 1,by omega,rfl,hr i e _ he' hI2,rfl⟩ (.next rfl (by omega) .nil) rfl
 ·
  simp only [go_sem]
  have: i = L.length := by omega
  subst this
  exact ⟨[],rfl,.tup [],.refl _,hK _ hI⟩
def NoC (L: List DEnum) (nm: ByteArray) (i k: Nat): Prop := (∀ (i': Nat) e,i' < i → L[i']? = some e → nm ∉ e.Ctors) ∧ ∀ e,L[i]? = some e → nm ∉ e.Ctors.take k
def CtorIs (L: List DEnum) (nm: ByteArray) (a b: Int) (ok: Bool): Prop := (ok = true ∧ ∃ (i k: Nat) (e: DEnum),a = i ∧ b = k ∧ L[i]? = some e ∧ e.Ctors[k]? = some nm ∧ NoC L nm i k) ∨ (ok = false ∧ a = 0 ∧ b = 0 ∧ ∀ e ∈ L,nm ∉ e.Ctors)
theorem NoC.zero {L: List DEnum} {nm: ByteArray}: NoC L nm 0 0 := ⟨fun i' e h => by omega,fun e _ => by simp⟩
theorem NoC.next {L: List DEnum} {nm c: ByteArray} {i k: Nat} {e: DEnum} (h: NoC L nm i k) (he: L[i]? = some e) (hc: e.Ctors[k]? = some c) (hne: ¬ c = nm): NoC L nm i (k + 1) := by
 refine ⟨h.1,fun e' he' => ?_⟩
 rw [he] at he'
 cases he'
 obtain ⟨hk,rfl⟩ := List.getElem?_eq_some_iff.1 hc
 rw [List.take_succ_eq_append_getElem hk]
 intro hm
 rcases List.mem_append.1 hm with q | q
 ·
  exact h.2 e he q
 ·
  simp at q; exact hne q.symm
theorem NoC.row {L: List DEnum} {nm: ByteArray} {i: Nat} {e: DEnum} (he: L[i]? = some e) (h: NoC L nm i e.Ctors.length): NoC L nm (i + 1) 0 := by
 refine ⟨fun i' e' hi he' => ?_,fun e' _ => by simp⟩
 by_cases q: i' = i
 ·
  subst q
  rw [he] at he'
  cases he'
  have := h.2 e he
  rwa [List.take_length] at this
 ·
  exact h.1 i' e' (by omega) he'
theorem NoC.none_ {L: List DEnum} {nm: ByteArray} (h: NoC L nm L.length 0): ∀ e ∈ L,nm ∉ e.Ctors := fun e he => by
 obtain ⟨i,hi,rfl⟩ := List.getElem_of_mem he
 exact h.1 i _ hi (List.getElem?_eq_getElem hi)
abbrev HC (L: List DEnum) (nm: ByteArray) (a b: Int) (ok: Bool) (B: Blk) (r: List Blk): List Blk :=
 .cells 9 [.s nm] :: .cells 3 [.i a] :: .cells 3 [.i b] :: .cells 4 [.b ok] :: .cells 22 [.lst 2 (L.map DEnum.enc) none] :: B :: r
theorem ctor_range {L: List DEnum} {nm: ByteArray} {ps: Array Tmp} {x y: Code} {s: List AV} {l: Nat} {Q: Post} (hps: ps.size = 2) (hx: noR x = true) (hy: noR y = true)
  (hbody: ∀ (i k: Nat) (e: DEnum) (c: ByteArray) (r: List Blk) (K: AV → List Blk → Prop),L[i]? = some e → e.Ctors[k]? = some c → (¬ c = nm → ∀ r',K (.b true) (HC L nm 0 0 false (.lp l .ready none ps x y s) r')) →
   (c = nm → ∀ r',K (.b false) (HC L nm i k true (.lp l .done (some .ret) ps x y s) r')) → vc Tryz.prog ti x (roundA Tryz.prog ti l 5 ps x y s K) (setPs s ps.toList [.agg [.i (i: Int),.i (k: Int)],.s c]) (HC L nm 0 0 false (.lp l .ready none ps x y s) r))
  (hn: ∀ r,(∀ e ∈ L,nm ∉ e.Ctors) → Q .normal s (HC L nm 0 0 false .dead r))
  (hr: ∀ (i k: Nat) (e: DEnum) r,L[i]? = some e → e.Ctors[k]? = some nm → NoC L nm i k → Q .ret s (HC L nm i k true .dead r)) :
  ACall Tryz.prog 297 [.fn (.yield l) [] [],.ptr 4 0] (HC L nm 0 0 false (.lp l .ready none ps x y s) []) (fun _ h' => loopEnd Q s 5 h') := by
 refine ctors155 L l 4 (fun i k h => ∃ r,NoC L nm i k ∧ h = HC L nm 0 0 false (.lp l .ready none ps x y s) r) (fun h => ∃ (i k: Nat) (e: DEnum) (r: List Blk),L[i]? = some e ∧ e.Ctors[k]? = some nm ∧ NoC L nm i k ∧ h = HC L nm i k true (.lp l .done (some .ret) ps x y s) r) ?_ ?_ ?_ ?_ ⟨[],NoC.zero,rfl⟩ ?_ ?_
 ·
  rintro i k h ⟨r,_,rfl⟩; rfl
 ·
  rintro i k h r' ⟨r,hN,rfl⟩; exact ⟨r ++ r',hN,rfl⟩
 ·
  rintro i e h he ⟨r,hN,rfl⟩; exact ⟨r,hN.row he,rfl⟩
 ·
  rintro i k e c h he hc ⟨r,hN,rfl⟩ K hK1 hK2
  exact ycall_of_vc tabOK rfl (by simp [hps]) hx hy (hbody i k e c r K he hc (fun hne r' => hK1 _ ⟨r',hN.next he hc hne,rfl⟩) (fun heq r' => hK2 _ ⟨i,k,e,r',he,heq ▸ hc,hN,rfl⟩))
 ·
  rintro h' ⟨r,hN,rfl⟩; exact hn r hN.none_
 ·
  rintro h' ⟨i,k,e,r,he,hc,hN,rfl⟩; exact hr i k e r he hc hN
abbrev trC: Tr := (.two 0 (.two 1 (.two 2 (.two 3 (.one 4 (.one 5 (.one 6 .nil))) 4 (.one 3 (.one 5 (.one 6 .nil)))) 4 (.one 2 (.one 3 (.one 5 (.one 6 .nil))))) 2 (.two 1 (.two 3 (.one 4 (.one 5 (.one 6 .nil))) 4 (.one 3 (.one 5 (.one 6 .nil)))) 3 (.one 1 (.one 4 (.one 5 (.one 6 .nil)))))) 2 (.two 0 (.two 1 (.two 3 (.one 4 (.one 5 (.one 6 .nil))) 4 (.one 3 (.one 5 (.one 6 .nil)))) 3 (.one 1 (.one 4 (.one 5 (.one 6 .nil))))) 3 (.one 0 (.one 1 (.one 4 (.one 5 (.one 6 .nil)))))))
theorem ctor153 (L: List DEnum) (nm: ByteArray): PCallE Tryz.prog 210 [.lst 2 (L.map DEnum.enc) none,.s nm] (fun r => ∃ (a b: Int) (ok: Bool),r = .tup [.i a,.i b,.b ok] ∧ CtorIs L nm a b ok) := by
 refine pcallE_of_vc tabOK Tryz.func210 (by kernel_rfl) rfl pureL (n := 20) rfl (rs := [.cell 4 3,.cell 5 3,.cell 6 4]) rfl ?_
 simp only [go_sem]
 refine ctors154 L ?_
 simp only [go_sem]
 intro l
 refine ctor_range rfl rfl rfl (fun i k e c r K he hc hK1 hK2 => ?_) (fun r hno => ?_) (fun i k e r he hc hN => ?_)
 ·
  simp only [go_sem,setPs,roundA]
  refine brK_dec (fun hq => ?_) (fun hq => ?_)
  ·
   simp only [go_sem]
   refine drawV trC mo (by kernel_rfl) ?_
   repeat' first
    | exact hK2 hq _
    | exact ⟨rfl,hK2 hq _⟩
    | simp only [go_sem,roundB]
    | refine ⟨by omega,?_⟩
    | refine ⟨?_,?_⟩
  ·
   simp only [go_sem,roundB]
   first | exact hK1 hq _ | exact ⟨rfl,hK1 hq _⟩
 ·
  simp only [go_sem]
  exact ⟨_,rfl,false,_,.refl _,.tup _ (pure_cons (.raw _) (pure_cons (.raw _) (pure_cons (.raw _) pure_nil))),0,0,false,rfl,.inr ⟨rfl,rfl,rfl,hno⟩⟩
 ·
  simp only [go_sem]
  exact ⟨_,rfl,false,_,.refl _,.tup _ (pure_cons (.raw _) (pure_cons (.raw _) (pure_cons (.raw _) pure_nil))),_,_,true,rfl,.inl ⟨rfl,i,k,e,rfl,rfl,he,hc,hN⟩⟩
theorem PCallE.one {P: Program} {f: FuncId} {args: List AV} {v: AV} {Kr: AV → Prop} (hp: PCallE P f args Kr) (hk: ∀ r,Kr r → r = v) (hv: Go.Abs.Pure v): PCall P f args v := by
 unfold PCallE at hp
 unfold PCall
 refine ⟨hp.1,hv,fun S w vs hb ht hc => ?_⟩
 obtain ⟨h1,h2⟩ := hp.2 S w vs hb ht hc
 refine ⟨h1,Calls.mono h2 ?_⟩
 rintro e w' ⟨u,r,S',e1,hr,_,e3⟩
 rw [hk r hr] at e3
 exact ⟨u,S',e1,e3⟩
def ctorG (nm: ByteArray): List DEnum → Nat → Int × Int × Bool
 | [],_ => (0,0,false)
 | e :: l,i => match e.Ctors.findIdx? (fun c => decide (c = nm)) with
  | some k => ((i: Int),(k: Int),true)
  | none => ctorG nm l (i + 1)
theorem find_no {nm: ByteArray} {l: List ByteArray} (h: nm ∉ l): l.findIdx? (fun c => decide (c = nm)) = none := by
 rw [List.findIdx?_eq_none_iff]
 intro x hx
 have: ¬ x = nm := fun e => h (e ▸ hx)
 simp [this]
theorem ctorG_no {nm: ByteArray}: ∀ {L: List DEnum} (n: Nat),(∀ e ∈ L,nm ∉ e.Ctors) → ctorG nm L n = (0,0,false)
 | [],_,_ => rfl
 | e :: L,n,h => by
  rw [ctorG,find_no (h e List.mem_cons_self)]
  exact ctorG_no (n + 1) fun e' he => h e' (List.mem_cons_of_mem _ he)
theorem ctorG_at {nm: ByteArray}: ∀ {L: List DEnum} {i k: Nat} {e: DEnum} (n: Nat),L[i]? = some e → e.Ctors[k]? = some nm → NoC L nm i k → ctorG nm L n = (((n + i: Nat): Int),(k: Int),true)
 | [],_,_,_,_,h,_,_ => by simp at h
 | e0 :: L,0,k,e,n,h,hk,hN => by
  simp at h
  subst h
  have hf: e0.Ctors.findIdx? (fun c => decide (c = nm)) = some k := by
   rw [List.findIdx?_eq_some_iff_getElem]
   obtain ⟨hlt,hv⟩ := List.getElem?_eq_some_iff.1 hk
   refine ⟨hlt,by simp [hv],fun j hj => ?_⟩
   have := hN.2 e0 rfl
   have hne: ¬ e0.Ctors[j] = nm := fun q => this (List.mem_take_iff_getElem.2 ⟨j,by omega,q⟩)
   simp [hne]
  rw [ctorG,hf]
  rfl
 | e0 :: L,i + 1,k,e,n,h,hk,hN => by
  rw [ctorG,find_no (hN.1 0 e0 (by omega) rfl)]
  have := ctorG_at (L := L) (i := i) (k := k) (e := e) (n + 1) (by simpa using h) hk ⟨fun i' e' hi he => hN.1 (i' + 1) e' (by omega) (by simpa using he),fun e' he => hN.2 e' (by simpa using he)⟩
  dsimp only
  rw [this]
  simp
  omega
theorem ctorG_is {L: List DEnum} {nm: ByteArray} {a b: Int} {ok: Bool} (h: CtorIs L nm a b ok): ctorG nm L 0 = (a,b,ok) := by
 rcases h with ⟨rfl,i,k,e,rfl,rfl,he,hc,hN⟩ | ⟨rfl,rfl,rfl,hno⟩
 ·
  rw [ctorG_at 0 he hc hN]; simp
 ·
  exact ctorG_no 0 hno
abbrev ctorA (p: Int × Int × Bool): AV := .tup [.i p.1,.i p.2.1,.b p.2.2]
theorem pure_ctorA (p: Int × Int × Bool): Go.Abs.Pure (ctorA p) := .tup _ (pure_cons (.raw _) (pure_cons (.raw _) (pure_cons (.raw _) pure_nil)))
theorem ctor153P (L: List DEnum) (nm: ByteArray): PCall Tryz.prog 210 [.lst 2 (L.map DEnum.enc) none,.s nm] (ctorA (ctorG nm L 0)) :=
 PCallE.one (ctor153 L nm) (by rintro r ⟨a,b,ok,rfl,h⟩; rw [ctorG_is h]) (pure_ctorA _)
theorem ctor128 (L: List DEnum) (nm: ByteArray): PCall Tryz.prog 102 [.lst 2 (L.map DEnum.enc) none,.s nm] (ctorA (ctorG nm L 0)) := by
 refine pcall_of_vc tabOK Tryz.func102 (by kernel_rfl) rfl pureL pureI (n := 37) rfl (rs := [.tmp 4,.tmp 5,.tmp 6]) rfl ?_
 simp only [go_sem]
 refine loop_frH [4,5,6,7,8,9,10,11,12,13,14,15,16,17,18,19,20,21,22,23,24,25,26,27,28,29,30,31,32,33,34,35,36] (fun m C => ∃ i: Nat,i ≤ L.length ∧ m = L.length - i ∧ NoC L nm i 0 ∧ C = [(7,.raw (.int .i64 (i: Nat)))]) L.length _ ⟨0,by omega,by omega,NoC.zero,rfl⟩ (.cons rfl .nil) ?_
 rintro m C jo ⟨i,hi,rfl,hN,rfl⟩
 simp only [go_sem]
 intro _
 refine brK_dec (fun hlt => ?_) (fun hge => ?_)
 ·
  have hlt': i < L.length := by omega
  obtain ⟨e,he⟩: ∃ e,L[i]? = some e := ⟨_,List.getElem?_eq_getElem hlt'⟩
  simp only [go_sem]
  refine loop_frH [4,5,6,8,15,16,17,18,19,20,21,22,23,24,25,26,27,28,29,30,31,32,33,34,35,36] (fun m C => ∃ k: Nat,k ≤ e.Ctors.length ∧ m = e.Ctors.length - k ∧ NoC L nm i k ∧ C = [(8,.raw (.int .i64 (k: Nat)))]) e.Ctors.length _ ⟨0,by omega,by omega,hN,rfl⟩ (.cons rfl .nil) ?_
  rintro m C ji ⟨k,hk,rfl,hNk,rfl⟩
  simp only [go_sem]
  refine elemHave (by omega) he ?_
  simp only [go_sem]
  intro _
  refine brK_dec (fun hlt2 => ?_) (fun hge2 => ?_)
  ·
   simp only [go_sem]
   refine elemHave (by omega) he ?_
   simp only [go_sem]
   refine elemMap (by omega) (by omega) (fun c hc => ?_)
   have hc': e.Ctors[k]? = some c := by simpa using hc
   simp only [go_sem]
   refine brK_dec (fun hq => ?_) (fun hq => ?_)
   ·
    simp only [go_sem]
    subst hq
    rw [ctorG_at 0 he hc' hNk]
    exact ⟨_,rfl,false,by rw [Nat.zero_add]; exact .refl _⟩
   ·
    simp only [go_sem]
    exact loopFrH _ (by omega) ⟨k + 1,by omega,rfl,hNk.next he hc' hq,rfl⟩ (.next rfl (by omega) .nil) rfl
  ·
   simp only [go_sem]
   have: k = e.Ctors.length := by omega
   subst this
   exact loopFrH _ (by omega) ⟨i + 1,by omega,rfl,hNk.row he,rfl⟩ (.next rfl (by omega) .nil) rfl
 ·
  simp only [go_sem]
  have: i = L.length := by omega
  subst this
  rw [ctorG_no 0 hN.none_]
  exact ⟨_,rfl,false,.refl _⟩
def armF (L: List DEnum) (nm: ByteArray): DTy × Int × Bool :=
 if nm = ⟨#[116,114,117,101]⟩ then (⟨2,0,0⟩,1,true) else if nm = ⟨#[102,97,108,115,101]⟩ then (⟨2,0,0⟩,0,true)
 else if (ctorG nm L 0).2.2 = true then (⟨3,(ctorG nm L 0).1,0⟩,(ctorG nm L 0).2.1,true) else (⟨0,0,0⟩,0,false)
def armOk (L: List DEnum) (s: ByteArray): Bool := (armF L s).2.2
abbrev armA (p: DTy × Int × Bool): AV := .tup [p.1.enc,.i p.2.1,.b p.2.2]
theorem pure_armA (p: DTy × Int × Bool): Go.Abs.Pure (armA p) := .tup _ (pure_cons (DTy.pure _) (pure_cons (.raw _) (pure_cons (.raw _) pure_nil)))
theorem armA_mk (a b c v: Int) (ok: Bool): armA (⟨a,b,c⟩,v,ok) = .tup [.agg [.i a,.i b,.i c],.i v,.b ok] := by
 show AV.tup [DTy.enc _,_,_] = _
 rw [DTy.enc_eq]
theorem arm146 (L: List DEnum) (nm: ByteArray): PCall Tryz.prog 164 [.lst 2 (L.map DEnum.enc) none,.s nm] (armA (armF L nm)) := by
 refine pcall_of_vc tabOK Tryz.func164 (by kernel_rfl) rfl (by first | exact pureL | exact pureI) (pure_armA _) (n := 30) rfl (rs := [.cell 4 42,.tmp 5,.tmp 6]) rfl ?_
 unfold armF
 simp only [go_sem]
 refine brK_dec (fun h1 => ?_) (fun h1 => ?_)
 ·
  simp only [go_sem]
  rw [if_pos h1,armA_mk]
  exact ⟨_,rfl,false,.refl _⟩
 ·
  rw [if_neg h1]
  simp only [go_sem]
  refine brK_dec (fun h2 => ?_) (fun h2 => ?_)
  ·
   simp only [go_sem]
   rw [if_pos h2,armA_mk]
   exact ⟨_,rfl,false,.refl _⟩
  ·
   rw [if_neg h2]
   simp only [go_sem]
   refine PCall.call (ctor153P _ _) ?_
   generalize ctorG nm L 0 = d
   obtain ⟨a,b,ok⟩ := d
   cases ok with
   | true =>
    simp only [go_sem]
    rw [if_pos trivial,armA_mk]
    exact ⟨_,rfl,false,.refl _⟩
   | false =>
    simp only [go_sem]
    rw [if_neg (by simp),armA_mk]
    exact ⟨_,rfl,false,.refl _⟩
theorem arm91 (L: List DEnum) (nm: ByteArray): PCall Tryz.prog 64 [.lst 2 (L.map DEnum.enc) none,.s nm] (armA (armF L nm)) := by
 refine pcall_of_vc tabOK Tryz.func64 (by kernel_rfl) rfl (by first | exact pureL | exact pureI) (pure_armA _) (n := 29) rfl (rs := [.cell 4 42,.tmp 5,.tmp 6]) rfl ?_
 unfold armF
 simp only [go_sem]
 refine brK_dec (fun h1 => ?_) (fun h1 => ?_)
 ·
  simp only [go_sem]
  rw [if_pos h1,armA_mk]
  exact ⟨_,rfl,false,.refl _⟩
 ·
  rw [if_neg h1]
  simp only [go_sem]
  refine brK_dec (fun h2 => ?_) (fun h2 => ?_)
  ·
   simp only [go_sem]
   rw [if_pos h2,armA_mk]
   exact ⟨_,rfl,false,.refl _⟩
  ·
   rw [if_neg h2]
   simp only [go_sem]
   refine PCall.call (ctor128 _ _) ?_
   generalize ctorG nm L 0 = d
   obtain ⟨a,b,ok⟩ := d
   cases ok with
   | true =>
    simp only [go_sem]
    rw [if_pos trivial,armA_mk]
    exact ⟨_,rfl,false,.refl _⟩
   | false =>
    simp only [go_sem]
    rw [if_neg (by simp),armA_mk]
    exact ⟨_,rfl,false,.refl _⟩
noncomputable def eqB {α: Type} (x y: α): Bool := @decide (x = y) (Classical.propDecidable _)
theorem eqB_eq {α: Type} {x y: α} (h: x = y): eqB x y = true := by unfold eqB; simp [h]
theorem eqB_ne {α: Type} {x y: α} (h: ¬ x = y): eqB x y = false := by unfold eqB; simp [h]
theorem eqB_t {α: Type} {x y: α} (h: eqB x y = true): x = y := by unfold eqB at h; simpa using h
theorem eqB_f {α: Type} {x y: α} (h: eqB x y = false): ¬ x = y := by unfold eqB at h; simpa using h
attribute [irreducible] eqB
theorem len_ne {α: Type} {l m: List α} (h: ¬ l.length = m.length): ¬ l = m := fun e => h (congrArg List.length e)
theorem at_ne' {α: Type} {l m: List α} {i: Nat} {x y: α} (hx: l[((i: Int)).toNat]? = some x) (hy: m[((i: Int)).toNat]? = some y) (h: ¬ x = y): ¬ l = m := by
 rintro rfl
 rw [hx] at hy
 exact h (Option.some.inj hy)
theorem at_ne {α: Type} {l m: List α} {i: Nat} {x y: α} (hx: l[((i: Int)).toNat]? = some x) (hy: m[((i: Int)).toNat]? = some y) (h: x ≠ y): ¬ l = m := at_ne' hx hy h
theorem take_eq_step' {α: Type} {l m: List α} {i: Nat} {x y: α} (hp: l.take i = m.take i) (hx: l[((i: Int)).toNat]? = some x) (hy: m[((i: Int)).toNat]? = some y) (h: x = y): l.take (i + 1) = m.take (i + 1) := by
 subst h
 rw [Int.toNat_natCast] at hx hy
 rw [List.take_add_one,List.take_add_one,hp,hx,hy]
theorem take_eq_step {α: Type} {l m: List α} {i: Nat} {x y: α} (hp: l.take i = m.take i) (hx: l[((i: Int)).toNat]? = some x) (hy: m[((i: Int)).toNat]? = some y) (h: ¬ x ≠ y): l.take (i + 1) = m.take (i + 1) := take_eq_step' hp hx hy (Classical.not_not.1 h)
theorem take_eq_full {α: Type} {l m: List α} {i: Nat} (h: l.length = m.length) (hp: l.take i = m.take i) (hi: l.length ≤ i): l = m := by
 rw [List.take_of_length_le hi,List.take_of_length_le (by omega)] at hp
 exact hp
theorem equalStr (l m: List ByteArray): PCall Tryz.prog 70 [.lst 1 (l.map (AV.s)) none,.lst 1 (m.map (AV.s)) none] (.b (eqB l m)) := by
 refine pcall_of_vc tabOK Tryz.func70 (by kernel_rfl) rfl pureL pureI (n := 26) rfl (rs := [.tmp 4]) rfl ?_
 repeat' first
  | exact finB rfl
  | exact finI rfl
  | exact finP rfl
  | exact absurd rfl (by assumption)
  | simp only [go_sem]
  | (intro _)
  | refine brK_dec (fun _ => ?_) (fun _ => ?_)
  | refine brK_any ?_ ?_
  | refine gK_dec (fun _ => ?_) (fun _ => ?_)
  | refine gK_any ?_ ?_
  | refine gqK_dec (fun _ => ?_) (fun _ => ?_)
  | refine ⟨by omega,?_⟩
  | refine elemHave (by omega) (by assumption) ?_
  | refine elemMap (by omega) (by omega) (fun x hx => ?_)
  | refine drawK mo (by kernel_rfl) ?_
  | (rw [eqB_ne (len_ne (l := l) (m := m) (by omega))]; exact ⟨_,rfl,false,.refl _⟩)
  | (rw [eqB_ne (at_ne (l := l) (m := m) (i := i) (by assumption) (by assumption) (by assumption))]; exact ⟨_,rfl,false,.refl _⟩)
  | (rw [eqB_eq (take_eq_full (l := l) (m := m) (i := i) (by omega) hpi (by omega))]; exact ⟨_,rfl,false,.refl _⟩)
  | exact loopFrH _ (by omega) ⟨i + 1,by omega,rfl,take_eq_step hpi (by assumption) (by assumption) (by assumption),rfl⟩ (.next rfl (by omega) .nil) rfl
  | (refine loop_frH [4,5,13,14,15,16,17,18,19,20,21,22,23,24,25] (fun mm_ CC_ => ∃ (i: Nat),i ≤ l.length ∧ mm_ = l.length - i ∧ (l.take i = m.take i) ∧ CC_ = [(13,.raw (.int .i64 ((i: Nat): Int)))]) (l.length) _ ⟨0,by omega,by omega,rfl,rfl⟩ (.cons rfl .nil) ?_; rintro mm_ CC_ ji ⟨i,hi,rfl,hpi,rfl⟩)
theorem namesStr (l m: List ByteArray): PCall Tryz.prog 19 [.lst 1 (l.map (AV.s)) none,.lst 1 (m.map (AV.s)) none] (.b (eqB l m)) := by
 refine pcall_of_vc tabOK Tryz.func19 (by kernel_rfl) rfl pureL pureI (n := 26) rfl (rs := [.tmp 4]) rfl ?_
 repeat' first
  | exact finB rfl
  | exact finI rfl
  | exact finP rfl
  | exact absurd rfl (by assumption)
  | simp only [go_sem]
  | (intro _)
  | refine brK_dec (fun _ => ?_) (fun _ => ?_)
  | refine brK_any ?_ ?_
  | refine gK_dec (fun _ => ?_) (fun _ => ?_)
  | refine gK_any ?_ ?_
  | refine gqK_dec (fun _ => ?_) (fun _ => ?_)
  | refine ⟨by omega,?_⟩
  | refine elemHave (by omega) (by assumption) ?_
  | refine elemMap (by omega) (by omega) (fun x hx => ?_)
  | refine drawK mo (by kernel_rfl) ?_
  | (rw [eqB_ne (len_ne (l := l) (m := m) (by omega))]; exact ⟨_,rfl,false,.refl _⟩)
  | (rw [eqB_ne (at_ne (l := l) (m := m) (i := i) (by assumption) (by assumption) (by assumption))]; exact ⟨_,rfl,false,.refl _⟩)
  | (rw [eqB_eq (take_eq_full (l := l) (m := m) (i := i) (by omega) hpi (by omega))]; exact ⟨_,rfl,false,.refl _⟩)
  | exact loopFrH _ (by omega) ⟨i + 1,by omega,rfl,take_eq_step hpi (by assumption) (by assumption) (by assumption),rfl⟩ (.next rfl (by omega) .nil) rfl
  | (refine loop_frH [4,5,11,12,13,14,15,16,17,18,19,20,21,22,23,24,25] (fun mm_ CC_ => ∃ (i: Nat),i ≤ l.length ∧ mm_ = l.length - i ∧ (l.take i = m.take i) ∧ CC_ = [(5,.raw (.int .i64 ((i: Nat): Int)))]) (l.length) _ ⟨0,by omega,by omega,rfl,rfl⟩ (.cons rfl .nil) ?_; rintro mm_ CC_ ji ⟨i,hi,rfl,hpi,rfl⟩)
theorem equalEnum (l m: List DEnum) {g: Nat} (hp: ∀ x ∈ l,∀ y ∈ m,PCall Tryz.prog g [DEnum.enc x,DEnum.enc y] (.b (eqB x y))): PCall Tryz.prog 39 [.lst 2 (l.map (DEnum.enc)) none,.lst 2 (m.map (DEnum.enc)) none,.fn (.func g) [] []] (.b (eqB l m)) := by
 refine pcall_of_vc tabOK Tryz.func39 (by kernel_rfl) rfl pureL pureI (n := 32) rfl (rs := [.tmp 6]) rfl ?_
 repeat' first
  | exact finB rfl
  | exact finI rfl
  | exact finP rfl
  | exact absurd rfl (by assumption)
  | simp only [go_sem]
  | (intro _)
  | refine brK_dec (fun _ => ?_) (fun _ => ?_)
  | refine brK_any ?_ ?_
  | refine gK_dec (fun _ => ?_) (fun _ => ?_)
  | refine gK_any ?_ ?_
  | refine gqK_dec (fun _ => ?_) (fun _ => ?_)
  | refine ⟨by omega,?_⟩
  | refine elemHave (by omega) (by assumption) ?_
  | refine elemMap (by omega) (by omega) (fun x hx => ?_)
  | refine drawK mo (by kernel_rfl) ?_
  | (rw [eqB_ne (len_ne (l := l) (m := m) (by omega))]; exact ⟨_,rfl,false,.refl _⟩)
  | (rw [eqB_ne (at_ne' (l := l) (m := m) (i := i) (by assumption) (by assumption) (by assumption))]; exact ⟨_,rfl,false,.refl _⟩)
  | (rw [eqB_eq (take_eq_full (l := l) (m := m) (i := i) (by omega) hpi (by omega))]; exact ⟨_,rfl,false,.refl _⟩)
  | (refine PCall.call (hp _ (List.mem_of_getElem? (by assumption)) _ (List.mem_of_getElem? (by assumption))) ?_; generalize he: eqB (α := DEnum) _ _ = b; cases b <;> first | replace he := eqB_t he | replace he := eqB_f he)
  | exact loopFrX _ (by omega) _ ⟨i + 1,by omega,rfl,take_eq_step' hpi (by assumption) (by assumption) (by assumption),rfl⟩ (.next rfl (by omega) .nil) rfl (by first | rfl | (simp only [List.append_assoc,List.cons_append,List.nil_append]; rfl))
  | (refine loop_frX [6,7,8,9,17,18,19,20,21,22,23,24,25,26,27,28,29,30,31] (fun mm_ CC_ => ∃ (i: Nat),i ≤ l.length ∧ mm_ = l.length - i ∧ (l.take i = m.take i) ∧ CC_ = [(17,.raw (.int .i64 ((i: Nat): Int)))]) (l.length) _ ⟨0,by omega,by omega,rfl,rfl⟩ (.cons rfl .nil) ?_; rintro mm_ CC_ ji ri ⟨i,hi,rfl,hpi,rfl⟩)
def rightTyF (n: Nat) (t: DTy): Bool := decide (1 ≤ t.Kind ∧ t.Kind ≤ 3 ∧ 0 ≤ t.Len ∧ t.Len ≤ 8 ∧ ((t.Kind = 3 ∧ 0 ≤ t.Enum ∧ t.Enum < n) ∨ (¬ t.Kind = 3 ∧ t.Enum = 0)))
def bareF (d: DDecl): Bool := decide (d.On = ⟨#[]⟩) && decide (d.Ctor = ⟨#[]⟩)
def declaredF (n: Nat) (d: DDecl): Bool := lowF d.Name && rightTyF n d.Ty && (bareF d || (lowF d.On && armE d.Ctor))
noncomputable def eqF (x: DEq): Bool := decide (0 < x.Names.length) && rightE x.E && (decide (x.Names.length ≤ 1) || decide (x.E.kind = 13)) && x.Names.all lowF
def bareN (x: DNode): Bool := (x.Ins ++ x.Outs).all fun d => decide (d.On = ⟨#[]⟩)
noncomputable def nodeF (n: Nat) (x: DNode): Bool := (allV x).all (declaredF n) && bareN x && x.Eqs.all eqF && (lowF x.Name && decide (0 < x.Outs.length))
def greatE (l: List DEnum): Bool := decide (l.length > 4) || l.any fun e => decide (e.Ctors.length > 6)
def rightEn (l: List DEnum): Bool := l.all (fun e => lowF e.Name && decide (0 < e.Ctors.length)) && (l.flatMap DEnum.Ctors).all highF
noncomputable def enumsF (l: List DEnum): Int := if greatE l = true then 4 else if rightEn l = true then (if (onceB (l.map DEnum.Name) && onceB (l.flatMap DEnum.Ctors)) = true then 0 else 6) else 1
def greatF (x: DNode): Bool := decide (x.Ins.length > 6) || decide (x.Outs.length > 6) || decide (x.Vars.length > 12) || decide (x.Eqs.length > 18)
noncomputable def onceN (x: DNode): Bool := onceB ((allV x).map DDecl.Name)
noncomputable def checkF (p: DProg): Int :=
 if ¬ enumsF p.Enums = 0 then enumsF p.Enums
 else if p.Nodes.length = 0 then 5
 else if (decide (p.Nodes.length > 6) || p.Nodes.any greatF) = true then 4
 else if p.Nodes.all (nodeF p.Enums.length) = true then (if (p.Nodes.all onceN && onceB (p.Nodes.map DNode.Name)) = true then 0 else 6) else 1
theorem all_next {α: Type} {l: List α} {i: Nat} {x: α} (f: α → Bool) (hx: l[i]? = some x): (l.take (i + 1)).all f = ((l.take i).all f && f x) := by
 obtain ⟨hi,rfl⟩ := List.getElem?_eq_some_iff.1 hx
 rw [List.take_succ_eq_append_getElem hi,List.all_append]
 simp
theorem all_nextZ {α: Type} {l: List α} {i: Nat} {x: α} (f: α → Bool) (hx: l[((i: Nat): Int).toNat]? = some x): (l.take (i + 1)).all f = ((l.take i).all f && f x) := all_next f (by simpa using hx)
theorem flatMap_next {α β: Type} {l: List α} {i: Nat} {x: α} (f: α → List β) (hx: l[i]? = some x): (l.take (i + 1)).flatMap f = (l.take i).flatMap f ++ f x := by
 obtain ⟨hi,rfl⟩ := List.getElem?_eq_some_iff.1 hx
 rw [List.take_succ_eq_append_getElem hi,List.flatMap_append]
 simp
theorem finIq {T: TypeId → TI} {t: Nat} {s: List AV} {h: List Blk} {a b: Int} (hs: s[t]? = some (.i a)) (he: a = b): Go.Abs.Fin T [.tmp t] (.i b) s h := he ▸ ⟨[.i a],by simp only [resAV,opd,List.getD_eq_getElem?_getD,hs]; rfl,false,.refl _⟩
theorem bare_at {x: DNode} {i: Nat} {d: DDecl} (h: (allV x)[i]? = some d) (hi: i < x.Ins.length + x.Outs.length): (x.Ins ++ x.Outs)[i]? = some d := by
 have e: allV x = (x.Ins ++ x.Outs) ++ x.Vars := by simp [allV]
 rw [e,List.getElem?_append_left (by simpa using hi)] at h
 exact h
theorem bare_next {x: DNode} {i: Nat} {d: DDecl} (h: ∀ d ∈ (x.Ins ++ x.Outs).take i,decide (d.On = ⟨#[]⟩) = true) (hx: (allV x)[((i: Nat): Int).toNat]? = some d) (hc: i < x.Ins.length + x.Outs.length → d.On = ⟨#[]⟩): ∀ d ∈ (x.Ins ++ x.Outs).take (i + 1),decide (d.On = ⟨#[]⟩) = true := by
 rw [Int.toNat_natCast] at hx
 by_cases hi: i < x.Ins.length + x.Outs.length
 ·
  exact take_all h (bare_at hx hi) (decide_eq_true (hc hi))
 ·
  rw [List.take_of_length_le (by simp; omega)] at h ⊢
  exact h
theorem bare_no {x: DNode} {i: Nat} {d: DDecl} (hx: (allV x)[((i: Nat): Int).toNat]? = some d) (hi: i < x.Ins.length + x.Outs.length) (hd: ¬ d.On = ⟨#[]⟩): bareN x = false := by
 rw [Int.toNat_natCast] at hx
 unfold bareN
 exact List.all_eq_false.2 ⟨d,List.mem_of_getElem? (bare_at hx hi),by simp [hd]⟩
theorem bare_yes {x: DNode} {i: Nat} (h: ∀ d ∈ (x.Ins ++ x.Outs).take i,decide (d.On = ⟨#[]⟩) = true) (hi: (allV x).length ≤ i): bareN x = true := by
 unfold bareN
 rw [List.take_of_length_le (by simp [allV] at hi; simp; omega)] at h
 exact List.all_eq_true.2 h
theorem node_no {n: Nat} {x: DNode} {i: Nat} {d: DDecl} (hx: (allV x)[((i: Nat): Int).toNat]? = some d) (hd: declaredF n d = false): nodeF n x = false := by
 unfold nodeF
 rw [List.all_eq_false.2 ⟨d,List.mem_of_getElem? hx,by simp [hd]⟩]
 rfl
theorem node_no2 {n: Nat} {x: DNode} (hd: bareN x = false): nodeF n x = false := by
 unfold nodeF
 simp [hd]
theorem node_no3 {n: Nat} {x: DNode} {i: Nat} {d: DEq} (hx: x.Eqs[((i: Nat): Int).toNat]? = some d) (hd: eqF d = false): nodeF n x = false := by
 unfold nodeF
 rw [List.all_eq_false.2 ⟨d,List.mem_of_getElem? hx,by simp [hd]⟩]
 simp
theorem node_yes {n: Nat} {x: DNode} {i j: Nat} (h1: ∀ d ∈ (allV x).take i,declaredF n d = true) (hi: (allV x).length ≤ i) (h2: bareN x = true) (h3: ∀ d ∈ x.Eqs.take j,eqF d = true) (hj: x.Eqs.length ≤ j): nodeF n x = (lowF x.Name && decide (0 < x.Outs.length)) := by
 unfold nodeF
 rw [List.all_eq_true.2 (take_full h1 hi),h2,List.all_eq_true.2 (take_full h3 hj)]
 simp
theorem en_arg1 {l: List DEnum} {i: Nat} {e: DEnum} (hg: greatE l = false) (hx: l[((i: Nat): Int).toNat]? = some e) (h: (lowF e.Name && decide (0 < e.Ctors.length)) = false): enumsF l = 1 := by
 unfold enumsF rightEn
 rw [hg,List.all_eq_false.2 ⟨e,List.mem_of_getElem? hx,by simp [h]⟩]
 simp
theorem en_arg2 {l: List DEnum} {i: Nat} {c: ByteArray} (hg: greatE l = false) (hx: (l.flatMap DEnum.Ctors)[((i: Nat): Int).toNat]? = some c) (h: highF c = false): enumsF l = 1 := by
 unfold enumsF rightEn
 rw [hg,List.all_eq_false.2 ⟨c,List.mem_of_getElem? hx,by simp [h]⟩]
 simp
theorem en_many {l: List DEnum} (hg: greatE l = true): enumsF l = 4 := by unfold enumsF; simp [hg]
theorem en_great1 {l: List DEnum} (h: l.length > 4): greatE l = true := by unfold greatE; simp [h]
theorem en_great2 {l: List DEnum} {i: Nat} {e: DEnum} (hx: l[((i: Nat): Int).toNat]? = some e) (h: e.Ctors.length > 6): greatE l = true := by
 unfold greatE
 rw [List.any_eq_true.2 ⟨e,List.mem_of_getElem? hx,decide_eq_true h⟩,Bool.or_true]
theorem en_small {l: List DEnum} {i: Nat} (h: ¬ l.length > 4) (h2: ∀ e ∈ l.take i,e.Ctors.length ≤ 6) (hi: l.length ≤ i): greatE l = false := by
 unfold greatE
 rw [decide_eq_false h,Bool.false_or,List.any_eq_false]
 intro e he
 have := take_full h2 hi e he
 simp; omega
theorem en_end {l: List DEnum} {i j: Nat} (hg: greatE l = false) (h1: ∀ e ∈ l.take i,(lowF e.Name && decide (0 < e.Ctors.length)) = true) (hi: l.length ≤ i) (h2: ∀ c ∈ (l.flatMap DEnum.Ctors).take j,highF c = true) (hj: (l.flatMap DEnum.Ctors).length ≤ j): enumsF l = if (onceB (l.map DEnum.Name) && onceB (l.flatMap DEnum.Ctors)) = true then 0 else 6 := by
 unfold enumsF rightEn
 rw [hg,List.all_eq_true.2 (take_full h1 hi),List.all_eq_true.2 (take_full h2 hj)]
 simp
def memB (s: ByteArray) (D: List ByteArray): Bool := D.any fun t => decide (t = s)
theorem memB_iff {s: ByteArray} {D: List ByteArray}: memB s D = true ↔ s ∈ D := by
 unfold memB
 rw [List.any_eq_true]
 exact ⟨fun ⟨t,h,e⟩ => of_decide_eq_true e ▸ h,fun h => ⟨s,h,by simp⟩⟩
def isF (n: DNode) (s: ByteArray): Bool := (decl n s).2
def inF (n: DNode) (s: ByteArray): Bool := n.Ins.any fun d => decide (d.Name = s)
def clockedF (L: List DEnum) (n: DNode) (d: DDecl): Bool := decide (d.On = ⟨#[]⟩) || (isF n d.On && armOk L d.Ctor)
def leadsF (p: DProg) (at_: Int) (n: DNode) (e: Ex): Bool := e.arms.all (armOk p.Enums) && (if e.kind = 3 ∨ e.kind = 11 ∨ e.kind = 12 then isF n e.name else if e.kind = 4 then armOk p.Enums e.name else if e.kind = 13 then decide (0 ≤ findF p e.name ∧ findF p e.name < at_) else decide (¬ e.kind = 17))
def namesErr (n: DNode): List ByteArray → List ByteArray → Int
 | _,[] => 0
 | D,s :: r => if isF n s = false then 5 else if (inF n s || memB s D) = true then 6 else namesErr n (D ++ [s]) r
def eqErr (p: DProg) (at_: Int) (n: DNode) (D: List ByteArray) (q: DEq): Int :=
 if namesErr n D q.Names = 0 then (if (parts q.E).all (leadsF p at_ n) = true then 0 else 5) else namesErr n D q.Names
def eqsErr (p: DProg) (at_: Int) (n: DNode): Nat → List ByteArray → List DEq → Int × Int
 | _,_,[] => (-1,0)
 | i,D,q :: r => if eqErr p at_ n D q = 0 then eqsErr p at_ n (i + 1) (D ++ q.Names) r else ((i: Int),eqErr p at_ n D q)
def allDef (n: DNode): Bool := (n.Outs ++ n.Vars).all fun d => memB d.Name (n.Eqs.flatMap DEq.Names)
def nodeFault (p: DProg) (at_: Int) (n: DNode): DFault :=
 if (allV n).all (clockedF p.Enums n) = true then
  (if (eqsErr p at_ n 0 [] n.Eqs).2 = 0 then (if allDef n = true then ⟨0,0,0⟩ else ⟨at_,-1,5⟩) else ⟨at_,(eqsErr p at_ n 0 [] n.Eqs).1,(eqsErr p at_ n 0 [] n.Eqs).2⟩)
 else ⟨at_,-1,5⟩
def nodesFault (p: DProg): Nat → List DNode → DFault
 | _,[] => ⟨0,0,0⟩
 | i,n :: r => if (nodeFault p (i: Int) n).Err = 0 then nodesFault p (i + 1) r else nodeFault p (i: Int) n
noncomputable def scopeF (p: DProg): DFault := if checkF p = 0 then nodesFault p 0 p.Nodes else ⟨0,-1,checkF p⟩
theorem namesErr_vals (n: DNode): ∀ (l D: List ByteArray),namesErr n D l = 0 ∨ namesErr n D l = 5 ∨ namesErr n D l = 6
 | [],_ => .inl rfl
 | s :: r,D => by
  rw [namesErr]
  split
  ·
   exact .inr (.inl rfl)
  ·
   split
   ·
    exact .inr (.inr rfl)
   ·
    exact namesErr_vals n r _
theorem eqErr_vals (p: DProg) (a: Int) (n: DNode) (D: List ByteArray) (q: DEq): eqErr p a n D q = 0 ∨ eqErr p a n D q = 5 ∨ eqErr p a n D q = 6 := by
 unfold eqErr
 split
 ·
  split
  ·
   exact .inl rfl
  ·
   exact .inr (.inl rfl)
 ·
  exact namesErr_vals n _ _
theorem nodeFault_zero {p: DProg} {a: Int} {n: DNode} (h: (nodeFault p a n).Err = 0): nodeFault p a n = ⟨0,0,0⟩ := by
 unfold nodeFault at *
 by_cases h1: (allV n).all (clockedF p.Enums n) = true
 ·
  rw [if_pos h1] at *
  by_cases h2: (eqsErr p a n 0 [] n.Eqs).2 = 0
  ·
   rw [if_pos h2] at *
   by_cases h3: allDef n = true
   ·
    rw [if_pos h3]
   ·
    rw [if_neg h3] at h; simp at h
  ·
   rw [if_neg h2] at h; exact absurd h h2
 ·
  rw [if_neg h1] at h; simp at h
theorem names_next {n: DNode} {D l: List ByteArray} {i: Nat} {x: ByteArray} {E: Int} (hE: namesErr n (D ++ l.take i) (l.drop i) = E) (hx: l[((i: Nat): Int).toNat]? = some x) (h1: isF n x = true) (h2: inF n x = false) (h3: x ∉ D ++ l.take i): namesErr n (D ++ l.take (i + 1)) (l.drop (i + 1)) = E := by
 rw [Int.toNat_natCast] at hx
 obtain ⟨hi,rfl⟩ := List.getElem?_eq_some_iff.1 hx
 rw [List.drop_eq_getElem_cons hi,namesErr,h1,h2,if_neg (by simp),if_neg (by rw [Bool.false_or,memB_iff]; exact h3)] at hE
 rw [List.take_succ_eq_append_getElem hi,← List.append_assoc]
 exact hE
theorem names_5 {n: DNode} {D l: List ByteArray} {i: Nat} {x: ByteArray} {E: Int} (hE: namesErr n (D ++ l.take i) (l.drop i) = E) (hx: l[((i: Nat): Int).toNat]? = some x) (h1: isF n x = false): E = 5 := by
 rw [Int.toNat_natCast] at hx
 obtain ⟨hi,rfl⟩ := List.getElem?_eq_some_iff.1 hx
 rw [List.drop_eq_getElem_cons hi,namesErr,h1,if_pos rfl] at hE
 exact hE.symm
theorem names_6 {n: DNode} {D l: List ByteArray} {i: Nat} {x: ByteArray} {E: Int} (hE: namesErr n (D ++ l.take i) (l.drop i) = E) (hx: l[((i: Nat): Int).toNat]? = some x) (h1: isF n x = true) (h2: inF n x = true ∨ x ∈ D ++ l.take i): E = 6 := by
 rw [Int.toNat_natCast] at hx
 obtain ⟨hi,rfl⟩ := List.getElem?_eq_some_iff.1 hx
 rw [List.drop_eq_getElem_cons hi,namesErr,h1,if_neg (by simp),if_pos (by rcases h2 with h2 | h2; (rw [h2]; rfl); (rw [memB_iff.2 h2,Bool.or_true]))] at hE
 exact hE.symm
theorem names_0 {n: DNode} {D l: List ByteArray} {i: Nat} {E: Int} (hE: namesErr n (D ++ l.take i) (l.drop i) = E) (hi: l.length ≤ i): E = 0 := by
 rw [List.drop_of_length_le hi,namesErr] at hE
 exact hE.symm
theorem eqs_next {p: DProg} {a: Int} {n: DNode} {l: List DEq} {i: Nat} {q: DEq} {E: Int × Int} (hE: eqsErr p a n i ((l.take i).flatMap DEq.Names) (l.drop i) = E) (hx: l[((i: Nat): Int).toNat]? = some q) (h: eqErr p a n ((l.take i).flatMap DEq.Names) q = 0): eqsErr p a n (i + 1) ((l.take (i + 1)).flatMap DEq.Names) (l.drop (i + 1)) = E := by
 rw [Int.toNat_natCast] at hx
 rw [flatMap_next _ hx]
 obtain ⟨hi,rfl⟩ := List.getElem?_eq_some_iff.1 hx
 rw [List.drop_eq_getElem_cons hi,eqsErr,if_pos h] at hE
 exact hE
theorem eqs_at {p: DProg} {a: Int} {n: DNode} {l: List DEq} {i: Nat} {q: DEq} {E: Int × Int} (hE: eqsErr p a n i ((l.take i).flatMap DEq.Names) (l.drop i) = E) (hx: l[((i: Nat): Int).toNat]? = some q) (h: ¬ eqErr p a n ((l.take i).flatMap DEq.Names) q = 0): E = ((i: Int),eqErr p a n ((l.take i).flatMap DEq.Names) q) := by
 rw [Int.toNat_natCast] at hx
 obtain ⟨hi,rfl⟩ := List.getElem?_eq_some_iff.1 hx
 rw [List.drop_eq_getElem_cons hi,eqsErr,if_neg h] at hE
 exact hE.symm
theorem eqs_0 {p: DProg} {a: Int} {n: DNode} {l: List DEq} {i: Nat} {E: Int × Int} (hE: eqsErr p a n i ((l.take i).flatMap DEq.Names) (l.drop i) = E) (hi: l.length ≤ i): E = (-1,0) := by
 rw [List.drop_of_length_le hi,eqsErr] at hE
 exact hE.symm
theorem nodes_next {p: DProg} {l: List DNode} {i: Nat} {n: DNode} {E: DFault} (hE: nodesFault p i (l.drop i) = E) (hx: l[((i: Nat): Int).toNat]? = some n) (h: (nodeFault p (i: Int) n).Err = 0): nodesFault p (i + 1) (l.drop (i + 1)) = E := by
 rw [Int.toNat_natCast] at hx
 obtain ⟨hi,rfl⟩ := List.getElem?_eq_some_iff.1 hx
 rw [List.drop_eq_getElem_cons hi,nodesFault,if_pos h] at hE
 exact hE
theorem nodes_at {p: DProg} {l: List DNode} {i: Nat} {n: DNode} {E: DFault} (hE: nodesFault p i (l.drop i) = E) (hx: l[((i: Nat): Int).toNat]? = some n) (h: ¬ (nodeFault p (i: Int) n).Err = 0): E = nodeFault p (i: Int) n := by
 rw [Int.toNat_natCast] at hx
 obtain ⟨hi,rfl⟩ := List.getElem?_eq_some_iff.1 hx
 rw [List.drop_eq_getElem_cons hi,nodesFault,if_neg h] at hE
 exact hE.symm
theorem nodes_0 {p: DProg} {l: List DNode} {i: Nat} {E: DFault} (hE: nodesFault p i (l.drop i) = E) (hi: l.length ≤ i): E = ⟨0,0,0⟩ := by
 rw [List.drop_of_length_le hi,nodesFault] at hE
 exact hE.symm
def knF (n: DNode) (D: List ByteArray) (s: ByteArray): Nat := if inF n s = true then 1 else if (n.Outs ++ n.Vars).any (fun d => decide (d.Name = s)) = true then (if memB s D = true then 3 else 2) else 0
theorem declF_any (s: ByteArray): ∀ l: List DDecl,(declF s l).2 = l.any fun d => decide (d.Name = s)
 | [] => rfl
 | d :: l => by
  rw [declF]
  by_cases h: d.Name = s
  ·
   simp [h]
  ·
   rw [if_neg h,declF_any s l]; simp [h]
theorem isF_eq (n: DNode) (s: ByteArray): isF n s = (inF n s || (n.Outs ++ n.Vars).any (fun d => decide (d.Name = s))) := by
 unfold isF decl inF
 rw [declF_any]
 simp [allV]
theorem kn_is (n: DNode) (D: List ByteArray) (s: ByteArray): decide (0 < knF n D s) = isF n s := by
 rw [isF_eq]
 unfold knF
 cases inF n s
 ·
  cases (n.Outs ++ n.Vars).any (fun d => decide (d.Name = s))
  ·
   simp
  ·
   cases memB s D <;> simp
 ·
  simp
theorem kn_free {n: DNode} {D: List ByteArray} {s: ByteArray} (h: isF n s = true): (knF n D s = 2) ↔ ¬ (inF n s = true ∨ s ∈ D) := by
 rw [isF_eq] at h
 rw [← memB_iff]
 unfold knF
 cases hi: inF n s
 ·
  rw [hi] at h
  simp only [Bool.false_or] at h
  rw [h]
  cases memB s D <;> simp
 ·
  simp
theorem kn_put {n: DNode} {D: List ByteArray} {s: ByteArray} (h: knF n D s = 2): knF n (D ++ [s]) s = 3 ∧ ∀ t,¬ t = s → knF n (D ++ [s]) t = knF n D t := by
 unfold knF at *
 split at h
 ·
  omega
 ·
  rename_i h1
  split at h
  ·
   rename_i h2
   refine ⟨by rw [if_neg h1,if_pos h2,if_pos (memB_iff.2 (by simp))],fun t ht => ?_⟩
   have: memB t (D ++ [s]) = memB t D := by
    rw [Bool.eq_iff_iff,memB_iff,memB_iff]
    simp [ht]
   rw [this]
  ·
   omega
theorem kn_done {n: DNode} {D: List ByteArray} {d: DDecl} (hd: d ∈ n.Outs ++ n.Vars) (hD: ∀ s ∈ D,inF n s = false): (knF n D d.Name = 3) ↔ memB d.Name D = true := by
 unfold knF
 have h2: (n.Outs ++ n.Vars).any (fun e => decide (e.Name = d.Name)) = true := List.any_eq_true.2 ⟨d,hd,by simp⟩
 rw [h2]
 cases q: memB d.Name D
 ·
  simp; split <;> omega
 ·
  rw [hD _ (memB_iff.1 q)]; simp
theorem namesErr_in {n: DNode}: ∀ {l D: List ByteArray},namesErr n D l = 0 → ∀ s ∈ l,inF n s = false
 | [],_,_ => by simp
 | x :: r,D,h => by
  rw [namesErr] at h
  split at h
  ·
   omega
  ·
   split at h
   ·
    omega
   ·
    rename_i h1 h2
    intro s hs
    rcases List.mem_cons.1 hs with rfl | hs
    ·
     cases hq: inF n s
     ·
      rfl
     ·
      simp [hq] at h2
    ·
     exact namesErr_in h s hs
abbrev ty0: DTy := ⟨0,0,0⟩
abbrev tyI: DTy := ⟨1,0,0⟩
abbrev tyB: DTy := ⟨2,0,0⟩
theorem ty000: (AV.agg [.raw (.int .i64 0),.raw (.int .i64 0),.raw (.int .i64 0)]) = (⟨0,0,0⟩: DTy).enc := by rw [DTy.enc_eq]
theorem ty100: (AV.agg [.raw (.int .i64 1),.raw (.int .i64 0),.raw (.int .i64 0)]) = (⟨1,0,0⟩: DTy).enc := by rw [DTy.enc_eq]
theorem ty200: (AV.agg [.raw (.int .i64 2),.raw (.int .i64 0),.raw (.int .i64 0)]) = (⟨2,0,0⟩: DTy).enc := by rw [DTy.enc_eq]
abbrev tyA (q: DTy × Bool): AV := .tup [q.1.enc,.b q.2]
theorem pure_tyA (q: DTy × Bool): Go.Abs.Pure (tyA q) := .tup _ (pure_cons (DTy.pure _) (pure_cons (.raw _) pure_nil))
theorem finTy {T: TypeId → TI} {rs: List ResultVar} {s: List AV} {h: List Blk} {q: DTy × Bool} {a b c: Int} {ok: Bool} (hr: resAV T s h rs = some [.agg [.i a,.i b,.i c],.b ok]) (hp: q = (⟨a,b,c⟩,ok)): Go.Abs.Fin T rs (tyA q) s h := by
 subst hp
 exact ⟨_,hr,false,by rw [show tyA (⟨a,b,c⟩,ok) = .tup [.agg [.i a,.i b,.i c],.b ok] by show AV.tup [DTy.enc _,_] = _; rw [DTy.enc_eq]]; exact .refl _⟩
def unT (op: Int) (t: DTy): DTy × Bool := if op = 1 ∧ t = tyI then (tyI,true) else if op = 2 ∧ t = tyB then (tyB,true) else (ty0,false)
def binT (op: Int) (t u: DTy): DTy × Bool :=
 if 3 ≤ op ∧ op ≤ 7 ∧ t = tyI ∧ u = tyI then (tyI,true)
 else if (8 ≤ op ∧ op ≤ 10 ∧ t = tyB ∧ u = tyB) ∨ (13 ≤ op ∧ op ≤ 16 ∧ t = tyI ∧ u = tyI) ∨ ((op = 11 ∨ op = 12) ∧ t = u ∧ t.Len = 0) then (tyB,true) else (ty0,false)
def groupF (op: Int): Int := if 3 ≤ op ∧ op ≤ 7 then 1 else if 8 ≤ op ∧ op ≤ 10 then 2 else if op = 11 ∨ op = 12 then 4 else if 13 ≤ op ∧ op ≤ 16 then 3 else 0
def sameT (l: List DTy): Bool := l.all fun t => decide (t = l.headD ty0)
theorem small14 (c: Int): PCall Tryz.prog 300 [.raw (.int .i32 c)] (.b (inB 97 122 c)) := by
 refine pcall_of_vc tabOK Tryz.func300 (by kernel_rfl) rfl pureL pureI (n := 9) rfl (rs := [.tmp 2]) rfl ?_
 repeat' first
  | exact finB rfl
  | exact finI rfl
  | exact finP rfl
  | exact absurd rfl (by assumption)
  | simp only [go_sem]
  | (intro _)
  | refine brK_dec (fun _ => ?_) (fun _ => ?_)
  | refine brK_any ?_ ?_
  | refine gK_dec (fun _ => ?_) (fun _ => ?_)
  | refine gK_any ?_ ?_
  | refine gqK_dec (fun _ => ?_) (fun _ => ?_)
  | refine ⟨by omega,?_⟩
  | refine elemHave (by omega) (by assumption) ?_
  | refine elemMap (by omega) (by omega) (fun x hx => ?_)
  | refine drawK mo (by kernel_rfl) ?_
  | (refine finBq rfl ?_; unfold inB; simp; omega)
theorem great16 (c: Int): PCall Tryz.prog 302 [.raw (.int .i32 c)] (.b (inB 65 90 c)) := by
 refine pcall_of_vc tabOK Tryz.func302 (by kernel_rfl) rfl pureL pureI (n := 9) rfl (rs := [.tmp 2]) rfl ?_
 repeat' first
  | exact finB rfl
  | exact finI rfl
  | exact finP rfl
  | exact absurd rfl (by assumption)
  | simp only [go_sem]
  | (intro _)
  | refine brK_dec (fun _ => ?_) (fun _ => ?_)
  | refine brK_any ?_ ?_
  | refine gK_dec (fun _ => ?_) (fun _ => ?_)
  | refine gK_any ?_ ?_
  | refine gqK_dec (fun _ => ?_) (fun _ => ?_)
  | refine ⟨by omega,?_⟩
  | refine elemHave (by omega) (by assumption) ?_
  | refine elemMap (by omega) (by omega) (fun x hx => ?_)
  | refine drawK mo (by kernel_rfl) ?_
  | (refine finBq rfl ?_; unfold inB; simp; omega)
theorem digit20 (c: Int): PCall Tryz.prog 321 [.raw (.int .i32 c)] (.b (inB 48 57 c)) := by
 refine pcall_of_vc tabOK Tryz.func321 (by kernel_rfl) rfl pureL pureI (n := 9) rfl (rs := [.tmp 2]) rfl ?_
 repeat' first
  | exact finB rfl
  | exact finI rfl
  | exact finP rfl
  | exact absurd rfl (by assumption)
  | simp only [go_sem]
  | (intro _)
  | refine brK_dec (fun _ => ?_) (fun _ => ?_)
  | refine brK_any ?_ ?_
  | refine gK_dec (fun _ => ?_) (fun _ => ?_)
  | refine gK_any ?_ ?_
  | refine gqK_dec (fun _ => ?_) (fun _ => ?_)
  | refine ⟨by omega,?_⟩
  | refine elemHave (by omega) (by assumption) ?_
  | refine elemMap (by omega) (by omega) (fun x hx => ?_)
  | refine drawK mo (by kernel_rfl) ?_
  | (refine finBq rfl ?_; unfold inB; simp; omega)
theorem inB_hi {a b c: Int} (hb: b < 128) (hc: 128 ≤ c): inB a b c = false := by unfold inB; simp; omega
theorem nameG_all {F: Int → Bool} {t: ByteArray} (h: (bts t).all (fun c => okB c.toNat) = false): nameG F t = false := by unfold nameG; rw [h]; simp
theorem nameG_first {F: Int → Bool} {t: ByteArray} (h: firstB F (bts t) = false): nameG F t = false := by unfold nameG; rw [h]; simp
theorem firstB_at {F: Int → Bool} {t: ByteArray} {p: Nat} {c: UInt8} (hc: (bts t)[p]? = some c) (hp: (p: Int) = 0): firstB F (bts t) = F c.toNat := by
 have: p = 0 := by omega
 subst this
 obtain ⟨l,hl⟩ := bts_cons hc
 rw [hl]; rfl
theorem okB_hi {c: Nat} (h: ¬ c < 128): okB c = false := by unfold okB inB; simp; omega
theorem name13 (t: ByteArray) (g: Nat) (F: Int → Bool) (hg: ∀ c: Int,PCall Tryz.prog g [.raw (.int .i32 c)] (.b (F c))): PCall Tryz.prog 299 [.s t,.fn (.func g) [] []] (.b (nameG F t)) := by
 refine pcall_of_vc tabOK Tryz.func299 (by kernel_rfl) rfl (pure_cons (.raw _) (pure_cons (.fn _ _ _ pure_nil pure_nil) pure_nil)) (.raw _) (n := 48) rfl (rs := [.tmp 4]) rfl ?_
 simp only [go_sem]
 refine loop_fr [4,5,6,9,10,11,12,13,14,15,16,17,18,19,20,21,22,23,24,25,26,27,28,29,30,31,32,33,34,35,36,37,38,39] (fun m C hh => ∃ p: Nat,p ≤ t.size ∧ m = t.size - p ∧ (∀ c ∈ (bts t).take p,okB c.toNat = true) ∧ (0 < p → firstB F (bts t) = true) ∧ C = [] ∧ hh = [.it t p]) t.size _ ⟨0,by omega,by omega,by simp,by omega,rfl,rfl⟩ .nil ?_
 rintro m C j hh ⟨p,hp,rfl,hpi,hf,rfl,rfl⟩
 rcases Nat.lt_or_ge p t.size with hlt | hge
 ·
  obtain ⟨c,hcc⟩ := bts_at hlt
  have hd: decide (p < t.size) = true := decide_eq_true hlt
  by_cases hlo: c.toNat < 128
  ·
   simp only [go_sem,hd,decode_lo hcc hlo]
   repeat' first
    | (exfalso; omega)
    | simp only [go_sem]
    | refine brK_dec (fun _ => ?_) (fun _ => ?_)
    | refine gK_dec (fun _ => ?_) (fun _ => ?_)
    | (refine PCall.call (hg _) ?_; generalize hF: F (c.toNat: Nat) = q; cases q)
    | (refine PCall.call (small14 _) ?_; generalize hs: inB 97 122 (c.toNat: Nat) = q; cases q)
    | (refine PCall.call (great16 _) ?_; generalize hgr: inB 65 90 (c.toNat: Nat) = q; cases q)
    | (refine PCall.call (digit20 _) ?_; generalize hdi: inB 48 57 (c.toNat: Nat) = q; cases q)
    | (refine finBq rfl ?_; first
      | (have hp0: (p: Int) = 0 := (by assumption); have hno: firstB F (bts t) = false := (by rw [firstB_at hcc hp0]; assumption); rw [nameG_first hno])
      | (have hno: okB c.toNat = false := (by simp [okB,*]; done); rw [nameG_all (all_no (p := fun c => okB c.toNat) hcc hno)]))
    | exact loopFr _ (by omega) ⟨p + 1,by omega,rfl,take_all hpi hcc (by simp [okB,*] <;> omega),fun _ => by first | exact hf (by omega) | (rw [firstB_at hcc (by assumption)]; assumption),rfl,rfl⟩ .nil rfl
  ·
   have hhi := decode_hi hcc (by omega)
   simp only [go_sem,hd]
   generalize Utf8.decode t p = r at hhi ⊢
   obtain ⟨r,wd⟩ := r
   dsimp only at hhi
   have h1: inB 97 122 (r: Int) = false := inB_hi (by omega) (by omega)
   have h2: inB 65 90 (r: Int) = false := inB_hi (by omega) (by omega)
   have h3: inB 48 57 (r: Int) = false := inB_hi (by omega) (by omega)
   repeat' first
    | (exfalso; omega)
    | simp only [go_sem]
    | refine brK_dec (fun _ => ?_) (fun _ => ?_)
    | refine gK_dec (fun _ => ?_) (fun _ => ?_)
    | (refine PCall.call (hg _) ?_; generalize hF: F (r: Nat) = q; cases q)
    | (refine PCall.call (small14 _) ?_; rw [h1])
    | (refine PCall.call (great16 _) ?_; rw [h2])
    | (refine PCall.call (digit20 _) ?_; rw [h3])
    | (refine finBq rfl ?_; rw [nameG_all (all_no (p := fun c => okB c.toNat) hcc (okB_hi hlo))])
 ·
  have hd: decide (p < t.size) = false := decide_eq_false (by omega)
  simp only [go_sem,hd]
  have hall := all_yes (p := fun c => okB c.toNat) hpi hge
  repeat' first
   | (exfalso; omega)
   | simp only [go_sem]
   | refine brK_dec (fun _ => ?_) (fun _ => ?_)
   | refine gK_dec (fun _ => ?_) (fun _ => ?_)
   | (refine finBq rfl ?_; unfold nameG; rw [hall]; first | (have h0: 0 < p := (by omega); have h1: 1 ≤ t.size := (by omega); rw [hf h0,decide_eq_true h1]; by_cases q: t.size ≤ 12 <;> simp [q] <;> omega) | (have h1: ¬ 1 ≤ t.size := (by omega); simp [h1]; done))
theorem word10 (t: ByteArray): PCall Tryz.prog 301 [.s t] (.b (wordF t)) := by
 refine pcall_of_vc tabOK Tryz.func301 (by kernel_rfl) rfl pureL pureI (n := 30) rfl (rs := [.tmp 2]) rfl ?_
 unfold wordF words
 repeat' first
  | exact finB rfl
  | exact finI rfl
  | exact finP rfl
  | exact absurd rfl (by assumption)
  | simp only [go_sem]
  | (intro _)
  | refine brK_dec (fun _ => ?_) (fun _ => ?_)
  | refine brK_any ?_ ?_
  | refine gK_dec (fun _ => ?_) (fun _ => ?_)
  | refine gK_any ?_ ?_
  | refine gqK_dec (fun _ => ?_) (fun _ => ?_)
  | refine ⟨by omega,?_⟩
  | refine elemHave (by omega) (by assumption) ?_
  | refine elemMap (by omega) (by omega) (fun x hx => ?_)
  | refine drawK mo (by kernel_rfl) ?_
  | (refine finBq rfl ?_; simp [*]; done)
theorem low6 (t: ByteArray): PCall Tryz.prog 264 [.s t] (.b (lowF t)) := by
 refine pcall_of_vc tabOK Tryz.func264 (by kernel_rfl) rfl pureL pureI (n := 10) rfl (rs := [.tmp 2]) rfl ?_
 unfold lowF
 repeat' first
  | exact finB rfl
  | exact finI rfl
  | exact finP rfl
  | exact absurd rfl (by assumption)
  | simp only [go_sem]
  | (intro _)
  | refine brK_dec (fun _ => ?_) (fun _ => ?_)
  | refine brK_any ?_ ?_
  | refine gK_dec (fun _ => ?_) (fun _ => ?_)
  | refine gK_any ?_ ?_
  | refine gqK_dec (fun _ => ?_) (fun _ => ?_)
  | refine ⟨by omega,?_⟩
  | refine elemHave (by omega) (by assumption) ?_
  | refine elemMap (by omega) (by omega) (fun x hx => ?_)
  | refine drawK mo (by kernel_rfl) ?_
  | (refine PCall.call (name13 _ _ _ small14) ?_; generalize nameG (inB 97 122) t = q; cases q)
  | (refine PCall.call (word10 _) ?_)
  | (exact finBq rfl (by simp))
theorem high8 (t: ByteArray): PCall Tryz.prog 265 [.s t] (.b (highF t)) := by
 refine pcall_of_vc tabOK Tryz.func265 (by kernel_rfl) rfl pureL pureI (n := 5) rfl (rs := [.tmp 2]) rfl ?_
 unfold highF
 repeat' first
  | exact finB rfl
  | exact finI rfl
  | exact finP rfl
  | exact absurd rfl (by assumption)
  | simp only [go_sem]
  | (intro _)
  | refine brK_dec (fun _ => ?_) (fun _ => ?_)
  | refine brK_any ?_ ?_
  | refine gK_dec (fun _ => ?_) (fun _ => ?_)
  | refine gK_any ?_ ?_
  | refine gqK_dec (fun _ => ?_) (fun _ => ?_)
  | refine ⟨by omega,?_⟩
  | refine elemHave (by omega) (by assumption) ?_
  | refine elemMap (by omega) (by omega) (fun x hx => ?_)
  | refine drawK mo (by kernel_rfl) ?_
  | (refine PCall.call (name13 _ _ _ great16) ?_)
  | (exact finBq rfl (by simp))
def layS_ren: Go.Shelf.Ren := ⟨fun | 217 => 338 | 266 => 342 | 138 => 330 | 143 => 331 | 195 => 333 | 218 => 335 | 219 => 336 | 224 => 340 | 225 => 339 | 267 => 341 | 314 => 343 | n => n,
 fun | 3 => 3 | 4 => 4 | 5 => 5 | 9 => 9 | 46 => 279 | 51 => 277 | 0 => 0 | 146 => 331 | n => n,fun | 1 => 3 | n => n⟩
theorem layS_g1 : Tryz.prog.globals.findIdx? (·.name == "internal/bytealg.MaxLen") = some 3 := by kernel_rfl
theorem layS: Go.Proofs.Lays.n138 Tryz.prog layS_ren := {
 mixed := by kernel_rfl
 f138 := Tryz.func330.trans (congrArg some (by kernel_rfl))
 f143 := Tryz.func331.trans (congrArg some (by kernel_rfl))
 f195 := Tryz.func333.trans (congrArg some (by kernel_rfl))
 f217 := Tryz.func338.trans (congrArg some (by kernel_rfl))
 f218 := Tryz.func335.trans (congrArg some (by kernel_rfl))
 f219 := Tryz.func336.trans (congrArg some (by kernel_rfl))
 f224 := Tryz.func340.trans (congrArg some (by kernel_rfl))
 f225 := Tryz.func339.trans (congrArg some (by kernel_rfl))
 f266 := Tryz.func342.trans (congrArg some (by kernel_rfl))
 f267 := Tryz.func341.trans (congrArg some (by kernel_rfl))
 f314 := Tryz.func343.trans (congrArg some (by kernel_rfl))
 t0 := Tryz.underlying0
 a0 := Tryz.isAgg0
 z0 := Tryz.sizeOf0
 v0 := Tryz.zeroValue0
 t3 := Tryz.underlying3
 a3 := Tryz.isAgg3
 z3 := Tryz.sizeOf3
 v3 := Tryz.zeroValue3
 t4 := Tryz.underlying4
 a4 := Tryz.isAgg4
 z4 := Tryz.sizeOf4
 v4 := Tryz.zeroValue4
 t5 := Tryz.underlying5
 a5 := Tryz.isAgg5
 z5 := Tryz.sizeOf5
 v5 := Tryz.zeroValue5
 t9 := Tryz.underlying9
 a9 := Tryz.isAgg9
 z9 := Tryz.sizeOf9
 v9 := Tryz.zeroValue9
 t46 := Tryz.underlying279
 a46 := Tryz.isAgg279
 z46 := Tryz.sizeOf279
 v46 := Tryz.zeroValue279
 t51 := Tryz.underlying277
 a51 := Tryz.isAgg277
 z51 := Tryz.sizeOf277
 v51 := Tryz.zeroValue277
 t146 := Tryz.underlying331
 a146 := Tryz.isAgg331
 z146 := Tryz.sizeOf331
 v146 := Tryz.zeroValue331
 g1 := layS_g1 }
theorem moL: Tryz.prog.follows .mixedOrders = true := by kernel_rfl
theorem idxByte34 (t: ByteArray) (c: UInt8): PCall Tryz.prog 338 [.s t,.raw (.int .u8 c.toNat)] (.i (Lib.indexByte (bts t) c)) :=
 pcall_raw (vals := [.string t,.int .u8 c.toNat]) (fun vs w => run_callFunc Tryz.func338 (by kernel_rfl) rfl vs w) fun w => by
  have := Go.Proofs.Any.stringslite_IndexByte (ρ := layS_ren) { layS with } t (c.toNat: Nat) w
  rw [show ((c.toNat: Nat): Int).toNat.toUInt8 = c by simp] at this
  exact this
theorem count26 (t: ByteArray) (c: UInt8): PCall Tryz.prog 330 [.s t,.s ⟨#[c]⟩] (.i ((bts t).count c: Nat)) :=
 pcall_raw (vals := [.string t,.string ⟨#[c]⟩]) (fun vs w => run_callFunc Tryz.func330 (by kernel_rfl) rfl vs w) fun w => Go.Proofs.Any.strings_Count_one (ρ := layS_ren) layS t c w
theorem one_ne (c: UInt8): ¬ (⟨#[c]⟩: ByteArray) = ⟨#[]⟩ := fun e => by
 have := congrArg ByteArray.size e
 rw [show (⟨#[c]⟩: ByteArray).size = 1 from rfl] at this
 exact absurd this (by decide)
theorem one_size (c: UInt8): (⟨#[c]⟩: ByteArray).size = 1 := rfl
theorem one_at (c: UInt8): (⟨#[c]⟩: ByteArray).data.toList.getD 0 0 = c := rfl
theorem idx_one {t: ByteArray} {c: UInt8} (h: (⟨#[c]⟩: ByteArray) = t): Lib.indexByte (bts t) c = 0 := by subst h; simp [bts,Lib.indexByte]
theorem idx32 (t: ByteArray) (c: UInt8): PCall Tryz.prog 336 [.s t,.s ⟨#[c]⟩] (.i (Lib.indexByte (bts t) c)) := by
 refine pcall_of_vc tabOK Tryz.func336 (by kernel_rfl) rfl pureL pureI (n := 143) rfl (rs := [.tmp 4]) rfl ?_
 repeat' first
  | (exfalso; omega)
  | simp only [go_sem,one_size,one_at]
  | (intro _)
  | refine ⟨by omega,?_⟩
  | refine brK_dec (fun _ => ?_) (fun _ => ?_)
  | refine gK_dec (fun _ => ?_) (fun _ => ?_)
  | refine drawK moL (by kernel_rfl) ?_
  | (refine PCall.call (idxByte34 _ _) ?_)
  | exact finP rfl
  | (rw [idx_one (by assumption)]; exact finP rfl)
theorem index27 (t: ByteArray) (c: UInt8): PCall Tryz.prog 331 [.s t,.s ⟨#[c]⟩] (.i (Lib.indexByte (bts t) c)) := by
 refine pcall_of_vc tabOK Tryz.func331 (by kernel_rfl) rfl pureL pureI (n := 8) rfl (rs := [.tmp 4]) rfl ?_
 simp only [go_sem]
 refine PCall.call (idx32 _ _) ?_
 simp only [go_sem]
 exact finP rfl
abbrev cutA (t: ByteArray) (c: UInt8): AV := .tup [.s (if c ∈ bts t then t.extract 0 (Lib.indexByte (bts t) c).toNat else t),.s (if c ∈ bts t then t.extract ((Lib.indexByte (bts t) c).toNat + 1) t.size else ⟨#[]⟩),.b (decide (c ∈ bts t))]
theorem pure_cutA (t: ByteArray) (c: UInt8): Go.Abs.Pure (cutA t c) := .tup _ (pure_cons (.raw _) (pure_cons (.raw _) (pure_cons (.raw _) pure_nil)))
theorem cut28 (t: ByteArray) (c: UInt8) (ht: t.size ≤ 1000000000): PCall Tryz.prog 332 [.s t,.s ⟨#[c]⟩] (cutA t c) := by
 refine pcall_of_vc tabOK Tryz.func332 (by kernel_rfl) rfl (by first | exact pureL | exact pureI) (pure_cutA _ _) (n := 23) rfl (rs := [.tmp 4,.tmp 5,.tmp 6]) rfl ?_
 simp only [go_sem]
 refine PCall.call (idx32 _ _) ?_
 by_cases hc: c ∈ bts t
 ·
  obtain ⟨m,h1,h2,h3,h4⟩ := idx_at hc
  have hm: m < t.size := by rw [← bts_len]; exact h2
  unfold cutA
  rw [if_pos hc,if_pos hc,decide_eq_true hc,h1,Int.toNat_natCast]
  have hw: IntKind.i64.wrap ((m: Int) + ((1: Nat): Int)) = ((m + 1: Nat): Int) := by rw [wrap_in _ (by omega) (by omega)]; omega
  repeat' first
   | (exfalso; omega)
   | simp only [go_sem,one_size,hw,Int.toNat_natCast]
   | (intro _)
   | refine ⟨by omega,?_⟩
   | refine brK_dec (fun _ => ?_) (fun _ => ?_)
   | refine drawK moL (by kernel_rfl) ?_
   | exact ⟨_,rfl,false,.refl _⟩
   | (refine ⟨by simp only [hw]; omega,?_⟩; simp only [hw,Int.toNat_natCast])
 ·
  unfold cutA
  rw [if_neg hc,if_neg hc,decide_eq_false hc,idx_no hc]
  repeat' first
   | (exfalso; omega)
   | simp only [go_sem]
   | (exact absurd ‹_› (by decide))
   | refine brK_dec (fun _ => ?_) (fun _ => ?_)
   | exact ⟨_,rfl,false,.refl _⟩
theorem cut23 (t: ByteArray) (c: UInt8) (ht: t.size ≤ 1000000000): PCall Tryz.prog 327 [.s t,.s ⟨#[c]⟩] (cutA t c) := by
 refine pcall_of_vc tabOK Tryz.func327 (by kernel_rfl) rfl (by first | exact pureL | exact pureI) (pure_cutA _ _) (n := 13) rfl (rs := [.tmp 4,.tmp 5,.tmp 6]) rfl ?_
 simp only [go_sem]
 refine PCall.call (cut28 _ _ ht) ?_
 simp only [go_sem]
 exact ⟨_,rfl,false,.refl _⟩
theorem take_set {X: List AV} {i: Nat} {v: AV} (h: i < X.length): (X.set i v).take (i + 1) = X.take i ++ [v] := by
 rw [List.take_succ_eq_append_getElem (by simpa using h),List.take_set_of_le (Nat.le_refl _)]
 simp
theorem one_set {X: List AV} {i: Nat} {v: AV} (h: X.all AV.one = true) (hv: v.one = true): (X.set i v).all AV.one = true := by
 rw [List.all_eq_true] at h ⊢
 intro x hx
 rcases List.mem_or_eq_of_mem_set hx with q | q
 ·
  exact h x q
 ·
  rw [q]; exact hv
theorem split22 (t: ByteArray) (c: UInt8) (ht: t.size ≤ 1000000): PCall Tryz.prog 326 [.s t,.s ⟨#[c]⟩,.i 0,.i (-1)] (.lst 1 ((pieces c t).map AV.s) none) := by
 refine pcall_of_vc tabOK Tryz.func326 (by kernel_rfl) rfl (by first | exact pureL | exact pureI) (pure_strs _) (n := 66) rfl (rs := [.tmp 8]) rfl ?_
 generalize hN: (bts t).count c = N
 have hNs: N ≤ t.size := by rw [← hN,← bts_len]; exact List.count_le_length
 have hw1: IntKind.i64.wrap ((N: Int) + 1) = ((N + 1: Nat): Int) := by rw [wrap_in _ (by omega) (by omega)]; omega
 have hw2: IntKind.i64.wrap ((t.size: Int) + 1) = ((t.size + 1: Nat): Int) := by rw [wrap_in _ (by omega) (by omega)]; omega
 have hmin: (if ((t.size + 1: Nat): Int) < ((N + 1: Nat): Int) then ((t.size + 1: Nat): Int) else ((N + 1: Nat): Int)) = ((N + 1: Nat): Int) := if_neg (by omega)
 have hw3: IntKind.i64.wrap (((N + 1: Nat): Int) - 1) = ((N: Nat): Int) := by rw [wrap_in _ (by omega) (by omega)]; omega
 simp only [go_sem]
 refine brK_dec (fun h => absurd h (one_ne c)) (fun _ => ?_)
 simp only [go_sem]
 refine PCall.call (count26 t c) ?_
 rw [hN]
 simp only [go_sem,hw1,hw2,hmin,hw3,Int.toNat_natCast]
 refine ⟨by omega,?_⟩
 refine loop_fr [0,10,11,34,35,36,37,38,39,40,41,42,43,44,45,46,47,48,49,50,51,52,53,54,55,56,57] (fun m C hh => ∃ (i: Nat) (s: ByteArray) (D: List ByteArray) (X: List AV),D.length = i ∧ D ++ pieces c s = pieces c t ∧ i + (bts s).count c = N ∧ s.size ≤ t.size ∧ X.length = N + 1 ∧ X.take i = D.map AV.s ∧ X.all AV.one = true ∧ m = N - i ∧ C = [(10,.raw (.int .i64 (i: Nat))),(0,.s s)] ∧ hh = [.cells 9 X])
  N _ ⟨0,t,[],_,rfl,rfl,by omega,Nat.le_refl _,by simp,rfl,by simp [AV.one,Value.oneCell'],by omega,rfl,rfl⟩ (.cons rfl (.cons rfl .nil)) ?_
 rintro m C j hh ⟨i,s,D,X,hD,hp,hc,hs,hX,hXt,hXo,rfl,rfl,rfl⟩
 simp only [go_sem]
 refine brK_dec (fun hlt => ?_) (fun hge => ?_)
 ·
  have hcm: c ∈ bts s := List.count_pos_iff.1 (by omega)
  obtain ⟨m,h1,h2,h3,h4⟩ := idx_at hcm
  have hm: m < s.size := by rw [← bts_len]; exact h2
  have hw4: IntKind.i64.wrap ((m: Int) + 0) = (m: Int) := by rw [wrap_in _ (by omega) (by omega)]; omega
  have hw5: IntKind.i64.wrap ((m: Int) + ((1: Nat): Int)) = ((m + 1: Nat): Int) := by rw [wrap_in _ (by omega) (by omega)]; omega
  simp only [go_sem]
  refine PCall.call (index27 s c) ?_
  rw [h1]
  simp only [go_sem]
  refine brK_dec (fun _ => by exfalso; omega) (fun _ => ?_)
  have hd: decide (i + 1 ≤ X.length) = true := decide_eq_true (by omega)
  simp only [go_sem,hw4,hw5,one_size,Int.toNat_natCast,hd,Nat.mul_one]
  refine ⟨by omega,by omega,by omega,?_⟩
  have hpc := pieces_at h2 h3 h4
  refine loopFr _ (by omega) ⟨i + 1,s.extract (m + 1) s.size,D ++ [s.extract 0 m],X.set i (.s (s.extract 0 m)),by simp [hD],by rw [List.append_assoc,← hp,hpc]; rfl,?_,by rw [ByteArray.size_extract]; omega,by simpa using hX,?_,one_set hXo rfl,rfl,rfl,rfl⟩ (.next rfl (by omega) (.cons rfl .nil)) rfl
  ·
   have e2: bts (s.extract (m + 1) s.size) = (bts s).drop (m + 1) := by rw [bts_extract,List.take_of_length_le (by rw [bts_len]; exact Nat.le_refl _)]
   have e3: (bts s).count c = ((bts s).drop (m + 1)).count c + 1 := by
    conv => lhs; rw [h3]
    rw [List.count_append,List.count_eq_zero.2 h4,List.count_cons]
    simp
   rw [e2]; omega
  ·
   rw [take_set (by omega),hXt,List.map_append]; rfl
 ·
  have hi: i = N := by omega
  have hz: c ∉ bts s := fun hm => by have := List.count_pos_iff.2 hm; omega
  rw [pieces_no hz] at hp
  have hw6: IntKind.i64.wrap ((i: Int) + 1) = ((i + 1: Nat): Int) := by rw [wrap_in _ (by omega) (by omega)]; omega
  have hd: decide (i + 1 ≤ X.length) = true := decide_eq_true (by omega)
  simp only [go_sem,hd,Nat.mul_one,Int.toNat_natCast,hw6]
  refine ⟨by omega,by omega,?_⟩
  refine ⟨_,rfl,true,?_⟩
  have hlen: (X.set i (.s s)).length = i + 1 := by simp; omega
  have hall: X.set i (.s s) = (pieces c t).map AV.s := by
   rw [← hp,List.map_append,← hXt]
   have := take_set (X := X) (i := i) (v := .s s) (by omega)
   rw [List.take_of_length_le (by rw [hlen]; exact Nat.le_refl _)] at this
   exact this
  have hone := one_set (i := i) (v := .s s) hXo rfl
  show Weak (frz [.cells 9 (X.set i (.s s))] (.sl 1 0 0 (i + 1))) _
  rw [hall] at hlen hone ⊢
  simp only [frz,List.getElem?_cons_zero,decide_true,Nat.zero_add,hlen,Nat.le_refl,hone,List.drop_zero]
  rw [List.take_of_length_le (by rw [hlen]; exact Nat.le_refl _)]
  exact .refl _
theorem split18 (t: ByteArray) (c: UInt8) (ht: t.size ≤ 1000000): PCall Tryz.prog 319 [.s t,.s ⟨#[c]⟩] (.lst 1 ((pieces c t).map AV.s) none) := by
 refine pcall_of_vc tabOK Tryz.func319 (by kernel_rfl) rfl (by first | exact pureL | exact pureI) (pure_strs _) (n := 8) rfl (rs := [.tmp 4]) rfl ?_
 simp only [go_sem]
 refine PCall.call (split22 t c ht) ?_
 simp only [go_sem]
 exact ⟨_,rfl,false,.refl _⟩
theorem numG_all {t: ByteArray} (h: (bts t).all (fun c => inB 48 57 c.toNat) = false): numG t = false := by unfold numG; rw [h]; simp
theorem numG_first {t: ByteArray} (h: firstNo0 (bts t) = false): numG t = false := by unfold numG; rw [h]; simp
theorem firstNo0_at {t: ByteArray} {p: Nat} {c: UInt8} (hc: (bts t)[p]? = some c) (hp: (p: Int) = 0): firstNo0 (bts t) = !decide (c.toNat = 48) := by
 have: p = 0 := by omega
 subst this
 obtain ⟨l,hl⟩ := bts_cons hc
 rw [hl]; rfl
theorem number24 (t: ByteArray): PCall Tryz.prog 328 [.s t] (.b (numG t)) := by
 refine pcall_of_vc tabOK Tryz.func328 (by kernel_rfl) rfl (pure_cons (.raw _) pure_nil) (.raw _) (n := 30) rfl (rs := [.tmp 2]) rfl ?_
 simp only [go_sem]
 refine loop_fr [2,3,4,7,8,9,10,11,12,13,14,15,16,17,18,19,20,21] (fun m C hh => ∃ p: Nat,p ≤ t.size ∧ m = t.size - p ∧ (∀ c ∈ (bts t).take p,inB 48 57 c.toNat = true) ∧ (0 < p → firstNo0 (bts t) = true) ∧ C = [] ∧ hh = [.it t p]) t.size _ ⟨0,by omega,by omega,by simp,by omega,rfl,rfl⟩ .nil ?_
 rintro m C j hh ⟨p,hp,rfl,hpi,hf,rfl,rfl⟩
 rcases Nat.lt_or_ge p t.size with hlt | hge
 ·
  obtain ⟨c,hcc⟩ := bts_at hlt
  have hd: decide (p < t.size) = true := decide_eq_true hlt
  by_cases hlo: c.toNat < 128
  ·
   simp only [go_sem,hd,decode_lo hcc hlo]
   repeat' first
    | (exfalso; omega)
    | simp only [go_sem]
    | refine brK_dec (fun _ => ?_) (fun _ => ?_)
    | refine gK_dec (fun _ => ?_) (fun _ => ?_)
    | (refine PCall.call (digit20 _) ?_; generalize hdi: inB 48 57 (c.toNat: Nat) = q; cases q)
    | (refine finBq rfl ?_; first
      | (rw [numG_all (all_no (p := fun c => inB 48 57 c.toNat) hcc hdi)])
      | (have hp0: (p: Int) = 0 := (by assumption); have h48: c.toNat = 48 := (by omega); have hno: firstNo0 (bts t) = false := (by rw [firstNo0_at hcc hp0,h48]; rfl); rw [numG_first hno]))
    | exact loopFr _ (by omega) ⟨p + 1,by omega,rfl,take_all hpi hcc hdi,fun _ => by
      rcases Nat.eq_zero_or_pos p with h0 | h0
      ·
       have h48: ¬ c.toNat = 48 := by omega
       rw [firstNo0_at hcc (by omega),decide_eq_false h48]; rfl
      ·
       exact hf h0,rfl,rfl⟩ .nil rfl
  ·
   have hhi := decode_hi hcc (by omega)
   simp only [go_sem,hd]
   generalize Utf8.decode t p = r at hhi ⊢
   obtain ⟨r,wd⟩ := r
   dsimp only at hhi
   have h3: inB 48 57 (r: Int) = false := inB_hi (by omega) (by omega)
   have hno: inB 48 57 (c.toNat: Nat) = false := by unfold inB; simp; omega
   repeat' first
    | (exfalso; omega)
    | simp only [go_sem]
    | refine brK_dec (fun _ => ?_) (fun _ => ?_)
    | refine gK_dec (fun _ => ?_) (fun _ => ?_)
    | (refine PCall.call (digit20 _) ?_; rw [h3])
    | (refine finBq rfl ?_; rw [numG_all (all_no (p := fun c => inB 48 57 c.toNat) hcc hno)])
 ·
  have hd: decide (p < t.size) = false := decide_eq_false (by omega)
  simp only [go_sem,hd]
  have hall := all_yes (p := fun c => inB 48 57 c.toNat) hpi hge
  repeat' first
   | (exfalso; omega)
   | simp only [go_sem]
   | refine brK_dec (fun _ => ?_) (fun _ => ?_)
   | refine gK_dec (fun _ => ?_) (fun _ => ?_)
   | (refine finBq rfl ?_; unfold numG; rw [hall]; first | (have h0: 0 < p := (by omega); have h1: 1 ≤ t.size := (by omega); rw [hf h0,decide_eq_true h1]; by_cases q: t.size ≤ 3 <;> simp [q] <;> omega) | (have h1: ¬ 1 ≤ t.size := (by omega); simp [h1]; done))
theorem part19 (t: ByteArray) (ht: t.size ≤ 1000000000): PCall Tryz.prog 320 [.s t] (.b (partF t)) := by
 refine pcall_of_vc tabOK Tryz.func320 (by kernel_rfl) rfl pureL pureI (n := 22) rfl (rs := [.tmp 2]) rfl ?_
 simp only [go_sem]
 refine PCall.call (cut23 t 46 ht) ?_
 by_cases hc: (46: UInt8) ∈ bts t
 ·
  obtain ⟨m,h1,h2,h3,h4⟩ := idx_at hc
  unfold cutA
  rw [if_pos hc,if_pos hc,decide_eq_true hc,h1,Int.toNat_natCast,partF_at h2 h3 h4]
  repeat' first
   | simp only [go_sem]
   | (refine PCall.call (low6 _) ?_; generalize lowF (t.extract 0 m) = q; cases q)
   | (refine PCall.call (number24 _) ?_)
   | exact finBq rfl (by simp)
   | refine gK_split (fun _ => ?_) (fun _ => ?_)
 ·
  unfold cutA
  rw [if_neg hc,if_neg hc,decide_eq_false hc,partF_no hc]
  repeat' first
   | simp only [go_sem]
   | (refine PCall.call (low6 _) ?_; generalize lowF t = q; cases q)
   | exact finBq rfl (by simp)
theorem path12 (t: ByteArray) (ht: t.size ≤ 1000000): PCall Tryz.prog 298 [.s t] (.b (pathF t)) := by
 refine pcall_of_vc tabOK Tryz.func298 (by kernel_rfl) rfl pureL pureI (n := 16) rfl (rs := [.tmp 2]) rfl ?_
 unfold pathF
 repeat' first
  | exact finB rfl
  | exact finI rfl
  | exact finP rfl
  | exact absurd rfl (by assumption)
  | simp only [go_sem]
  | (intro _)
  | refine brK_dec (fun _ => ?_) (fun _ => ?_)
  | refine brK_any ?_ ?_
  | refine gK_dec (fun _ => ?_) (fun _ => ?_)
  | refine gK_any ?_ ?_
  | refine gqK_dec (fun _ => ?_) (fun _ => ?_)
  | refine ⟨by omega,?_⟩
  | refine elemHave (by omega) (by assumption) ?_
  | refine elemMap (by omega) (by omega) (fun x hx => ?_)
  | refine drawK mo (by kernel_rfl) ?_
  | (refine PCall.call (split18 t 47 ht) ?_)
  | (have hle := pieces_le (List.mem_of_getElem? hx); refine PCall.call (part19 x (by omega)) ?_; generalize hpx: partF x = q; cases q)
  | (refine finBq rfl ?_; first | (rw [List.all_eq_true.2 (take_full hpi (by omega))]) | (rw [List.all_eq_false.2 ⟨x,List.mem_of_getElem? hx,by simp [hpx]⟩]))
  | exact loopFrH _ (by omega) ⟨i + 1,by omega,rfl,take_all hpi (by simpa using hx) hpx,rfl⟩ (.next rfl (by omega) .nil) rfl
  | (refine loop_frH [2,4,8,9,10,11,12,13,14,15] (fun mm_ CC_ => ∃ (i: Nat),i ≤ (pieces 47 t).length ∧ mm_ = (pieces 47 t).length - i ∧ (∀ x ∈ (pieces 47 t).take i,partF x = true) ∧ CC_ = [(8,.raw (.int .i64 ((i: Nat): Int)))]) ((pieces 47 t).length) _ ⟨0,by omega,by omega,by simp,rfl⟩ (.cons rfl .nil) ?_; rintro mm_ CC_ ji ⟨i,hi,rfl,hpi,rfl⟩)
theorem nothing88 (e: Ex) (n: Int): PCall Tryz.prog 263 [e.enc,.i n] (nothingE e n).enc := by
 refine pcall_of_vc tabOK Tryz.func263 (by kernel_rfl) rfl (by first | exact pureL | exact pureI) (DRule.pure _) (n := 17) rfl (rs := [.cell 4 249]) rfl ?_
 repeat' first
  | simp only [go_sem]
  | (refine drawC [1] mo (by kernel_rfl) ?_)
  | exact finRule rfl rfl
theorem leaf87 (e: Ex) (hn: e.name.size ≤ 1000000): PCall Tryz.prog 262 [e.enc] (leafE e).enc := by
 refine pcall_of_vc tabOK Tryz.func262 (by kernel_rfl) rfl (by first | exact pureL | exact pureI) (DRule.pure _) (n := 44) rfl (rs := [.cell 2 249]) rfl ?_
 simp only [go_sem]
 refine PCall.call (nothing88 e 0) ?_
 repeat' first
  | simp only [go_sem,nothingE]
  | refine brK_dec (fun _ => ?_) (fun _ => ?_)
  | refine gK_dec (fun _ => ?_) (fun _ => ?_)
  | refine PCall.call (low6 _) ?_
  | refine PCall.call (high8 _) ?_
  | refine PCall.call (path12 _ hn) ?_
  | (refine drawC [2] mo (by kernel_rfl) ?_)
  | (exact finRule rfl (by simp [leafE,nothingE,*]))
theorem of68 (e: Ex) (hn: e.name.size ≤ 1000000): PCall Tryz.prog 213 [e.enc] (ruleA (ofE e)) := by
 refine pcall_of_vc tabOK Tryz.func213 (by kernel_rfl) rfl (by first | exact pureL | exact pureI) (pure_ruleA _) (n := 106) rfl (rs := [.cell 2 249,.tmp 3]) rfl ?_
 repeat' first
  | (exfalso; omega)
  | simp only [go_sem,nothingE]
  | (intro _)
  | refine brK_dec (fun _ => ?_) (fun _ => ?_)
  | refine gK_dec (fun _ => ?_) (fun _ => ?_)
  | refine gqK_dec (fun _ => ?_) (fun _ => ?_)
  | refine PCall.call (low6 _) ?_
  | refine pcK_of (low6 _) ?_
  | refine PCall.call (leaf87 e hn) ?_
  | refine PCall.call (nothing88 e _) ?_
  | (refine drawC [2] mo (by kernel_rfl) ?_)
  | (exact finRule2 rfl (by simp [ofE,nothingE,*]))
  | (exact finRule2 rfl (by simp [ofE,nothingE,*] <;> omega))
theorem once12 (l: List ByteArray): PCall Tryz.prog 214 [.lst 1 (l.map AV.s) none] (.b (onceB l)) := by
 refine pcall_of_vc tabOK Tryz.func214 (by kernel_rfl) rfl (pure_cons (pure_strs _) pure_nil) (.raw _) (n := 22) rfl (rs := [.tmp 2]) rfl ?_
 simp only [go_sem]
 intro _
 refine loop_fr [2,5,9,10,11,12,13,14,15,16,17,18,19,20,21] (fun m C hh => ∃ (i n: Nat) (f: Value → Option AV),i ≤ l.length ∧ m = l.length - i ∧ (l.take i).Nodup ∧ MapN f (fun s => 0 + cntL s (l.take i)) ∧ C = [(9,.raw (.int .i64 (i: Nat)))] ∧ hh = [.mp .str n f]) l.length _ ⟨0,0,_,by omega,by omega,by simp,MapN.nil.cast (fun s => by simp [cntL]),rfl,rfl⟩ (.cons rfl .nil) ?_
 rintro m C j hh ⟨i,n,f,hi,rfl,hN,hM,rfl,rfl⟩
 simp only [go_sem]
 refine brK_dec (fun hlt => ?_) (fun hge => ?_)
 ·
  simp only [go_sem]
  refine elemMap (by omega) (by omega) (fun x hx => ?_)
  have hx': l[i]? = some x := by simpa using hx
  have hMx := hM x
  have hle := cntL_le x (l.take i)
  rw [List.length_take] at hle
  simp only [go_sem,hMx]
  refine brK_dec (fun hp => ?_) (fun hp => ?_)
  ·
   simp only [go_sem]
   refine finBq rfl ?_
   rw [onceB_no]
   refine nodup_bad hx' ?_
   by_cases hm: x ∈ l.take i
   ·
    exact hm
   ·
    have := cntL_zero hm
    exfalso; omega
  ·
   simp only [go_sem,hMx]
   have hm: x ∉ l.take i := fun hm => by have := cntL_mem hm; omega
   exact loopFr _ (by omega) ⟨i + 1,_,_,by omega,rfl,nodup_step hN hx' hm,(by have h := hM.upW hx (by omega); simpa only [Nat.zero_add] using h),rfl,rfl⟩ (.next rfl (by omega) .nil) rfl
 ·
  simp only [go_sem]
  exact finBq rfl (nodup_all hN (by omega)).symm
theorem parts_sub {L: List Ex} {e: Ex} {n i: Nat} {x: Ex} (hL: ∀ (k: Nat) y,(parts e)[k]? = some y → L[n + k]? = some y) (hx: e.subs[i]? = some x) :
  ∀ (k: Nat) y,(parts x)[k]? = some y → L[n + 1 + (partsL (e.subs.take i)).length + k]? = some y := by
 obtain ⟨hi,rfl⟩ := List.getElem?_eq_some_iff.1 hx
 intro k y hy
 have h1 := partsL_take hi
 have h2: partsL e.subs = partsL (e.subs.take i) ++ parts e.subs[i] ++ partsL (e.subs.drop (i + 1)) := by
  rw [← h1,← partsL_append,List.take_append_drop]
 have := hL (1 + (partsL (e.subs.take i)).length + k) y (by
  rw [parts_eq,h2,show 1 + (partsL (e.subs.take i)).length + k = ((partsL (e.subs.take i)).length + k) + 1 by omega,List.getElem?_cons_succ,List.append_assoc,List.getElem?_append_right (by omega),show (partsL (e.subs.take i)).length + k - (partsL (e.subs.take i)).length = k by omega,
   List.getElem?_append_left (List.getElem?_eq_some_iff.1 hy).1]
  exact hy)
 rw [show n + 1 + (partsL (e.subs.take i)).length + k = n + (1 + (partsL (e.subs.take i)).length + k) by omega]
 exact this
theorem walk53 (yl m0: Nat) (L: List Ex) (I: Nat → List Blk → Prop) (St: List Blk → Prop) (hlen: ∀ n h,I n h → h.length = m0) (hst: ∀ h,St h → h.length = m0)
  (hy: ∀ n x h r (K: AV → List Blk → Prop),L[n]? = some x → I n h → (∀ h' r',I (n + 1) h' → K (.b true) (h' ++ (r ++ r'))) → (∀ h' r',St h' → K (.b false) (h' ++ (r ++ r'))) → YCall Tryz.prog yl [x.enc] (h ++ r) K) :
  ∀ (e: Ex) (n: Nat) (h r: List Blk) (K: AV → List Blk → Prop),(∀ (k: Nat) y,(parts e)[k]? = some y → L[n + k]? = some y) → I n h →
   (∀ h' r',I (n + (parts e).length) h' → K (.b true) (h' ++ (r ++ r'))) → (∀ h' r',St h' → K (.b false) (h' ++ (r ++ r'))) → ACall Tryz.prog 212 [e.enc,.fn (.yield yl) [] []] (h ++ r) K := by
 intro e
 induction e using Ex.ind with
 | _ e ih =>
 intro n h r K hL hI hT hF
 refine acallK_of_vc tabOK Tryz.func212 (by kernel_rfl) rfl (n := 23) rfl (rs := [.tmp 4]) rfl ?_
 simp only [go_sem]
 have h0: L[n]? = some e := by have := hL 0 e (by rw [parts_eq]; rfl); simpa using this
 have hm := hlen _ _ hI
 refine hy n e h (r ++ [exBx e]) _ h0 hI (fun h1 r1 hI1 => ?_) (fun h1 r1 hS1 => ?_)
 ·
  have hm1 := hlen _ _ hI1
  have hbox: (h1 ++ (r ++ exBx e :: r1))[h.length + r.length]? = some (.cells 72 [.i e.kind,.i e.n,.s e.name,.i e.op,.lst 1 (e.arms.map AV.s) none,.lst 6 (e.subs.map Ex.enc) none]) := by
   rw [List.getElem?_append_right (by omega),List.getElem?_append_right (by omega)]
   rw [show h.length + r.length - h1.length - r.length = 0 by omega]; rfl
  simp only [go_sem,hbox]
  intro _
  refine loop_fr [4,6,14,15,16,17,18,19,20,21,22] (fun m C hh => ∃ (i: Nat) (h' r': List Blk),i ≤ e.subs.length ∧ m = e.subs.length - i ∧ I (n + 1 + (partsL (e.subs.take i)).length) h' ∧ C = [(14,.raw (.int .i64 (i: Nat)))] ∧ hh = h' ++ (r ++ exBx e :: r')) e.subs.length _ ⟨0,h1,r1,by omega,by omega,by simpa [partsL] using hI1,rfl,rfl⟩ (.cons rfl .nil) ?_
  rintro m C j hh ⟨i,h',r',hi,rfl,hI',rfl,rfl⟩
  simp only [go_sem]
  refine brK_dec (fun hlt => ?_) (fun hge => ?_)
  ·
   simp only [go_sem]
   refine elemMap (by omega) (by omega) (fun x hx => ?_)
   have hx': e.subs[i]? = some x := by simpa using hx
   simp only [go_sem]
   refine ih x (List.mem_of_getElem? hx') (n + 1 + (partsL (e.subs.take i)).length) h' (r ++ exBx e :: (r' ++ [exBx x])) _ (parts_sub hL hx') hI' (fun h2 r2 hI2 => ?_) (fun h2 r2 hS2 => ?_)
   ·
    simp only [go_sem]
    exact loopFr _ (by omega) ⟨i + 1,h2,r' ++ (exBx x :: r2),by omega,rfl,by rw [parts_len hx',← Nat.add_assoc]; exact hI2,rfl,by simp⟩ (.next rfl (by omega) .nil) rfl
   ·
    simp only [go_sem]
    exact finK (r := .b false) rfl (by have := hF h2 (exBx e :: (r' ++ (exBx x :: r2))) hS2; simpa using this)
  ·
   simp only [go_sem]
   have hie: i = e.subs.length := by omega
   subst hie
   rw [List.take_length] at hI'
   exact finK rfl (hT h' (exBx e :: r') (by rw [parts_eq,List.length_cons,show n + ((partsL e.subs).length + 1) = n + 1 + (partsL e.subs).length by omega]; exact hI'))
 ·
  simp only [go_sem]
  exact finK rfl (hF h1 (exBx e :: r1) hS1)
theorem each28 (e: Ex) {h: List Blk} {K: AV → List Blk → Prop} (hK: K (.fn (.func 211) [] [.ptr h.length 0]) (h ++ [exBx e])): ACall Tryz.prog 167 [e.enc] h K := by
 refine acallK_of_vc tabOK Tryz.func167 (by kernel_rfl) rfl (n := 4) rfl (rs := [.tmp 2]) rfl ?_
 simp only [go_sem]
 exact finK rfl hK
theorem each52 (e: Ex) (yl m0: Nat) (I: Nat → List Blk → Prop) (St: List Blk → Prop) (hlen: ∀ n h,I n h → h.length = m0) (hst: ∀ h,St h → h.length = m0)
  (hy: ∀ n x h r (K: AV → List Blk → Prop),(parts e)[n]? = some x → I n h → (∀ h' r',I (n + 1) h' → K (.b true) (h' ++ (r ++ r'))) → (∀ h' r',St h' → K (.b false) (h' ++ (r ++ r'))) → YCall Tryz.prog yl [x.enc] (h ++ r) K)
  {h: List Blk} {k: Nat} {K: AV → List Blk → Prop} (hk: h[k]? = some (exBx e)) (h0: I 0 h) (hT: ∀ h' r',I (parts e).length h' → K (.tup []) (h' ++ r')) (hF: ∀ h' r',St h' → K (.tup []) (h' ++ r')) :
  ACall Tryz.prog 211 [.fn (.yield yl) [] [],.ptr k 0] h K := by
 have hk': h[k]? = some (.cells 72 [.i e.kind,.i e.n,.s e.name,.i e.op,.lst 1 (e.arms.map AV.s) none,.lst 6 (e.subs.map Ex.enc) none]) := hk
 refine acallK_of_vc tabOK Tryz.func211 (by kernel_rfl) rfl (n := 6) rfl (rs := []) rfl ?_
 simp only [go_sem,hk']
 have hw := walk53 yl m0 (parts e) I St hlen hst hy e 0 h []
 rw [List.append_nil] at hw
 refine hw _ (fun k y hy => by simpa using hy) h0 (fun h' r' hI' => ?_) (fun h' r' hS' => ?_)
 ·
  simp only [go_sem]
  rw [Nat.zero_add] at hI'
  exact ⟨[],rfl,.tup [],.refl _,hT _ _ hI'⟩
 ·
  simp only [go_sem]
  exact ⟨[],rfl,.tup [],.refl _,hF _ _ hS'⟩
theorem acall_ghost {P: Program} {f: FuncId} {args args': List AV} {h h': List Blk} {K: AV → List Blk → Prop} (hg: Ghost args h args' h') (hc: ACall P f args' h' K): ACall P f args h K := by
 unfold ACall Ghost at *
 intro S φ w vs hr ha
 obtain ⟨S1,φ1,k1,k2,k3⟩ := hg S φ w vs ha hr
 obtain ⟨h1,h2⟩ := hc S1 φ1 w vs k2 k1
 refine ⟨h1,Calls.mono h2 ?_⟩
 rintro e w' ⟨v,r,hh,S',φ',e1,e2,e3,e4,e5⟩
 exact ⟨v,r,hh,S',φ',e1,e2,e3,e4,k3.trans e5⟩
theorem each_range (e: Ex) {ps: Array Tmp} {x y: Code} {s: List AV} {l: Nat} {Q: Post} (m k g: Nat) (Inv: Nat → Prop) (H G: Nat → List Blk) (Hs: List Blk → Prop) (hH: ∀ n,(H n).length = m) (hG: ∀ n,(G n).length = g) (hHs: ∀ h,Hs h → h.length = m) (hk: (H 0)[k]? = some (exBx e)) (hps: ps.size = 1) (hx: noR x = true) (hy: noR y = true) (h0: Inv 0)
  (hbody: ∀ (n: Nat) (z: Ex) (r: List Blk) (K: AV → List Blk → Prop),(parts e)[n]? = some z → Inv n → (Inv (n + 1) → ∀ r',K (.b true) (H (n + 1) ++ (.lp l .ready none ps x y s :: (G (n + 1) ++ (r ++ r'))))) → (∀ h' r',Hs h' → K (.b false) (h' ++ (.lp l .done (some .ret) ps x y s :: (G n ++ (r ++ r'))))) →
   vc Tryz.prog ti x (roundA Tryz.prog ti l m ps x y s K) (setPs s ps.toList [z.enc]) (H n ++ (.lp l .ready none ps x y s :: (G n ++ r))))
  (hn: ∀ r,Inv (parts e).length → Q .normal s (H (parts e).length ++ (.dead :: (G (parts e).length ++ r)))) (hr: ∀ n h' r,Hs h' → Q .ret s (h' ++ (.dead :: (G n ++ r)))) :
  ACall Tryz.prog 211 [.fn (.yield l) [] [],.ptr k 0] (H 0 ++ (.lp l .ready none ps x y s :: G 0)) (fun _ h' => loopEnd Q s m h') := by
 refine each52 e l (m + 1 + g) (fun n h => Inv n ∧ h = H n ++ (.lp l .ready none ps x y s :: G n)) (fun h => ∃ n h',Hs h' ∧ h = h' ++ (.lp l .done (some .ret) ps x y s :: G n)) ?_ ?_ ?_ ?_ ⟨h0,rfl⟩ ?_ ?_
 ·
  rintro n h ⟨_,rfl⟩; simp [hH,hG]; omega
 ·
  rintro h ⟨n,h',hs,rfl⟩; simp [hHs h' hs,hG]; omega
 ·
  rintro n z h r K hz ⟨hi,rfl⟩ hK1 hK2
  rw [List.append_assoc,List.cons_append]
  refine ycall_of_vc tabOK (k := m) (ps := ps) (x := x) (y := y) (s := s) ?_ (by simp [hps]) hx hy (hbody n z r K hz hi (fun hi' r' => ?_) (fun h' r' hs => ?_))
  ·
   rw [List.getElem?_append_right (by rw [hH]; exact Nat.le_refl _),hH,Nat.sub_self]; rfl
  ·
   have := hK1 _ r' ⟨hi',rfl⟩
   rwa [List.append_assoc,List.cons_append] at this
  ·
   have := hK2 _ r' ⟨n,h',hs,rfl⟩
   rwa [List.append_assoc,List.cons_append] at this
 ·
  rw [List.getElem?_append_left (List.getElem?_eq_some_iff.1 hk).1]; exact hk
 ·
  rintro h' r' ⟨hi,rfl⟩
  have e1: ((H (parts e).length ++ (Blk.lp l .ready none ps x y s :: G (parts e).length)) ++ r')[m]? = some (.lp l .ready none ps x y s) := by
   rw [List.append_assoc,List.getElem?_append_right (by rw [hH]; exact Nat.le_refl _),hH,Nat.sub_self]; rfl
  have e2: ((H (parts e).length ++ (Blk.lp l .ready none ps x y s :: G (parts e).length)) ++ r').set m .dead = H (parts e).length ++ (.dead :: (G (parts e).length ++ r')) := by
   rw [List.append_assoc,List.set_append_right _ _ (by rw [hH]; exact Nat.le_refl _),hH,Nat.sub_self]; rfl
  unfold loopEnd
  rw [e1,e2]
  exact hn r' hi
 ·
  rintro h r' ⟨n,h',hs,rfl⟩
  have e1: ((h' ++ (Blk.lp l .done (some .ret) ps x y s :: G n)) ++ r')[m]? = some (.lp l .done (some .ret) ps x y s) := by
   rw [List.append_assoc,List.getElem?_append_right (by rw [hHs h' hs]; exact Nat.le_refl _),hHs h' hs,Nat.sub_self]; rfl
  have e2: ((h' ++ (Blk.lp l .done (some .ret) ps x y s :: G n)) ++ r').set m .dead = h' ++ (.dead :: (G n ++ r')) := by
   rw [List.append_assoc,List.set_append_right _ _ (by rw [hHs h' hs]; exact Nat.le_refl _),hHs h' hs,Nat.sub_self]; rfl
  unfold loopEnd
  rw [e1,e2]
  exact hr n h' r' hs
theorem size20 (e: Ex) (hb: (parts e).length ≤ 100000): PCall Tryz.prog 165 [e.enc] (.i ((parts e).length: Nat)) := by
 refine pcall_of_vc tabOK Tryz.func165 (by kernel_rfl) rfl pureL pureI (n := 10) rfl (rs := [.tmp 2]) rfl ?_
 simp only [go_sem]
 refine each28 e ?_
 simp only [go_sem]
 intro l
 refine each_range e 3 2 0 (fun _ => True) (fun n => [exBx e,.cells 3 [.i (n: Nat)],exBx e]) (fun _ => []) (fun _ => False) (fun _ => rfl) (fun _ => rfl) (fun _ h => h.elim) rfl rfl rfl rfl trivial (fun n z r K hz _ hK1 _ => ?_) (fun r _ => ?_) (fun _ _ _ h => h.elim)
 ·
  have hn := (List.getElem?_eq_some_iff.1 hz).1
  simp only [go_sem,setPs,roundA]
  try refine ⟨rfl,?_⟩
  try simp only [go_sem,roundB]
  have := hK1 trivial []
  rw [wrap_in _ (by omega) (by omega)]
  simpa using this
 ·
  simp only [go_sem]
  exact ⟨_,rfl,false,.refl _⟩
theorem literal48 (e: Ex): PCall Tryz.prog 169 [e.enc] (.b (litE e)) := by
 refine pcall_of_vc tabOK Tryz.func169 (by kernel_rfl) rfl pureL pureI (n := 28) rfl (rs := [.tmp 2]) rfl ?_
 repeat' first
  | (exfalso; omega)
  | simp only [go_sem]
  | (intro _)
  | refine brK_dec (fun _ => ?_) (fun _ => ?_)
  | refine gK_dec (fun _ => ?_) (fun _ => ?_)
  | refine elemMap (by omega) (by omega) (fun x hx => ?_)
  | (refine finBq rfl ?_; have hk := k0_at hx; simp [litE,*]; done)
  | (refine finBq rfl ?_; simp [litE,*]; done)
  | (refine finBq rfl ?_; have h1: ¬ e.subs.length = 1 := (by omega); simp [litE,*]; done)
  | (refine finBq rfl ?_; have h1: e.subs.length = 1 := (by omega); have hk := k0_at hx; simp [litE,*]; done)
theorem containsExR {l: List Ex} {p: Ex → Bool} {g: Nat} {first capt: List AV} {h: List Blk} {K: AV → List Blk → Prop} (hp: ∀ x ∈ l,∀ K: AV → List Blk → Prop,K (.b (p x)) h → ACall Tryz.prog g (first ++ Ex.enc x :: capt) h K)
  (hK: K (.b (l.any p)) h): ACall Tryz.prog 170 [.lst 6 (l.map Ex.enc) none,.fn (.func g) first capt] h K := by
 refine acall_of_vc tabOK Tryz.func170 (by kernel_rfl) rfl (n := 9) rfl (rs := [.tmp 4]) rfl ?_
 simp only [go_sem]
 refine indexEx hp ?_
 simp only [go_sem]
 rw [idx_any]
 exact finH1 rfl (.raw _) hK
theorem containsStrR {l: List ByteArray} {p: ByteArray → Bool} {g: Nat} {first capt: List AV} {h: List Blk} {K: AV → List Blk → Prop} (hp: ∀ x ∈ l,∀ K: AV → List Blk → Prop,K (.b (p x)) h → ACall Tryz.prog g (first ++ AV.s x :: capt) h K)
  (hK: K (.b (l.any p)) h): ACall Tryz.prog 113 [.lst 1 (l.map AV.s) none,.fn (.func g) first capt] h K := by
 refine acall_of_vc tabOK Tryz.func113 (by kernel_rfl) rfl (n := 9) rfl (rs := [.tmp 4]) rfl ?_
 simp only [go_sem]
 refine indexStr hp ?_
 simp only [go_sem]
 rw [idx_any]
 exact finH1 rfl (.raw _) hK
theorem const18 (e: Ex): PCall Tryz.prog 135 [e.enc] (.b (constE e)) := by
 refine pcall_of_vc tabOK Tryz.func135 (by kernel_rfl) rfl pureL pureI (n := 12) rfl (rs := [.tmp 2]) rfl ?_
 simp only [go_sem]
 refine brK_dec (fun h14 => ?_) (fun h14 => ?_)
 ·
  simp only [go_sem]
  refine PCall.call (literal48 e) ?_
  simp only [go_sem]
  exact finBq rfl (by simp [constE,h14])
 ·
  have h14: e.kind = 14 := Classical.not_not.1 h14
  simp only [go_sem]
  refine containsExR (p := fun x => !litE x) (fun x hx K hK => ?_) ?_
  ·
   refine acall_of_vc tabOK Tryz.func171 (by kernel_rfl) rfl (n := 6) rfl (rs := [.tmp 2]) rfl ?_
   simp only [go_sem]
   refine PCall.call (literal48 x) ?_
   simp only [go_sem]
   exact finH0 _ rfl (.raw _) hK
  simp only [go_sem]
  exact finBq rfl (by simp [constE,h14,List.all_eq_not_any_not])
theorem arm71 (s: ByteArray): PCall Tryz.prog 216 [.s s] (.b (armE s)) := by
 refine pcall_of_vc tabOK Tryz.func216 (by kernel_rfl) rfl pureL pureI (n := 13) rfl (rs := [.tmp 2]) rfl ?_
 unfold armE
 repeat' first
  | exact finB rfl
  | exact finI rfl
  | exact finP rfl
  | exact absurd rfl (by assumption)
  | simp only [go_sem]
  | (intro _)
  | refine brK_dec (fun _ => ?_) (fun _ => ?_)
  | refine brK_split (fun hb_ => ?_) (fun hb_ => ?_)
  | refine gK_dec (fun _ => ?_) (fun _ => ?_)
  | refine gK_split (fun hb_ => ?_) (fun hb_ => ?_)
  | refine gqK_dec (fun _ => ?_) (fun _ => ?_)
  | refine ⟨by omega,?_⟩
  | refine elemHave (by omega) (by assumption) ?_
  | refine elemMap (by omega) (by omega) (fun x hx => ?_)
  | refine drawK mo (by kernel_rfl) ?_
  | (refine PCall.call (high8 s) ?_; generalize highF s = q; cases q)
  | (exact finBq rfl (by simp [*]))
theorem part46 (e: Ex) (hn: e.name.size ≤ 1000000): PCall Tryz.prog 168 [e.enc] (.b (partP e)) := by
 refine pcall_of_vc tabOK Tryz.func168 (by kernel_rfl) rfl (by first | exact pureL | exact pureI) (.raw _) (n := 79) rfl (rs := [.tmp 2]) rfl ?_
 have h2: 1 ≤ (ofE e).1.least ∨ ¬ e.kind = 8 := by
  by_cases h8: e.kind = 8
  ·
   left; simp [ofE,nothingE,h8]
  ·
   right; exact h8
 unfold partP
 simp only [go_sem]
 refine PCall.call (of68 e hn) ?_
 generalize ofE e = R at h2 ⊢
 obtain ⟨⟨x,y,z,a,b,c⟩,ok⟩ := R
 dsimp only at h2
 cases ok <;> cases x <;> cases y <;> cases z <;>
 repeat' first
  | (exfalso; omega)
  | simp only [go_sem]
  | (intro _)
  | refine brK_dec (fun _ => ?_) (fun _ => ?_)
  | refine gK_dec (fun _ => ?_) (fun _ => ?_)
  | refine brK_split (fun hb_ => ?_) (fun hb_ => ?_)
  | refine gK_split (fun hb_ => ?_) (fun hb_ => ?_)
  | (refine PCall.call (once12 e.arms) ?_; generalize ho: onceB e.arms = o; cases o)
  | (refine containsStrR (p := fun s => !armE s) (fun s hs K hK => ?_) ?_
    ·
     refine acall_of_vc tabOK Tryz.func215 (by kernel_rfl) rfl (n := 6) rfl (rs := [.tmp 2]) rfl ?_
     simp only [go_sem]
     refine PCall.call (arm71 s) ?_
     simp only [go_sem]
     exact finH0 _ rfl (.raw _) hK
    have hall: e.arms.all armE = !(e.arms.any fun s => !armE s) := List.all_eq_not_any_not
    rw [hall]
    generalize (e.arms.any fun s => !armE s) = q
    cases q)
  | refine elemMap (by omega) (by omega) (fun x hx => ?_)
  | (refine PCall.call (const18 _) ?_)
  | (refine finBq rfl ?_; simp [*]; done)
  | (refine finBq rfl ?_; simp [*]; omega)
  | (refine finBq rfl ?_; have hm: e.arms.length = 0 := (by omega); simp [*]; done)
  | (refine finBq rfl ?_; have f1: a ≤ (e.subs.length: Int) := (by omega); have f2: (e.subs.length: Int) ≤ b := (by omega); have f3: (e.arms.length: Int) ≤ c := (by omega)
    rw [decide_eq_true f1,decide_eq_true f2,decide_eq_true f3]
    first
     | (have hm: ¬ e.arms.length = 0 := (by omega); rw [decide_eq_false hm]; first | (simp [*]; done) | (rw [head_at hx]; simp [*]; done))
     | (have hm: ¬ c > 0 := (by omega); rw [decide_eq_false hm]; first | (simp [*]; done) | (rw [head_at hx]; simp [*]; done)))
theorem truthP (t: DTy): PCall Tryz.prog 271 [t.enc] (.b (decide (t = tyB))) := by
 refine pcall_of_vc tabOK Tryz.func271 (by kernel_rfl) rfl pureL pureI (n := 6) rfl (rs := [.tmp 2]) rfl ?_
 repeat' first
  | exact finB rfl
  | exact finI rfl
  | exact finP rfl
  | exact absurd rfl (by assumption)
  | simp only [go_sem]
  | (intro _)
  | refine brK_dec (fun _ => ?_) (fun _ => ?_)
  | refine brK_any ?_ ?_
  | refine gK_dec (fun _ => ?_) (fun _ => ?_)
  | refine gK_any ?_ ?_
  | refine gqK_dec (fun _ => ?_) (fun _ => ?_)
  | refine ⟨by omega,?_⟩
  | refine elemHave (by omega) (by assumption) ?_
  | refine elemMap (by omega) (by omega) (fun x hx => ?_)
  | refine drawK mo (by kernel_rfl) ?_
  | (simp only [ty000,ty100,ty200])
  | (exact finBq rfl rfl)
theorem wholeP (t: DTy): PCall Tryz.prog 273 [t.enc] (.b (decide (t = tyI))) := by
 refine pcall_of_vc tabOK Tryz.func273 (by kernel_rfl) rfl pureL pureI (n := 6) rfl (rs := [.tmp 2]) rfl ?_
 repeat' first
  | exact finB rfl
  | exact finI rfl
  | exact finP rfl
  | exact absurd rfl (by assumption)
  | simp only [go_sem]
  | (intro _)
  | refine brK_dec (fun _ => ?_) (fun _ => ?_)
  | refine brK_any ?_ ?_
  | refine gK_dec (fun _ => ?_) (fun _ => ?_)
  | refine gK_any ?_ ?_
  | refine gqK_dec (fun _ => ?_) (fun _ => ?_)
  | refine ⟨by omega,?_⟩
  | refine elemHave (by omega) (by assumption) ?_
  | refine elemMap (by omega) (by omega) (fun x hx => ?_)
  | refine drawK mo (by kernel_rfl) ?_
  | (simp only [ty000,ty100,ty200])
  | (exact finBq rfl rfl)
theorem truthX (t: DTy): PCall Tryz.prog 186 [t.enc] (.b (decide (t = tyB))) := by
 refine pcall_of_vc tabOK Tryz.func186 (by kernel_rfl) rfl pureL pureI (n := 6) rfl (rs := [.tmp 2]) rfl ?_
 repeat' first
  | exact finB rfl
  | exact finI rfl
  | exact finP rfl
  | exact absurd rfl (by assumption)
  | simp only [go_sem]
  | (intro _)
  | refine brK_dec (fun _ => ?_) (fun _ => ?_)
  | refine brK_any ?_ ?_
  | refine gK_dec (fun _ => ?_) (fun _ => ?_)
  | refine gK_any ?_ ?_
  | refine gqK_dec (fun _ => ?_) (fun _ => ?_)
  | refine ⟨by omega,?_⟩
  | refine elemHave (by omega) (by assumption) ?_
  | refine elemMap (by omega) (by omega) (fun x hx => ?_)
  | refine drawK mo (by kernel_rfl) ?_
  | (simp only [ty000,ty100,ty200])
  | (exact finBq rfl rfl)
theorem wholeX (t: DTy): PCall Tryz.prog 188 [t.enc] (.b (decide (t = tyI))) := by
 refine pcall_of_vc tabOK Tryz.func188 (by kernel_rfl) rfl pureL pureI (n := 6) rfl (rs := [.tmp 2]) rfl ?_
 repeat' first
  | exact finB rfl
  | exact finI rfl
  | exact finP rfl
  | exact absurd rfl (by assumption)
  | simp only [go_sem]
  | (intro _)
  | refine brK_dec (fun _ => ?_) (fun _ => ?_)
  | refine brK_any ?_ ?_
  | refine gK_dec (fun _ => ?_) (fun _ => ?_)
  | refine gK_any ?_ ?_
  | refine gqK_dec (fun _ => ?_) (fun _ => ?_)
  | refine ⟨by omega,?_⟩
  | refine elemHave (by omega) (by assumption) ?_
  | refine elemMap (by omega) (by omega) (fun x hx => ?_)
  | refine drawK mo (by kernel_rfl) ?_
  | (simp only [ty000,ty100,ty200])
  | (exact finBq rfl rfl)
theorem plainK (k: Int): PCall Tryz.prog 228 [.i k] (DTy.enc ⟨k,0,0⟩) := by
 refine pcall_of_vc tabOK Tryz.func228 (by kernel_rfl) rfl (by first | exact pureL | exact pureI) (by first | exact pureL | exact pureI) (n := 5) rfl (rs := [.cell 2 42]) rfl ?_
 simp only [go_sem]
 exact ⟨_,rfl,false,by rw [DTy.enc_eq]; exact .refl _⟩
theorem oneX (t: DTy): PCall Tryz.prog 187 [t.enc] (DTy.enc ⟨t.Kind,t.Enum,0⟩) := by
 refine pcall_of_vc tabOK Tryz.func187 (by kernel_rfl) rfl (by first | exact pureL | exact pureI) (by first | exact pureL | exact pureI) (n := 5) rfl (rs := [.cell 2 42]) rfl ?_
 simp only [go_sem]
 exact ⟨_,rfl,false,by rw [DTy.enc_eq]; exact .refl _⟩
theorem oneP (t: DTy): PCall Tryz.prog 272 [t.enc] (DTy.enc ⟨t.Kind,t.Enum,0⟩) := by
 refine pcall_of_vc tabOK Tryz.func272 (by kernel_rfl) rfl pureL pureI (n := 5) rfl (rs := [.cell 2 42]) rfl ?_
 simp only [go_sem]
 exact ⟨_,rfl,false,by rw [DTy.enc_eq]; exact .refl _⟩
theorem groupP (op: Int): PCall Tryz.prog 305 [.i op] (.i (groupF op)) := by
 refine pcall_of_vc tabOK Tryz.func305 (by kernel_rfl) rfl pureL pureI (n := 26) rfl (rs := [.tmp 2]) rfl ?_
 repeat' first
  | exact finB rfl
  | exact finI rfl
  | exact finP rfl
  | exact absurd rfl (by assumption)
  | simp only [go_sem]
  | (intro _)
  | refine brK_dec (fun _ => ?_) (fun _ => ?_)
  | refine brK_any ?_ ?_
  | refine gK_dec (fun _ => ?_) (fun _ => ?_)
  | refine gK_any ?_ ?_
  | refine gqK_dec (fun _ => ?_) (fun _ => ?_)
  | refine ⟨by omega,?_⟩
  | refine elemHave (by omega) (by assumption) ?_
  | refine elemMap (by omega) (by omega) (fun x hx => ?_)
  | refine drawK mo (by kernel_rfl) ?_
  | (exfalso; omega)
  | (refine finIq rfl ?_; unfold groupF; repeat' split <;> omega)
theorem unP (op: Int) (t: DTy): PCall Tryz.prog 269 [.i op,t.enc] (tyA (unT op t)) := by
 refine pcall_of_vc tabOK Tryz.func269 (by kernel_rfl) rfl (by first | exact pureL | exact pureI) (pure_tyA _) (n := 25) rfl (rs := [.cell 4 42,.tmp 5]) rfl ?_
 repeat' first
  | exact finB rfl
  | exact finI rfl
  | exact finP rfl
  | exact absurd rfl (by assumption)
  | simp only [go_sem]
  | (intro _)
  | refine brK_dec (fun _ => ?_) (fun _ => ?_)
  | refine brK_any ?_ ?_
  | refine gK_dec (fun _ => ?_) (fun _ => ?_)
  | refine gK_any ?_ ?_
  | refine gqK_dec (fun _ => ?_) (fun _ => ?_)
  | refine ⟨by omega,?_⟩
  | refine elemHave (by omega) (by assumption) ?_
  | refine elemMap (by omega) (by omega) (fun x hx => ?_)
  | refine drawK mo (by kernel_rfl) ?_
  | (exfalso; omega)
  | (simp only [ty000,ty100,ty200])
  | (exact finTy rfl (by simp [unT,*]))
theorem unX (op: Int) (t: DTy): PCall Tryz.prog 184 [.i op,t.enc] (tyA (unT op t)) := by
 refine pcall_of_vc tabOK Tryz.func184 (by kernel_rfl) rfl (by first | exact pureL | exact pureI) (pure_tyA _) (n := 24) rfl (rs := [.cell 4 42,.tmp 5]) rfl ?_
 repeat' first
  | exact finB rfl
  | exact finI rfl
  | exact finP rfl
  | exact absurd rfl (by assumption)
  | simp only [go_sem]
  | (intro _)
  | refine brK_dec (fun _ => ?_) (fun _ => ?_)
  | refine brK_any ?_ ?_
  | refine gK_dec (fun _ => ?_) (fun _ => ?_)
  | refine gK_any ?_ ?_
  | refine gqK_dec (fun _ => ?_) (fun _ => ?_)
  | refine ⟨by omega,?_⟩
  | refine elemHave (by omega) (by assumption) ?_
  | refine elemMap (by omega) (by omega) (fun x hx => ?_)
  | refine drawK mo (by kernel_rfl) ?_
  | (exfalso; omega)
  | (simp only [ty000,ty100,ty200])
  | (refine PCall.call (plainK _) ?_)
  | (refine pcK_of (plainK _) ?_)
  | (exact finTy rfl (by simp [unT,*]))
end Go.Proofs.YtpamokpmlplopaaGreatDoor
namespace Go.Proofs.YtpamokpmlplopaaGreatDoor
open Go.Abs
set_option maxRecDepth 20000
set_option linter.unusedSimpArgs false
set_option linter.unusedVariables false
set_option maxHeartbeats 1000000
attribute [local irreducible] vc vcOps vcStep vcGuard prK hrK gK gsK brK callK ElemK SeqK BlockK ScopeK OpsK CallK LoopK LoopGo finPost ACall PCall PCallE BCall vqOps vqStep vqGuard qrK heK pcK gqK gqsK QOpsK qcallK DrawK
theorem binP (op: Int) (t u: DTy): PCall Tryz.prog 270 [.i op,t.enc,u.enc] (tyA (binT op t u)) := by
 refine pcall_of_vc tabOK Tryz.func270 (by kernel_rfl) rfl (by first | exact pureL | exact pureI) (pure_tyA _) (n := 64) rfl (rs := [.cell 6 42,.tmp 7]) rfl ?_
 have hg: (groupF op = 1 ∧ 3 ≤ op ∧ op ≤ 7) ∨ (groupF op = 2 ∧ 8 ≤ op ∧ op ≤ 10) ∨ (groupF op = 4 ∧ (op = 11 ∨ op = 12)) ∨ (groupF op = 3 ∧ 13 ≤ op ∧ op ≤ 16) ∨ (groupF op = 0 ∧ (op < 3 ∨ 16 < op)) := by
  unfold groupF
  repeat' split
  all_goals omega
 generalize hG: groupF op = G at hg
 repeat' first
  | (exfalso; omega)
  | simp only [go_sem]
  | (intro _)
  | refine brK_dec (fun _ => ?_) (fun _ => ?_)
  | refine gK_dec (fun _ => ?_) (fun _ => ?_)
  | refine gqK_dec (fun _ => ?_) (fun _ => ?_)
  | refine drawC [5] mo (by kernel_rfl) ?_
  | (refine PCall.call (groupP op) ?_; rw [hG])
  | (simp only [ty000,ty100,ty200])
  | (refine finTy rfl ?_; unfold binT; have f1: 3 ≤ op ∧ op ≤ 7 := (by omega); have f2: ¬ 8 ≤ op := (by omega); have f3: ¬ 13 ≤ op := (by omega); have f4: ¬ (op = 11 ∨ op = 12) := (by omega); simp [*]; done)
  | (refine finTy rfl ?_; unfold binT; have f1: ¬ (3 ≤ op ∧ op ≤ 7) := (by omega); have f2: 8 ≤ op ∧ op ≤ 10 := (by omega); have f3: ¬ (13 ≤ op) := (by omega); have f4: ¬ (op = 11 ∨ op = 12) := (by omega); have f5: ¬ op ≤ 7 := (by omega); simp [*]; done)
  | (refine finTy rfl ?_; unfold binT; have f1: ¬ op ≤ 7 := (by omega); have f2: ¬ op ≤ 10 := (by omega); have f3: 13 ≤ op ∧ op ≤ 16 := (by omega); have f4: ¬ (op = 11 ∨ op = 12) := (by omega); simp [*]; done)
  | (have he: t = u := (by assumption); subst he; refine finTy rfl ?_; unfold binT; have f1: ¬ op ≤ 7 := (by omega); have f2: ¬ op ≤ 10 := (by omega); have f3: ¬ 13 ≤ op := (by omega); have f4: op = 11 ∨ op = 12 := (by omega); have f6: t.Len = 0 := (by omega); simp [*]; done)
  | (have he: t = u := (by assumption); subst he; refine finTy rfl ?_; unfold binT; have f1: ¬ op ≤ 7 := (by omega); have f2: ¬ op ≤ 10 := (by omega); have f3: ¬ 13 ≤ op := (by omega); have f4: op = 11 ∨ op = 12 := (by omega); have f6: ¬ t.Len = 0 := (by omega); simp [*]; done)
  | (refine finTy rfl ?_; unfold binT; have f1: ¬ op ≤ 7 := (by omega); have f2: ¬ op ≤ 10 := (by omega); have f3: ¬ 13 ≤ op := (by omega); have f4: op = 11 ∨ op = 12 := (by omega); simp [*]; done)
  | (refine finTy rfl ?_; unfold binT; have f1: ¬ (3 ≤ op ∧ op ≤ 7) := (by omega); have f2: ¬ (8 ≤ op ∧ op ≤ 10) := (by omega); have f3: ¬ (13 ≤ op ∧ op ≤ 16) := (by omega); have f4: ¬ (op = 11 ∨ op = 12) := (by omega); rw [if_neg (fun h => f1 ⟨h.1,h.2.1⟩),if_neg (fun h => by rcases h with h | h | h; exact f2 ⟨h.1,h.2.1⟩; exact f3 ⟨h.1,h.2.1⟩; exact f4 h.1)]; done)
end Go.Proofs.YtpamokpmlplopaaGreatDoor
namespace Go.Abs
open Go
theorem swap_sound {S S': Addr → Prop} {φ φ': Nat → Loc} {w w': World} {h h1 junk: List Blk} {e: TypeId} {sz n k: Nat} (hr: R S φ h w) (hr': R S' φ' (h1 ++ junk) w') (he: Ext S φ h w S' φ' (h1 ++ junk) w') (hc: Chg h.length h h1)
  (hk: (h1 ++ junk)[k]? = some (.tok e sz n)) (hkl: h.length ≤ k) :
  let φ'': Nat → Loc := fun j => if j < h.length then φ' j else if j = h.length then φ' k else .no
  R S' φ'' (h1 ++ [.tok e sz n]) w' ∧ Ext S φ h w S' φ'' (h1 ++ [.tok e sz n]) w' := by
 intro φ''
 obtain ⟨hl,hat⟩ := hc.at
 have hf: ∀ j,j < h.length → φ'' j = φ' j := fun j hj => by simp only [φ'']; rw [if_pos hj]
 have hmid: φ'' h.length = φ' k := by simp [φ'']
 have hno: ∀ j,h.length < j → φ'' j = .no := fun j hj => by simp only [φ'']; rw [if_neg (by omega),if_neg (by omega)]
 have hle: ∀ j,(φ j).le (φ'' j) := by
  intro j
  rcases Nat.lt_or_ge j h.length with g | g
  ·
   rw [hf j g]; exact he.loc j
  ·
   rw [hr.fresh j g]; trivial
 have hin: ∀ (j: Nat) y,(h1 ++ [Blk.tok e sz n])[j]? = some y → (j < h.length ∧ h1[j]? = some y ∧ (h1 ++ junk)[j]? = some y) ∨ (j = h.length ∧ y = .tok e sz n) := by
  intro j y hj
  rcases Nat.lt_or_ge j h1.length with g | g
  ·
   rw [List.getElem?_append_left g] at hj
   exact .inl ⟨by omega,hj,by rw [List.getElem?_append_left g]; exact hj⟩
  ·
   rw [List.getElem?_append_right g] at hj
   have: j - h1.length = 0 := by
    rcases Nat.eq_zero_or_pos (j - h1.length) with q | q
    ·
     exact q
    ·
     rw [List.getElem?_eq_none (by simp; omega)] at hj; cases hj
   rw [this] at hj
   simp at hj
   exact .inr ⟨by omega,hj.symm⟩
 have hlow: ∀ (j: Nat) y,h1[j]? = some y → BlwBlk h.length y := by
  intro j y hj
  rcases hat j y hj with g | g
  ·
   exact RB.blw (fun i hi => hr.fresh i hi) (hr.blk j _ g)
  ·
   exact g
 have hown: ∀ b,Owns φ'' (h1 ++ [.tok e sz n]) b → Owns φ' (h1 ++ junk) b := by
  rintro b ⟨j,x,hj,hb⟩
  rcases hin j x hj with ⟨g1,_,g2⟩ | ⟨rfl,rfl⟩
  ·
   exact ⟨j,x,g2,by rw [← hf j g1]; exact hb⟩
  ·
   exact ⟨k,_,hk,by rw [← hmid]; exact hb⟩
 refine ⟨⟨fun j x hj => ?_,fun j j' x x' b hj hj' hb hb' => ?_,hr'.bnd,fun j hj => hno j (by simp at hj; omega),fun x hx => ⟨(hr'.tab x hx).1,fun o => (hr'.tab x hx).2 (hown _ o)⟩⟩,⟨he.os,he.tape,he.output,he.size,he.keep,he.sub,he.cell,hle,he.new,fun b hb => he.own b (hown b hb)⟩⟩
 ·
  rcases hin j x hj with ⟨g1,g3,g2⟩ | ⟨rfl,rfl⟩
  ·
   exact RB.low hf g1 (hr'.blk j x g2) (hlow j x g3)
  ·
   obtain ⟨u,q1,q2⟩ := hr'.blk k _ hk
   exact ⟨u,by rw [hmid]; exact q1,q2⟩
 ·
  rcases hin j x hj with ⟨g1,_,g2⟩ | ⟨rfl,rfl⟩
  ·
   rw [hf j g1] at hb
   rcases hin j' x' hj' with ⟨q1,_,q2⟩ | ⟨rfl,rfl⟩
   ·
    rw [hf j' q1] at hb'
    exact hr'.inj j j' x x' b g2 q2 hb hb'
   ·
    rw [hmid] at hb'
    have := hr'.inj j k x _ b g2 hk hb hb'
    omega
  ·
   rw [hmid] at hb
   rcases hin j' x' hj' with ⟨q1,_,q2⟩ | ⟨rfl,rfl⟩
   ·
    rw [hf j' q1] at hb'
    have := hr'.inj k j' _ x' b hk q2 hb hb'
    omega
   ·
    rfl
section
variable {P: Program} {T: TypeId → TI} {s: List AV} {h: List Blk} {c: Code}
def FinT (T: TypeId → TI) (rs: List ResultVar) (h: List Blk) (e: TypeId) (sz: Nat) (l: List AV) (K: AV → List Blk → Prop) (s: List AV) (h': List Blk): Prop :=
 ∃ h1 junk k,resAV T s h' rs = some [.lst sz l (some k)] ∧ h' = h1 ++ junk ∧ Chg h.length h h1 ∧ h.length ≤ k ∧ h'[k]? = some (.tok e sz l.length) ∧ (∀ c ∈ flat l,Blw h.length c) ∧
  K (.lst sz l (some h.length)) (h1 ++ [.tok e sz l.length])
theorem acallT_of_vc (hT : TabOK P T) {f : FuncId} {fn : Func} (hf : P.funcs[f]? = some fn) (hname : (fn.name == "runtime.NumGoroutine") = false) (hb : fn.body = some c) {args : List AV} {K : AV → List Blk → Prop}
  {n: Nat} (hn: fn.ntmps = n) {rs: List ResultVar} (hrs: fn.results.toList = rs) {e: TypeId} {sz: Nat} {l: List AV}
  (hv: vc P T c (finPost (FinT T rs h e sz l K)) (args ++ List.replicate (n - args.length) (.tup [])) h): ACall P f args h K := by
 intro S φ w vs hr hargs
 refine ⟨run_callFunc hf hname (by rw [hb]; rfl) vs w,?_⟩
 have htmps: CAll S w φ (args ++ List.replicate (n - args.length) (.tup [])) (vs ++ Array.replicate (fn.ntmps - vs.size) undef) := by
  refine hargs.append ⟨by rw [Array.size_replicate,List.length_replicate,hn,hargs.1],fun i x v hx hv => ?_⟩
  rw [List.getElem?_replicate] at hx
  rw [Array.getElem?_replicate] at hv
  split at hx
  ·
   split at hv
   ·
    cases hx; cases hv; exact C.undef_
   ·
    cases hv
  ·
   cases hx
 refine calls_of_vc hT hf hb hv htmps hr ?_
 intro tmps s' h' S' φ' w' hG hs' hr' he
 revert hG
 rintro ⟨h1,junk,k,hl,rfl,hchg,hkl,hk,hbl,hKr⟩
 obtain ⟨k1,k2⟩ := swap_sound hr hr' he hchg hk hkl
 have g3 := results_plain hT hs' hr' (fn := fn) (a := { tmps := tmps,defers := [] }) (by rw [hrs]; exact hl)
 obtain ⟨v',e1,e2⟩ := g3
 refine ⟨v',e1,v',_,_,S',_,rfl,hKr,?_,k1,k2⟩
 have hlow: ∀ j,j < h.length → (fun j => if j < h.length then φ' j else if j = h.length then φ' k else Loc.no) j = φ' j := fun j hj => by simp [hj]
 have e3: C S' w' φ' (.lst sz l (some k)) v' := e2
 cases e3 with
 | lst _ _ _ a len cap u hlen hcap hmax hsz hm hc h1' ht =>
  exact .lst sz l _ a len cap u hlen hcap hmax hsz hm (fun j c hj => Blw.C hlow (hc j c hj) (hbl c (List.mem_of_getElem? hj))) h1' (by simpa [TokOK] using ht)
 | lstnil _ _ ht => exact .lstnil _ _ (by simpa [TokOK] using ht)
theorem ghost_tok (t: Nat) (e: TypeId) (sz: Nat) (ht: s[t]? = some (.raw (.slice none 0 0))): Ghost s h (s.set t (.lst sz [] (some h.length))) (h ++ [.tok e sz 0]) := by
 intro S φ w vs hs hr
 obtain ⟨k1,k2⟩ := hr.push (l := .tok 0 (.slice none 0 0)) (x := .tok e sz 0) (S' := S) (w' := w) rfl rfl rfl (Nat.le_refl _) (fun _ _ => rfl) (fun _ h => h) (fun _ h => .inl h) hr.bnd
  ⟨_,upd_same _ _ _,.inl ⟨rfl,rfl⟩⟩ (fun b hb => by simp [blockOf] at hb)
 refine ⟨S,_,?_,k1,k2⟩
 have hs' := k2.CAll hs
 obtain ⟨v,hv,hc⟩ := hs.at ht
 cases hc
 have := hs'.set t (C.lstnil (S := S) (w := w) sz (some h.length) ⟨_,_,upd_same _ _ _,Nat.le_refl _,fun _ => rfl⟩)
 have e: vs.setIfInBounds t (.slice none 0 0) = vs := by
  apply Array.ext
  ·
   simp
  ·
   intro i h1 h2
   by_cases ei: t = i
   ·
    subst ei
    have hv': vs[t] = .slice none 0 0 := by
     rw [Array.getElem?_eq_getElem h2] at hv
     exact Option.some.inj hv
    simp [hv']
   ·
    simp [h2,ei]
 rw [e] at this
 exact this
theorem R.recell {S: Addr → Prop} {φ: Nat → Loc} {w: World} {k: Nat} {t: TypeId} {cs cs': List AV} (r: R S φ h w) (hk: h[k]? = some (.cells t cs)) (hc: ∀ vs,CAll S w φ cs vs → CAll S w φ cs' vs) :
  R S φ (h.set k (.cells t cs')) w ∧ Ext S φ h w S φ (h.set k (.cells t cs')) w := by
 have hkl: k < h.length := by obtain ⟨a,_⟩ := List.getElem?_eq_some_iff.1 hk; exact a
 have hin: ∀ (j: Nat) x,(h.set k (.cells t cs'))[j]? = some x → (j = k ∧ x = .cells t cs') ∨ (j ≠ k ∧ h[j]? = some x) := by
  intro j x hj
  rw [List.getElem?_set] at hj
  split at hj
  ·
   rename_i e
   subst e
   cases hj
   exact .inl ⟨rfl,rfl⟩
  ·
   exact .inr ⟨fun e => by subst e; contradiction,hj⟩
 have hback: ∀ (j: Nat) x b,(h.set k (.cells t cs'))[j]? = some x → blockOf (φ j) x = some b → ∃ y,h[j]? = some y ∧ blockOf (φ j) y = some b := by
  intro j x b hj hb
  rcases hin j x hj with ⟨rfl,rfl⟩ | ⟨_,g⟩
  ·
   refine ⟨_,hk,?_⟩
   cases hl: φ j <;> rw [hl] at hb <;> simp [blockOf] at hb ⊢ <;> exact hb
  ·
   exact ⟨x,g,hb⟩
 refine ⟨⟨fun j x hj => ?_,fun j j' x x' b hj hj' hb hb' => ?_,r.bnd,fun j hj => r.fresh j (by simpa using hj),fun x hx => ⟨(r.tab x hx).1,fun ⟨j,y,hj,hb⟩ => by
  obtain ⟨z,g1,g2⟩ := hback j y _ hj hb
  exact (r.tab x hx).2 ⟨j,z,g1,g2⟩⟩⟩,⟨rfl,rfl,rfl,Nat.le_refl _,fun _ _ _ => rfl,fun _ h => h,fun _ _ => rfl,fun _ => Loc.le_refl _,fun _ h => .inl h,?_⟩⟩
 ·
  rcases hin j x hj with ⟨rfl,rfl⟩ | ⟨_,g⟩
  ·
   obtain ⟨b,vs,h1,h2,h3,h4,h5⟩ := r.blk j _ hk
   exact ⟨b,vs,h1,h2,hc vs h3,h4,h5⟩
  ·
   exact r.blk j x g
 ·
  obtain ⟨y,g1,g2⟩ := hback j x b hj hb
  obtain ⟨y',g3,g4⟩ := hback j' x' b hj' hb'
  exact r.inj j j' y y' b g1 g3 g2 g4
 ·
  rintro b ⟨j,x,hj,hb⟩
  obtain ⟨y,g1,g2⟩ := hback j x b hj hb
  exact .inl ⟨j,y,g1,g2⟩
theorem CAll.nil_tok {S: Addr → Prop} {φ: Nat → Loc} {w: World} {m i: Nat} {cs: List AV} {vs: Array Value} (sz: Nat) (hs: CAll S w φ cs vs) (ht: cs[i]? = some (.raw (.slice none 0 0))) (hm: TokOK φ (some m) 0 (.slice none 0 0)): CAll S w φ (cs.set i (.lst sz [] (some m))) vs := by
 obtain ⟨v,hv,hc⟩ := hs.at ht
 cases hc
 have := hs.set i (C.lstnil (S := S) (w := w) sz (some m) hm)
 have e: vs.setIfInBounds i (.slice none 0 0) = vs := by
  apply Array.ext
  ·
   simp
  ·
   intro j h1 h2
   by_cases ei: i = j
   ·
    subst ei
    have hv': vs[i] = .slice none 0 0 := by
     rw [Array.getElem?_eq_getElem h2] at hv
     exact Option.some.inj hv
    simp [hv']
   ·
    simp [h2,ei]
 rw [e] at this
 exact this
theorem ghost_cell (k i: Nat) (e: TypeId) (sz: Nat) {t: TypeId} {cs: List AV} (hk: h[k]? = some (.cells t cs)) (ht: cs[i]? = some (.raw (.slice none 0 0))) :
  Ghost s h s ((h ++ [Blk.tok e sz 0]).set k (Blk.cells t (cs.set i (.lst sz [] (some h.length))))) := by
 intro S φ w vs hs hr
 obtain ⟨k1,k2⟩ := hr.push (l := .tok 0 (.slice none 0 0)) (x := .tok e sz 0) (S' := S) (w' := w) rfl rfl rfl (Nat.le_refl _) (fun _ _ => rfl) (fun _ h => h) (fun _ h => .inl h) hr.bnd
  ⟨_,upd_same _ _ _,.inl ⟨rfl,rfl⟩⟩ (fun b hb => by simp [blockOf] at hb)
 obtain ⟨q1,q2⟩ := k1.recell (k := k) (t := t) (cs := cs) (cs' := cs.set i (.lst sz [] (some h.length)))
  (by rw [List.getElem?_append_left (by obtain ⟨a,_⟩ := List.getElem?_eq_some_iff.1 hk; exact a)]; exact hk)
  (fun vs hc => hc.nil_tok sz ht ⟨_,_,upd_same _ _ _,Nat.le_refl _,fun _ => rfl⟩)
 exact ⟨S,_,q2.CAll (k2.CAll hs),q1,k2.trans q2⟩
theorem tcall {f: FuncId} {args: List AV} {e: TypeId} {sz: Nat} {l: List AV} {K: AV → List Blk → Prop} (hv: ∀ KK: AV → List Blk → Prop,KK (.lst sz l (some 0)) [.tok e sz l.length] → ACall P f args [] KK)
  (pa: ∀ x ∈ args,Pure x) (pl: ∀ c ∈ flat l,Pure c) (hK: K (.lst sz l (some h.length)) (h ++ [.tok e sz l.length])): ACall P f args h K := by
 intro S φ w vs hr hargs
 obtain ⟨henter,hcalls⟩ := hv (fun r h' => r = .lst sz l (some 0) ∧ h' = [.tok e sz l.length]) ⟨rfl,rfl⟩ S (fun _ => .no) w vs (R.nil hr.bnd hr.tab.bare) (hargs.pure _ pa)
 refine ⟨henter,Calls.mono hcalls ?_⟩
 rintro e' w' ⟨v,r,h',S',φ',rfl,⟨rfl,rfl⟩,hc,hr',he⟩
 obtain ⟨u,q1,q2⟩ := hr'.blk 0 _ rfl
 obtain ⟨k1,k2⟩ := hr.push (l := φ' 0) (x := .tok e sz l.length) he.os he.tape he.output he.size (fun b hb => he.keep b hb no_owns) he.sub (fun a ha => (he.new a ha).imp_right (fun x => x.resolve_right no_owns)) hr'.bnd
  ⟨u,by rw [upd_same,q1],q2⟩ (fun b hb => (he.own b ⟨0,_,rfl,hb⟩).resolve_left no_owns)
 refine ⟨v,_,_,S',_,rfl,hK,?_,k1,k2⟩
 cases hc with
 | lst _ _ _ a len cap u hlen hcap hmax hsz hm hc h1' ht =>
  exact .lst sz l _ a len cap u hlen hcap hmax hsz hm (fun j c hj => (hc j c hj).pure _ (pl c (List.mem_of_getElem? hj))) h1' (by simpa [TokOK,upd_same] using ht)
 | lstnil _ _ ht => exact .lstnil _ _ (by simpa [TokOK,upd_same] using ht)
theorem finTk {rs: List ResultVar} {e: TypeId} {sz: Nat} {l l0: List AV} {k n: Nat} {h': List Blk} {KK: AV → List Blk → Prop} (hk0: KK (.lst sz l (some 0)) [.tok e sz l.length]) (hl: resAV T s h' rs = some [.lst sz l0 (some k)]) (hll: l0 = l) (hk: h'[k]? = some (.tok e sz n)) (hn: n = l.length)
  (hb: ∀ c ∈ flat l,Go.Abs.Pure c): FinT T rs [] e sz l KK s h' := by
 subst hll hn
 exact ⟨[],h',k,hl,rfl,.refl _ _,Nat.zero_le _,hk,fun c hc => Blw.pure (hb c hc),hk0⟩
attribute [irreducible] FinT
end
end Go.Abs
namespace Go.Proofs.YtpamokpmlplopaaGreatDoor
open Go.Abs
set_option maxRecDepth 20000
set_option linter.unusedSimpArgs false
set_option linter.unusedVariables false
set_option maxHeartbeats 1000000
attribute [local irreducible] vc vcOps vcStep vcGuard prK hrK gK gsK brK callK ElemK SeqK BlockK ScopeK OpsK CallK LoopK LoopGo finPost ACall PCall PCallE BCall vqOps vqStep vqGuard qrK heK pcK gqK gqsK QOpsK qcallK DrawK
theorem depth22: ∀ (e: Ex),(parts e).length ≤ 100000 → PCall Tryz.prog 166 [e.enc] (.i (depthE e: Nat)) := by
 intro e
 induction e using Ex.ind with
 | _ e ih =>
 intro hl
 refine pcall_of_vc tabOK Tryz.func166 (by kernel_rfl) rfl pureL pureI (n := 20) rfl (rs := [.tmp 2]) rfl ?_
 simp only [go_sem]
 intro _
 refine loop_frX [3,5,9,10,11,12,13,14,15,16,17] (fun m C => ∃ i: Nat,i ≤ e.subs.length ∧ m = e.subs.length - i ∧ C = [(9,.raw (.int .i64 (i: Nat))),(3,.raw (.int .i64 (depthL (e.subs.take i): Nat)))]) e.subs.length _ ⟨0,by omega,by omega,rfl⟩ (.cons rfl (.cons (by simp [depthL]) .nil)) ?_
 rintro m C j r ⟨i,hi,rfl,rfl⟩
 simp only [go_sem]
 refine brK_dec (fun hlt => ?_) (fun hge => ?_)
 ·
  simp only [go_sem]
  refine elemMap (by omega) (by omega) (fun x hx => ?_)
  have hx': e.subs[i]? = some x := by simpa using hx
  simp only [go_sem]
  refine PCall.call (ih x (List.mem_of_getElem? hx') (sub_small (List.mem_of_getElem? hx') hl)) ?_
  simp only [go_sem,max_step hx']
  exact loopFrX _ (by omega) _ ⟨i + 1,by omega,rfl,rfl⟩ (.next rfl (by omega) (.cons rfl .nil)) rfl (by first | rfl | (simp only [List.append_assoc,List.cons_append,List.nil_append]; rfl))
 ·
  have hie: i = e.subs.length := by omega
  subst hie
  have hd := depth_le e
  rw [depthE_eq] at hd ⊢
  rw [List.take_length]
  simp only [go_sem]
  rw [wrap_in _ (by omega) (by omega)]
  exact ⟨_,rfl,false,.refl _⟩
theorem right16 (e: Ex) (ho: okE e): PCall Tryz.prog 134 [e.enc] (.b (rightE e)) := by
 have hb: (parts e).length ≤ 100000 := by have := ho.1; omega
 refine pcall_of_vc tabOK Tryz.func134 (by kernel_rfl) rfl (by first | exact pureL | exact pureI) (.raw _) (n := 18) rfl (rs := [.cell 2 4]) rfl ?_
 unfold rightE
 simp only [go_sem]
 refine PCall.call (size20 e hb) ?_
 by_cases h1: (parts e).length ≤ 60 ∧ depthE e ≤ 12
 ·
  rw [decide_eq_true h1.1,decide_eq_true h1.2]
  simp only [go_sem]
  refine gK_dec (fun _ => by exfalso; omega) (fun _ => ?_)
  simp only [go_sem]
  refine PCall.call (depth22 e hb) ?_
  simp only [go_sem]
  refine brK_dec (fun _ => by exfalso; omega) (fun _ => ?_)
  simp only [go_sem]
  refine each28 e ?_
  simp only [go_sem]
  intro l
  refine each_range e 3 2 0 (fun n => ∀ y ∈ (parts e).take n,partE y = true) (fun n => [exBx e,.cells 4 [.b false],exBx e]) (fun _ => []) (fun h => (parts e).all partE = false ∧ h = [exBx e,.cells 4 [.b false],exBx e]) (fun _ => rfl) (fun _ => rfl) (fun _ h => by rw [h.2]; rfl) rfl rfl rfl rfl (by simp) (fun n z r K hz hi hK1 hK2 => ?_) (fun r hi => ?_) (fun n h' r hs => ?_)
  ·
   have hzm := List.mem_of_getElem? hz
   have hoz := ho.2 z hzm
   simp only [go_sem,setPs,roundA]
   try refine ⟨rfl,?_⟩
   try simp only [go_sem]
   refine PCall.call (part46 z (by omega)) ?_
   rw [part_same]
   cases hp: partE z with
   | true =>
    have hk := hK1 (take_all hi hz hp) [exBx z]
    simp only [go_sem,roundB]
    first | exact hk | (simpa using hk) | (refine ⟨rfl,?_⟩; simpa using hk)
   | false =>
    have hk := hK2 [exBx e,.cells 4 [.b false],exBx e] [exBx z] ⟨List.all_eq_false.2 ⟨z,hzm,by simp [hp]⟩,rfl⟩
    simp only [go_sem,roundB]
    first | exact hk | (simpa using hk) | (refine ⟨rfl,?_⟩; simpa using hk)
  ·
   rw [List.take_length] at hi
   rw [List.all_eq_true.2 hi]
   simp only [go_sem]
   exact ⟨_,rfl,false,.refl _⟩
  ·
   obtain ⟨hs,rfl⟩ := hs
   simp only [go_sem]
   rw [hs]
   exact ⟨_,rfl,false,.refl _⟩
 ·
  have hf: (decide ((parts e).length ≤ 60) && decide (depthE e ≤ 12)) = false := by
   by_cases q: (parts e).length ≤ 60
   ·
    have: ¬ depthE e ≤ 12 := fun q' => h1 ⟨q,q'⟩
    simp [this]
   ·
    simp [q]
  rw [hf,Bool.false_and]
  repeat' first
   | (exfalso; exact h1 ⟨by omega,by omega⟩)
   | simp only [go_sem]
   | refine brK_dec (fun _ => ?_) (fun _ => ?_)
   | refine gK_dec (fun _ => ?_) (fun _ => ?_)
   | refine PCall.call (depth22 e hb) ?_
   | exact ⟨_,rfl,false,.refl _⟩
theorem indexEn {l: List DEnum} {p: DEnum → Bool} {g: Nat} {first capt: List AV} {h: List Blk} {K: AV → List Blk → Prop} (hp: ∀ x ∈ l,∀ K: AV → List Blk → Prop,K (.b (p x)) h → ACall Tryz.prog g (first ++ DEnum.enc x :: capt) h K)
  (hK: K (.i (idxOf p l)) h): ACall Tryz.prog 325 [.lst 2 (l.map (DEnum.enc)) none,.fn (.func g) first capt] h K := by
 refine acall_of_vc tabOK Tryz.func325 (by kernel_rfl) rfl (n := 19) rfl (rs := [.tmp 4]) rfl ?_
 simp only [go_sem]
 intro hlen
 refine loop_frH [5,8,9,10,11,12,13,14,15,16,18] (fun n C => ∃ (i: Nat),i ≤ l.length ∧ n = l.length - i ∧ (∀ x ∈ l.take i,p x = false) ∧ C = [(8,.raw (.int .i64 (i: Nat)))]) l.length _ ⟨0,by omega,by omega,by simp,rfl⟩ (.cons rfl .nil) ?_
 rintro n C j ⟨i,hi,rfl,hp0,rfl⟩
 simp only [go_sem]
 refine brK_dec (fun hlt => ?_) (fun hge => ?_)
 ·
  simp only [go_sem]
  refine elemMap (by omega) (by omega) (fun x hx => ?_)
  simp only [go_sem]
  refine hp x (List.mem_of_getElem? hx) _ ?_
  simp only [go_sem]
  cases hb: p x with
  | true =>
   simp only [go_sem]
   rw [idxOf_at hp0 hx hb] at hK
   exact finH1 rfl (.raw _) hK
  | false =>
   simp only [go_sem]
   exact loopFrH (l.length - (i + 1)) (by omega) ⟨i + 1,by omega,rfl,take_all hp0 (by rw [Int.toNat_natCast] at hx; exact hx) hb,rfl⟩ (.next rfl (by omega) .nil) rfl
 ·
  simp only [go_sem]
  rw [idxOf_none (take_full hp0 (by omega))] at hK
  exact finH1 rfl (.raw _) hK
theorem containsEn {l: List DEnum} {p: DEnum → Bool} {g: Nat} {first capt: List AV} {h: List Blk} {K: AV → List Blk → Prop} (hp: ∀ x ∈ l,∀ K: AV → List Blk → Prop,K (.b (p x)) h → ACall Tryz.prog g (first ++ DEnum.enc x :: capt) h K)
  (hK: K (.b (l.any p)) h): ACall Tryz.prog 312 [.lst 2 (l.map (DEnum.enc)) none,.fn (.func g) first capt] h K := by
 refine acall_of_vc tabOK Tryz.func312 (by kernel_rfl) rfl (n := 9) rfl (rs := [.tmp 4]) rfl ?_
 simp only [go_sem]
 refine indexEn hp ?_
 simp only [go_sem]
 rw [idx_any]
 exact finH1 rfl (.raw _) hK
theorem containsDe {l: List DDecl} {p: DDecl → Bool} {g: Nat} {first capt: List AV} {h: List Blk} {K: AV → List Blk → Prop} (hp: ∀ x ∈ l,∀ K: AV → List Blk → Prop,K (.b (p x)) h → ACall Tryz.prog g (first ++ DDecl.enc x :: capt) h K)
  (hK: K (.b (l.any p)) h): ACall Tryz.prog 288 [.lst 6 (l.map (DDecl.enc)) none,.fn (.func g) first capt] h K := by
 refine acall_of_vc tabOK Tryz.func288 (by kernel_rfl) rfl (n := 9) rfl (rs := [.tmp 4]) rfl ?_
 simp only [go_sem]
 refine indexDecl hp ?_
 simp only [go_sem]
 rw [idx_any]
 exact finH1 rfl (.raw _) hK
theorem containsNo {l: List DNode} {p: DNode → Bool} {g: Nat} {first capt: List AV} {h: List Blk} {K: AV → List Blk → Prop} (hp: ∀ x ∈ l,∀ K: AV → List Blk → Prop,K (.b (p x)) h → ACall Tryz.prog g (first ++ DNode.enc x :: capt) h K)
  (hK: K (.b (l.any p)) h): ACall Tryz.prog 285 [.lst 5 (l.map (DNode.enc)) none,.fn (.func g) first capt] h K := by
 refine acall_of_vc tabOK Tryz.func285 (by kernel_rfl) rfl (n := 9) rfl (rs := [.tmp 4]) rfl ?_
 simp only [go_sem]
 refine indexNode hp ?_
 simp only [go_sem]
 rw [idx_any]
 exact finH1 rfl (.raw _) hK
theorem finHb {T: TypeId → TI} {s: List AV} {h: List Blk} {rs: List ResultVar} {K: AV → List Blk → Prop} {b c: Bool} (junk: List Blk) (hl: resAV T s (h ++ junk) rs = some [.b b]) (hK: K (.b c) h) (he: b = c): FinH T rs h K s (h ++ junk) := finH0 junk hl (.raw _) (he ▸ hK)
theorem great74 (l: List DEnum): PCall Tryz.prog 284 [.lst 2 (l.map DEnum.enc) none] (.b (greatE l)) := by
 refine pcall_of_vc tabOK Tryz.func284 (by kernel_rfl) rfl pureL pureI (n := 10) rfl (rs := [.tmp 2]) rfl ?_
 repeat' first
  | (exfalso; omega)
  | simp only [go_sem]
  | (intro _)
  | refine gK_dec (fun _ => ?_) (fun _ => ?_)
  | (refine containsEn (p := fun e => decide (e.Ctors.length > 6)) (fun x hx K hK => ?_) ?_
    ·
     refine acall_of_vc tabOK Tryz.func313 (by kernel_rfl) rfl (n := 7) rfl (rs := [.tmp 2]) rfl ?_
     simp only [go_sem]
     (try intro _)
     refine finHb _ rfl hK ?_
     exact decide_eq_decide.2 (by omega))
  | (refine finBq rfl ?_; unfold greatE; (try rw [decide_eq_true (p := l.length > 4) (by omega)]); (try rw [decide_eq_false (p := l.length > 4) (by omega)]); simp; done)
theorem rightTyP (l: List DEnum) (t: DTy): PCall Tryz.prog 315 [.lst 2 (l.map DEnum.enc) none,t.enc] (.b (rightTyF l.length t)) := by
 refine pcall_of_vc tabOK Tryz.func315 (by kernel_rfl) rfl pureL pureI (n := 33) rfl (rs := [.tmp 4]) rfl ?_
 repeat' first
  | exact finB rfl
  | exact finI rfl
  | exact finP rfl
  | exact absurd rfl (by assumption)
  | simp only [go_sem]
  | (intro _)
  | refine brK_dec (fun _ => ?_) (fun _ => ?_)
  | refine brK_any ?_ ?_
  | refine gK_dec (fun _ => ?_) (fun _ => ?_)
  | refine gK_any ?_ ?_
  | refine gqK_dec (fun _ => ?_) (fun _ => ?_)
  | refine ⟨by omega,?_⟩
  | refine elemHave (by omega) (by assumption) ?_
  | refine elemMap (by omega) (by omega) (fun x hx => ?_)
  | refine drawK mo (by kernel_rfl) ?_
  | (exfalso; omega)
  | (refine finBq rfl ?_; unfold rightTyF; exact (decide_eq_true (by omega)).symm)
  | (refine finBq rfl ?_; unfold rightTyF; exact (decide_eq_false (by omega)).symm)
  | (refine finBq rfl ?_; unfold rightTyF; exact decide_eq_decide.2 (by omega))
theorem armP (s: ByteArray): PCall Tryz.prog 316 [.s s] (.b (armE s)) := by
 refine pcall_of_vc tabOK Tryz.func316 (by kernel_rfl) rfl pureL pureI (n := 13) rfl (rs := [.tmp 2]) rfl ?_
 unfold armE
 repeat' first
  | exact finB rfl
  | exact finI rfl
  | exact finP rfl
  | exact absurd rfl (by assumption)
  | simp only [go_sem]
  | (intro _)
  | refine brK_dec (fun _ => ?_) (fun _ => ?_)
  | refine brK_split (fun hb_ => ?_) (fun hb_ => ?_)
  | refine gK_dec (fun _ => ?_) (fun _ => ?_)
  | refine gK_split (fun hb_ => ?_) (fun hb_ => ?_)
  | refine gqK_dec (fun _ => ?_) (fun _ => ?_)
  | refine ⟨by omega,?_⟩
  | refine elemHave (by omega) (by assumption) ?_
  | refine elemMap (by omega) (by omega) (fun x hx => ?_)
  | refine drawK mo (by kernel_rfl) ?_
  | (refine PCall.call (high8 s) ?_; generalize highF s = q; cases q)
  | (exact finBq rfl (by simp [*]))
theorem declared131 (L: List DEnum) (d: DDecl) {k: Nat} {h: List Blk} {K: AV → List Blk → Prop} (hk: h[k]? = some (.cells 22 [.lst 2 (L.map DEnum.enc) none])) (hK: K (.b (declaredF L.length d)) h): ACall Tryz.prog 314 [d.enc,.ptr k 0] h K := by
 have hkl := (List.getElem?_eq_some_iff.1 hk).1
 have hk1: ∀ r,(h ++ r)[k]? = some (.cells 22 [.lst 2 (L.map DEnum.enc) none]) := fun r => by rw [List.getElem?_append_left hkl]; exact hk
 refine acall_of_vc tabOK Tryz.func314 (by kernel_rfl) rfl (n := 35) rfl (rs := [.tmp 3]) rfl ?_
 repeat' first
  | simp only [go_sem,hk1]
  | refine brK_dec (fun _ => ?_) (fun _ => ?_)
  | refine gK_dec (fun _ => ?_) (fun _ => ?_)
  | refine brK_split (fun hb_ => ?_) (fun hb_ => ?_)
  | refine gK_split (fun hb_ => ?_) (fun hb_ => ?_)
  | ((fail_if_success (clear h1)); refine PCall.call (low6 d.Name) ?_; generalize h1: lowF d.Name = q; cases q)
  | (refine PCall.call (low6 d.On) ?_; generalize h2: lowF d.On = q; cases q)
  | (refine PCall.call (rightTyP L d.Ty) ?_; generalize h3: rightTyF L.length d.Ty = q; cases q)
  | (refine PCall.call (armP d.Ctor) ?_; generalize h4: armE d.Ctor = q; cases q)
  | (refine finHb _ rfl hK ?_; first | (simp only [declaredF,bareF,h1,h2,h3,h4]; simp [*]; done) | (simp only [declaredF,bareF,h1,h2,h3]; simp [*]; done) | (simp only [declaredF,bareF,h1,h3]; simp [*]; done) | (simp only [declaredF,bareF,h1]; simp [*]; done))
theorem equationP (q: DEq) (hq: okEq q): PCall Tryz.prog 289 [q.enc] (.b (eqF q)) := by
 refine pcall_of_vc tabOK Tryz.func289 (by kernel_rfl) rfl pureL pureI (n := 29) rfl (rs := [.tmp 2]) rfl ?_
 unfold eqF
 have hall: q.Names.all lowF = !(q.Names.any fun s => !lowF s) := List.all_eq_not_any_not
 rw [hall]
 repeat' first
  | (exfalso; omega)
  | simp only [go_sem]
  | (intro _)
  | refine brK_dec (fun _ => ?_) (fun _ => ?_)
  | refine gK_dec (fun _ => ?_) (fun _ => ?_)
  | refine brK_split (fun hb_ => ?_) (fun hb_ => ?_)
  | refine gK_split (fun hb_ => ?_) (fun hb_ => ?_)
  | (refine PCall.call (right16 q.E hq.2.1) ?_; generalize rightE q.E = b; cases b)
  | (refine containsStrR (p := fun s => !lowF s) (fun s hs K hK => ?_) ?_
    ·
     refine acall_of_vc tabOK Tryz.func317 (by kernel_rfl) rfl (n := 6) rfl (rs := [.tmp 2]) rfl ?_
     simp only [go_sem]
     refine PCall.call (low6 s) ?_
     simp only [go_sem]
     exact finH0 _ rfl (.raw _) hK
    generalize (q.Names.any fun s => !lowF s) = b
    cases b)
  | (refine finBq rfl ?_; (try rw [decide_eq_true (p := 0 < q.Names.length) (by omega)]); (try rw [decide_eq_false (p := 0 < q.Names.length) (by omega)]); (try rw [decide_eq_true (p := q.Names.length ≤ 1) (by omega)]); (try rw [decide_eq_false (p := q.Names.length ≤ 1) (by omega)]); (try rw [decide_eq_true (p := q.E.kind = 13) (by omega)]); (try rw [decide_eq_false (p := q.E.kind = 13) (by omega)]); simp [*]; done)
theorem bareP {l: List DDecl} {h: List Blk} {K: AV → List Blk → Prop} (hK: K (.b (l.any fun d => !(decide (d.On = ⟨#[]⟩)))) h): ACall Tryz.prog 288 [.lst 6 (l.map DDecl.enc) none,.fn (.func 287) [] []] h K := by
 refine containsDe (p := fun d => !(decide (d.On = ⟨#[]⟩))) (fun x hx K hK => ?_) hK
 refine acall_of_vc tabOK Tryz.func287 (by kernel_rfl) rfl (n := 6) rfl (rs := [.tmp 2]) rfl ?_
 simp only [go_sem]
 refine finHb _ rfl hK ?_
 simp
theorem indexTy {l: List DTy} {p: DTy → Bool} {g: Nat} {first capt: List AV} {h: List Blk} {K: AV → List Blk → Prop} (hp: ∀ x ∈ l,∀ K: AV → List Blk → Prop,K (.b (p x)) h → ACall Tryz.prog g (first ++ DTy.enc x :: capt) h K)
  (hK: K (.i (idxOf p l)) h): ACall Tryz.prog 266 [.lst 3 (l.map (DTy.enc)) none,.fn (.func g) first capt] h K := by
 refine acall_of_vc tabOK Tryz.func266 (by kernel_rfl) rfl (n := 19) rfl (rs := [.tmp 4]) rfl ?_
 simp only [go_sem]
 intro hlen
 refine loop_frH [5,8,9,10,11,12,13,14,15,16,18] (fun n C => ∃ (i: Nat),i ≤ l.length ∧ n = l.length - i ∧ (∀ x ∈ l.take i,p x = false) ∧ C = [(8,.raw (.int .i64 (i: Nat)))]) l.length _ ⟨0,by omega,by omega,by simp,rfl⟩ (.cons rfl .nil) ?_
 rintro n C j ⟨i,hi,rfl,hp0,rfl⟩
 simp only [go_sem]
 refine brK_dec (fun hlt => ?_) (fun hge => ?_)
 ·
  simp only [go_sem]
  refine elemMap (by omega) (by omega) (fun x hx => ?_)
  simp only [go_sem]
  refine hp x (List.mem_of_getElem? hx) _ ?_
  simp only [go_sem]
  cases hb: p x with
  | true =>
   simp only [go_sem]
   rw [idxOf_at hp0 hx hb] at hK
   exact finH1 rfl (.raw _) hK
  | false =>
   simp only [go_sem]
   exact loopFrH (l.length - (i + 1)) (by omega) ⟨i + 1,by omega,rfl,take_all hp0 (by rw [Int.toNat_natCast] at hx; exact hx) hb,rfl⟩ (.next rfl (by omega) .nil) rfl
 ·
  simp only [go_sem]
  rw [idxOf_none (take_full hp0 (by omega))] at hK
  exact finH1 rfl (.raw _) hK
theorem containsTy {l: List DTy} {p: DTy → Bool} {g: Nat} {first capt: List AV} {h: List Blk} {K: AV → List Blk → Prop} (hp: ∀ x ∈ l,∀ K: AV → List Blk → Prop,K (.b (p x)) h → ACall Tryz.prog g (first ++ DTy.enc x :: capt) h K)
  (hK: K (.b (l.any p)) h): ACall Tryz.prog 218 [.lst 3 (l.map (DTy.enc)) none,.fn (.func g) first capt] h K := by
 refine acall_of_vc tabOK Tryz.func218 (by kernel_rfl) rfl (n := 9) rfl (rs := [.tmp 4]) rfl ?_
 simp only [go_sem]
 refine indexTy hp ?_
 simp only [go_sem]
 rw [idx_any]
 exact finH1 rfl (.raw _) hK
theorem headD_at {l: List DTy} {x: DTy} (hx: l[((0: Int)).toNat]? = some x): l.headD ty0 = x := by
 match l with
 | y :: l => simp at hx; rw [hx]; rfl
theorem same170 (l: List DTy) (t: DTy) (hl: l ≠ []) {k: Nat} {h: List Blk} {K: AV → List Blk → Prop} (hk: h[k]? = some (.cells 191 [.lst 3 (l.map DTy.enc) none])) (hK: K (.b (!(decide (t = l.headD ty0)))) h): ACall Tryz.prog 219 [t.enc,.ptr k 0] h K := by
 have hkl := (List.getElem?_eq_some_iff.1 hk).1
 have hk1: ∀ r,(h ++ r)[k]? = some (.cells 191 [.lst 3 (l.map DTy.enc) none]) := fun r => by rw [List.getElem?_append_left hkl]; exact hk
 have hl0: 0 < l.length := List.length_pos_iff.2 hl
 refine acall_of_vc tabOK Tryz.func219 (by kernel_rfl) rfl (n := 9) rfl (rs := [.tmp 3]) rfl ?_
 simp only [go_sem,hk1]
 refine drawK mo (by kernel_rfl) ?_
 simp only [go_sem,hk1]
 refine elemMap (by omega) (by omega) (fun x hx => ?_)
 have hh := headD_at hx
 simp only [go_sem]
 refine finHb _ rfl hK ?_
 rw [hh]
 simp
theorem sameP (l: List DTy): PCall Tryz.prog 173 [.lst 3 (l.map DTy.enc) none] (.b (sameT l)) := by
 refine pcall_of_vc tabOK Tryz.func173 (by kernel_rfl) rfl pureL pureI (n := 7) rfl (rs := [.tmp 2]) rfl ?_
 simp only [go_sem]
 refine containsTy (p := fun t => !(decide (t = l.headD ty0))) (fun t ht K hK => same170 l t (List.ne_nil_of_mem ht) (k := 0) rfl hK) ?_
 simp only [go_sem]
 refine finBq rfl ?_
 unfold sameT
 rw [List.all_eq_not_any_not]
 simp
theorem allX (l: List DTy): PCall Tryz.prog 181 [.lst 3 (l.map DTy.enc) none] (.b (sameT l)) := by
 refine pcall_of_vc tabOK Tryz.func181 (by kernel_rfl) rfl pureL pureI (n := 18) rfl (rs := [.tmp 2]) rfl ?_
 simp only [go_sem]
 refine loop_frH [2,3,4,5,6,7,8,9,10,11,12,13,14,15,16,17] (fun m C => ∃ i: Nat,1 ≤ i ∧ (i ≤ l.length ∨ (l = [] ∧ i = 1)) ∧ m = l.length + 1 - i ∧ (∀ t ∈ l.take i,t = l.headD ty0) ∧ C = [(3,.raw (.int .i64 (i: Nat)))]) (l.length + 1 - 1) _ ⟨1,by omega,by cases l <;> simp,by omega,by cases l <;> simp,rfl⟩ (.cons rfl .nil) ?_
 rintro m C ja ⟨i,hi1,hi,rfl,hp,rfl⟩
 simp only [go_sem]
 intro _
 refine brK_dec (fun hlt => ?_) (fun hge => ?_)
 ·
  obtain ⟨x,hx⟩: ∃ x,l[i]? = some x := ⟨_,List.getElem?_eq_getElem (by omega)⟩
  obtain ⟨u,hu⟩: ∃ u,l[0]? = some u := ⟨_,List.getElem?_eq_getElem (by omega)⟩
  have hh := headD_at (l := l) (x := u) (by simpa using hu)
  repeat' first
   | simp only [go_sem]
   | refine drawK mo (by kernel_rfl) ?_
   | refine elemHave (x := x) (by omega) (by simpa using hx) ?_
   | refine elemHave (x := u) (by omega) (by simpa using hu) ?_
  refine brK_dec (fun he => ?_) (fun he => ?_)
  ·
   simp only [go_sem]
   exact finBq rfl (by unfold sameT; rw [List.all_eq_false.2 ⟨x,List.mem_of_getElem? hx,by rw [hh]; simpa using he⟩])
  ·
   simp only [go_sem]
   exact loopFrH _ (by omega) ⟨i + 1,by omega,.inl (by omega),rfl,take_all hp hx (by rw [hh]; exact Classical.not_not.1 he),rfl⟩ (.next rfl (by omega) .nil) rfl
 ·
  simp only [go_sem]
  exact finBq rfl (by unfold sameT; rw [List.all_eq_true.2 fun t ht => decide_eq_true (take_full hp (by omega) t ht)])
theorem literal51 (e: Ex): PCall Tryz.prog 227 [e.enc] (.b (litE e)) := by
 refine pcall_of_vc tabOK Tryz.func227 (by kernel_rfl) rfl pureL pureI (n := 36) rfl (rs := [.tmp 2]) rfl ?_
 repeat' first
  | (exfalso; omega)
  | simp only [go_sem]
  | (intro _)
  | refine brK_dec (fun _ => ?_) (fun _ => ?_)
  | refine gK_dec (fun _ => ?_) (fun _ => ?_)
  | refine elemMap (by omega) (by omega) (fun x hx => ?_)
  | (refine finBq rfl ?_; have hk := k0_at hx; simp [litE,*]; done)
  | (refine finBq rfl ?_; simp [litE,*]; done)
  | (refine finBq rfl ?_; have h1: ¬ e.subs.length = 1 := (by omega); simp [litE,*]; done)
  | (refine finBq rfl ?_; have h1: e.subs.length = 1 := (by omega); have hk := k0_at hx; simp [litE,*]; done)
theorem const19 (e: Ex): PCall Tryz.prog 178 [e.enc] (.b (constE e)) := by
 refine pcall_of_vc tabOK Tryz.func178 (by kernel_rfl) rfl pureL pureI (n := 23) rfl (rs := [.tmp 2]) rfl ?_
 repeat' first
  | exact finB rfl
  | exact finI rfl
  | exact finP rfl
  | exact absurd rfl (by assumption)
  | simp only [go_sem]
  | (intro _)
  | refine brK_dec (fun _ => ?_) (fun _ => ?_)
  | refine brK_any ?_ ?_
  | refine gK_dec (fun _ => ?_) (fun _ => ?_)
  | refine gK_any ?_ ?_
  | refine gqK_dec (fun _ => ?_) (fun _ => ?_)
  | refine ⟨by omega,?_⟩
  | refine elemHave (by omega) (by assumption) ?_
  | refine elemMap (by omega) (by omega) (fun x hx => ?_)
  | refine drawK mo (by kernel_rfl) ?_
  | ((fail_if_success (clear hx)); have hk14: ¬ e.kind = 14 := (by assumption); refine PCall.call (literal51 e) ?_)
  | (have hk14: e.kind = 14 := (by omega); refine PCall.call (literal51 x) ?_; generalize hpx: litE x = q; cases q)
  | (refine pcK_of (literal51 x) ?_; generalize hpx: litE x = q; cases q)
  | (refine finBq rfl ?_; simp [constE,*]; done)
  | (have hk14: e.kind = 14 := (by omega); refine finBq rfl ?_; unfold constE; rw [if_pos hk14]; first | (rw [List.all_eq_true.2 (take_full hpi (by omega))]) | (rw [List.all_eq_false.2 ⟨x,List.mem_of_getElem? hx,by simp [hpx]⟩]))
  | exact loopFrH _ (by omega) ⟨i + 1,by omega,rfl,take_all hpi (by simpa using hx) hpx,rfl⟩ (.next rfl (by omega) .nil) rfl
  | (refine loop_frH [2,3,9,10,11,12,13,14,15,16,17,18,19,20,21,22] (fun mm_ CC_ => ∃ (i: Nat),i ≤ e.subs.length ∧ mm_ = e.subs.length - i ∧ (∀ x ∈ e.subs.take i,litE x = true) ∧ CC_ = [(3,.raw (.int .i64 ((i: Nat): Int)))]) (e.subs.length) _ ⟨0,by omega,by omega,by simp,rfl⟩ (.cons rfl .nil) ?_; rintro mm_ CC_ ji ⟨i,hi,rfl,hpi,rfl⟩)
theorem numbers72 (e: Ex): PCall Tryz.prog 274 [e.enc] (.b (numbersE e)) := by
 refine pcall_of_vc tabOK Tryz.func274 (by kernel_rfl) rfl pureL pureI (n := 46) rfl (rs := [.tmp 2]) rfl ?_
 repeat' first
  | exact finB rfl
  | exact finI rfl
  | exact finP rfl
  | exact absurd rfl (by assumption)
  | simp only [go_sem]
  | (intro _)
  | refine brK_dec (fun _ => ?_) (fun _ => ?_)
  | refine brK_any ?_ ?_
  | refine gK_dec (fun _ => ?_) (fun _ => ?_)
  | refine gK_any ?_ ?_
  | refine gqK_dec (fun _ => ?_) (fun _ => ?_)
  | refine ⟨by omega,?_⟩
  | refine elemHave (by omega) (by assumption) ?_
  | refine elemMap (by omega) (by omega) (fun x hx => ?_)
  | refine drawK mo (by kernel_rfl) ?_
  | (exfalso; omega)
  | (refine finBq rfl ?_; simp [numbersE,*]; done)
  | (refine finBq rfl ?_; simp [numbersE,*] <;> omega)
  | (refine finBq rfl ?_; simp [numbersE,*]; intros; omega)
theorem named73 (e: Ex) (hn: e.name.size ≤ 1000000): PCall Tryz.prog 275 [e.enc] (.b (namedE e)) := by
 refine pcall_of_vc tabOK Tryz.func275 (by kernel_rfl) rfl pureL pureI (n := 26) rfl (rs := [.tmp 2]) rfl ?_
 repeat' first
  | exact finB rfl
  | exact finI rfl
  | exact finP rfl
  | exact absurd rfl (by assumption)
  | simp only [go_sem]
  | (intro _)
  | refine brK_dec (fun _ => ?_) (fun _ => ?_)
  | refine brK_any ?_ ?_
  | refine gK_dec (fun _ => ?_) (fun _ => ?_)
  | refine gK_any ?_ ?_
  | refine gqK_dec (fun _ => ?_) (fun _ => ?_)
  | refine ⟨by omega,?_⟩
  | refine elemHave (by omega) (by assumption) ?_
  | refine elemMap (by omega) (by omega) (fun x hx => ?_)
  | refine drawK mo (by kernel_rfl) ?_
  | (refine PCall.call (low_x _) ?_)
  | (refine PCall.call (high_x _) ?_)
  | (refine PCall.call (path_x _ hn) ?_)
  | (refine finBq rfl ?_; simp [namedE,*]; done)
theorem arm91x (s: ByteArray): PCall Tryz.prog 307 [.s s] (.b (armE s)) := by
 refine pcall_of_vc tabOK Tryz.func307 (by kernel_rfl) rfl pureL pureI (n := 13) rfl (rs := [.tmp 2]) rfl ?_
 unfold armE
 repeat' first
  | exact finB rfl
  | exact finI rfl
  | exact finP rfl
  | exact absurd rfl (by assumption)
  | simp only [go_sem]
  | (intro _)
  | refine brK_dec (fun _ => ?_) (fun _ => ?_)
  | refine brK_split (fun hb_ => ?_) (fun hb_ => ?_)
  | refine gK_dec (fun _ => ?_) (fun _ => ?_)
  | refine gK_split (fun hb_ => ?_) (fun hb_ => ?_)
  | refine gqK_dec (fun _ => ?_) (fun _ => ?_)
  | refine ⟨by omega,?_⟩
  | refine elemHave (by omega) (by assumption) ?_
  | refine elemMap (by omega) (by omega) (fun x hx => ?_)
  | refine drawK mo (by kernel_rfl) ?_
  | (refine PCall.call (high_x s) ?_; generalize highF s = q; cases q)
  | (exact finBq rfl (by simp [*]))
theorem pure_ii (a b: Int): Go.Abs.Pure (.tup [.i a,.i b]) := .tup _ (pure_cons (.raw _) (pure_cons (.raw _) pure_nil))
theorem finII {T: TypeId → TI} {rs: List ResultVar} {s: List AV} {h: List Blk} {p: Int × Int} {a b: Int} (hr: resAV T s h rs = some [.i a,.i b]) (hp: p = (a,b)): Go.Abs.Fin T rs (.tup [.i p.1,.i p.2]) s h := by
 subst hp
 exact ⟨_,hr,false,.refl _⟩
theorem subs75 (e: Ex) (h13: e.kind = 13 → e.n = 0 ∨ e.n = 1): PCall Tryz.prog 277 [e.enc] (.tup [.i (subsE e).1,.i (subsE e).2]) := by
 refine pcall_of_vc tabOK Tryz.func277 (by kernel_rfl) rfl (by first | exact pureL | exact pureI) (pure_ii _ _) (n := 35) rfl (rs := [.tmp 2,.tmp 3]) rfl ?_
 have hw: e.kind = 13 → IntKind.i64.wrap (6 + e.n) = 6 + e.n := fun h => by have := h13 h; rw [wrap_in _ (by omega) (by omega)]
 repeat' first
  | (exfalso; omega)
  | simp only [go_sem]
  | (intro _)
  | refine brK_dec (fun _ => ?_) (fun _ => ?_)
  | refine gK_dec (fun _ => ?_) (fun _ => ?_)
  | (refine drawK mo (by kernel_rfl) ?_)
  | (refine finII rfl ?_; simp [subsE,*]; done)
theorem arms74 (e: Ex): PCall Tryz.prog 276 [e.enc] (.b (armsE e)) := by
 refine pcall_of_vc tabOK Tryz.func276 (by kernel_rfl) rfl pureL pureI (n := 47) rfl (rs := [.tmp 2]) rfl ?_
 repeat' first
  | exact finB rfl
  | exact finI rfl
  | exact finP rfl
  | exact absurd rfl (by assumption)
  | simp only [go_sem]
  | (intro _)
  | refine brK_dec (fun _ => ?_) (fun _ => ?_)
  | refine brK_any ?_ ?_
  | refine gK_dec (fun _ => ?_) (fun _ => ?_)
  | refine gK_any ?_ ?_
  | refine gqK_dec (fun _ => ?_) (fun _ => ?_)
  | refine ⟨by omega,?_⟩
  | refine elemHave (by omega) (by assumption) ?_
  | refine elemMap (by omega) (by omega) (fun x hx => ?_)
  | refine drawK mo (by kernel_rfl) ?_
  | (exfalso; omega)
  | (refine PCall.call (arm91x x) ?_; generalize hpx: armE x = q; cases q)
  | (refine PCall.call (once_x e.arms) ?_; generalize ho: onceB e.arms = o; cases o)
  | (have hall: e.arms.all armE = false := List.all_eq_false.2 ⟨x,List.mem_of_getElem? hx,by simp [hpx]⟩; refine finBq rfl ?_; unfold armsE; rw [hall]; simp; done)
  | (have hall: e.arms.all armE = true := List.all_eq_true.2 (take_full hpi (by omega)); refine finBq rfl ?_; unfold armsE; rw [hall]; first | (simp [*]; done) | (simp [*]; omega))
  | exact loopFrH _ (by omega) ⟨i + 1,by omega,rfl,take_all hpi (by simpa using hx) hpx,rfl⟩ (.next rfl (by omega) .nil) rfl
  | (refine loop_frH [2,3,4,5,6,7,8,9,10,11,12,13,14,15,16,17] (fun mm_ CC_ => ∃ (i: Nat),i ≤ e.arms.length ∧ mm_ = e.arms.length - i ∧ (∀ x ∈ e.arms.take i,armE x = true) ∧ CC_ = [(3,.raw (.int .i64 ((i: Nat): Int)))]) (e.arms.length) _ ⟨0,by omega,by omega,by simp,rfl⟩ (.cons rfl .nil) ?_; rintro mm_ CC_ ji ⟨i,hi,rfl,hpi,rfl⟩)
theorem part47 (e: Ex) (hn: e.name.size ≤ 1000000): PCall Tryz.prog 226 [e.enc] (.b (partE e)) := by
 refine pcall_of_vc tabOK Tryz.func226 (by kernel_rfl) rfl pureL pureI (n := 57) rfl (rs := [.tmp 2]) rfl ?_
 have h8: e.kind = 8 → (subsE e).1 = 2 := fun h => by simp [subsE,h]
 have h13: numbersE e = true → e.kind = 13 → e.n = 0 ∨ e.n = 1 := fun h h13 => by
  simp [numbersE,h13] at h
  exact h.2
 unfold partE
 repeat' first
  | (exfalso; omega)
  | simp only [go_sem]
  | (intro _)
  | refine brK_dec (fun _ => ?_) (fun _ => ?_)
  | refine gK_dec (fun _ => ?_) (fun _ => ?_)
  | (refine PCall.call (numbers72 e) ?_; generalize hnu: numbersE e = q at h13 ⊢; cases q)
  | (refine PCall.call (named73 e hn) ?_; generalize namedE e = q; cases q)
  | (refine PCall.call (arms74 e) ?_; generalize armsE e = q; cases q)
  | (refine PCall.call (subs75 e (h13 rfl)) ?_; generalize subsE e = R at h8 ⊢; obtain ⟨lo,hi⟩ := R; dsimp only at h8)
  | refine elemMap (by omega) (by omega) (fun x hx => ?_)
  | (refine PCall.call (const19 _) ?_)
  | (refine finBq rfl ?_; simp [*]; done)
  | (refine finBq rfl ?_; have hk: ¬ (1 ≤ e.kind ∧ e.kind ≤ 17) := (by omega); simp [hk]; done)
  | (refine finBq rfl ?_; have hk: 1 ≤ e.kind ∧ e.kind ≤ 17 := (by omega); rw [decide_eq_true hk]; first | (simp [*]; done) | (rw [head_at hx]; simp [*]; done) | (simp [*]; omega))
theorem size21: ∀ (e: Ex),(parts e).length ≤ 100000 → PCall Tryz.prog 224 [e.enc] (.i ((parts e).length: Nat)) := by
 intro e
 induction e using Ex.ind with
 | _ e ih =>
 intro hl
 refine pcall_of_vc tabOK Tryz.func224 (by kernel_rfl) rfl pureL pureI (n := 21) rfl (rs := [.tmp 2]) rfl ?_
 have hp: (parts e).length = 1 + (partsL e.subs).length := by rw [parts_eq]; simp; omega
 simp only [go_sem]
 refine loop_frH [3,4,5,6,7,8,9,10,11,12,13,14,15,16,17,18,19] (fun m C => ∃ i: Nat,i ≤ e.subs.length ∧ m = e.subs.length - i ∧ C = [(4,.raw (.int .i64 (i: Nat))),(3,.raw (.int .i64 ((1 + (partsL (e.subs.take i)).length: Nat): Int)))]) e.subs.length _ ⟨0,by omega,by omega,rfl⟩ (.cons rfl (.cons (by simp [partsL]) .nil)) ?_
 rintro m C j ⟨i,hi,rfl,rfl⟩
 simp only [go_sem]
 intro _
 refine brK_dec (fun hlt => ?_) (fun hge => ?_)
 ·
  simp only [go_sem]
  refine elemMap (by omega) (by omega) (fun x hx => ?_)
  have hx': e.subs[i]? = some x := by simpa using hx
  simp only [go_sem]
  refine PCall.call (ih x (List.mem_of_getElem? hx') (sub_small (List.mem_of_getElem? hx') hl)) ?_
  have h1 := parts_len hx'
  have h2 := partsL_le (l := e.subs) (k := i + 1)
  have hw: IntKind.i64.wrap (((1 + (partsL (e.subs.take i)).length: Nat): Int) + ((parts x).length: Nat)) = ((1 + (partsL (e.subs.take (i + 1))).length: Nat): Int) := by rw [wrap_in _ (by omega) (by omega)]; omega
  simp only [go_sem,hw]
  exact loopFrH _ (by omega) ⟨i + 1,by omega,rfl,rfl⟩ (.next rfl (by omega) (.cons rfl .nil)) rfl
 ·
  have hie: i = e.subs.length := by omega
  subst hie
  rw [List.take_length,hp]
  simp only [go_sem]
  exact ⟨_,rfl,false,.refl _⟩
theorem depth23: ∀ (e: Ex),(parts e).length ≤ 100000 → PCall Tryz.prog 225 [e.enc] (.i (depthE e: Nat)) := by
 intro e
 induction e using Ex.ind with
 | _ e ih =>
 intro hl
 refine pcall_of_vc tabOK Tryz.func225 (by kernel_rfl) rfl pureL pureI (n := 22) rfl (rs := [.tmp 2]) rfl ?_
 simp only [go_sem]
 refine loop_frH [3,4,5,6,7,8,9,10,11,12,13,14,15,16,17,18,19] (fun m C => ∃ i: Nat,i ≤ e.subs.length ∧ m = e.subs.length - i ∧ C = [(4,.raw (.int .i64 (i: Nat))),(3,.raw (.int .i64 (depthL (e.subs.take i): Nat)))]) e.subs.length _ ⟨0,by omega,by omega,rfl⟩ (.cons rfl (.cons (by simp [depthL]) .nil)) ?_
 rintro m C j ⟨i,hi,rfl,rfl⟩
 simp only [go_sem]
 intro _
 refine brK_dec (fun hlt => ?_) (fun hge => ?_)
 ·
  simp only [go_sem]
  refine elemMap (by omega) (by omega) (fun x hx => ?_)
  have hx': e.subs[i]? = some x := by simpa using hx
  simp only [go_sem]
  refine PCall.call (ih x (List.mem_of_getElem? hx') (sub_small (List.mem_of_getElem? hx') hl)) ?_
  simp only [go_sem,max_step hx']
  exact loopFrH _ (by omega) ⟨i + 1,by omega,rfl,rfl⟩ (.next rfl (by omega) (.cons rfl .nil)) rfl
 ·
  have hie: i = e.subs.length := by omega
  subst hie
  have hd := depth_le e
  rw [depthE_eq] at hd ⊢
  rw [List.take_length]
  simp only [go_sem]
  rw [wrap_in _ (by omega) (by omega)]
  exact ⟨_,rfl,false,.refl _⟩
theorem right17x (e: Ex) (ho: okE e): PCall Tryz.prog 177 [e.enc] (.b (rightE e)) := by
 have hb: (parts e).length ≤ 100000 := by have := ho.1; omega
 refine pcall_of_vc tabOK Tryz.func177 (by kernel_rfl) rfl pureL pureI (n := 27) rfl (rs := [.tmp 2]) rfl ?_
 unfold rightE
 repeat' first
  | exact finB rfl
  | exact finI rfl
  | exact finP rfl
  | exact absurd rfl (by assumption)
  | simp only [go_sem]
  | (intro _)
  | refine brK_dec (fun _ => ?_) (fun _ => ?_)
  | refine brK_any ?_ ?_
  | refine gK_dec (fun _ => ?_) (fun _ => ?_)
  | refine gK_any ?_ ?_
  | refine gqK_dec (fun _ => ?_) (fun _ => ?_)
  | refine ⟨by omega,?_⟩
  | refine elemHave (by omega) (by assumption) ?_
  | refine elemMap (by omega) (by omega) (fun x hx => ?_)
  | refine drawK mo (by kernel_rfl) ?_
  | (exfalso; omega)
  | (refine PCall.call (size21 e hb) ?_)
  | (refine PCall.call (depth23 e hb) ?_)
  | (refine PCall.call (parts_spec e (by omega)) ?_)
  | (have hoz := ho.2 x (List.mem_of_getElem? hx); refine PCall.call (part47 x (by omega)) ?_; generalize hpx: partE x = q; cases q)
  | (have hk: ¬ (parts e).length ≤ 60 := (by omega); refine finBq rfl ?_; simp [hk]; done)
  | (have hk: ¬ depthE e ≤ 12 := (by omega); refine finBq rfl ?_; simp [hk]; done)
  | (have hk1: (parts e).length ≤ 60 := (by omega); have hk2: depthE e ≤ 12 := (by omega); refine finBq rfl ?_; rw [decide_eq_true hk1,decide_eq_true hk2]; first | (rw [List.all_eq_true.2 (take_full hpi (by omega))]; rfl) | (rw [List.all_eq_false.2 ⟨x,List.mem_of_getElem? hx,by simp [hpx]⟩]; rfl))
  | exact loopFrH _ (by omega) ⟨i + 1,by omega,rfl,take_all hpi (by simpa using hx) hpx,rfl⟩ (.next rfl (by omega) .nil) rfl
  | (refine loop_frH [2,4,15,16,17,18,19,20,21,22,23,24,25,26] (fun mm_ CC_ => ∃ (i: Nat),i ≤ (parts e).length ∧ mm_ = (parts e).length - i ∧ (∀ x ∈ (parts e).take i,partE x = true) ∧ CC_ = [(4,.raw (.int .i64 ((i: Nat): Int)))]) ((parts e).length) _ ⟨0,by omega,by omega,by simp,rfl⟩ (.cons rfl .nil) ?_; rintro mm_ CC_ ji ⟨i,hi,rfl,hpi,rfl⟩)
def n0: List Ex → Int
 | [] => 0
 | x :: _ => x.n
theorem n0_at {l: List Ex} {x: Ex} (hx: l[((0: Int)).toNat]? = some x): n0 l = x.n := by
 match l with
 | y :: l => simp at hx; rw [hx]; rfl
def litT (L: List DEnum) (e: Ex): Int × DTy × Bool :=
 if e.kind = 1 then (e.n,tyI,true) else if e.kind = 2 then (e.n,tyB,true) else if e.kind = 5 then (IntKind.i64.wrap (0 - n0 e.subs),tyI,true)
 else ((armF L e.name).2.1,(armF L e.name).1,(armF L e.name).2.2)
abbrev litA (q: Int × DTy × Bool): AV := .tup [.i q.1,q.2.1.enc,.b q.2.2]
theorem pure_litA (q: Int × DTy × Bool): Go.Abs.Pure (litA q) := .tup _ (pure_cons (.raw _) (pure_cons (DTy.pure _) (pure_cons (.raw _) pure_nil)))
theorem finLit {T: TypeId → TI} {rs: List ResultVar} {s: List AV} {h: List Blk} {q: Int × DTy × Bool} {v a b c: Int} {ok: Bool} (hr: resAV T s h rs = some [.i v,.agg [.i a,.i b,.i c],.b ok]) (hp: q = (v,⟨a,b,c⟩,ok)): Go.Abs.Fin T rs (litA q) s h := by
 subst hp
 exact ⟨_,hr,false,by rw [show litA (v,⟨a,b,c⟩,ok) = .tup [.i v,.agg [.i a,.i b,.i c],.b ok] by show AV.tup [_,DTy.enc _,_] = _; rw [DTy.enc_eq]]; exact .refl _⟩
theorem litP (L: List DEnum) (e: Ex) (h5: e.kind = 5 → 0 < e.subs.length): PCall Tryz.prog 172 [.lst 2 (L.map DEnum.enc) none,e.enc] (litA (litT L e)) := by
 refine pcall_of_vc tabOK Tryz.func172 (by kernel_rfl) rfl (by first | exact pureL | exact pureI) (pure_litA _) (n := 42) rfl (rs := [.tmp 4,.cell 5 42,.tmp 6]) rfl ?_
 repeat' first
  | exact finB rfl
  | exact finI rfl
  | exact finP rfl
  | exact absurd rfl (by assumption)
  | simp only [go_sem]
  | (intro _)
  | refine brK_dec (fun _ => ?_) (fun _ => ?_)
  | refine brK_any ?_ ?_
  | refine gK_dec (fun _ => ?_) (fun _ => ?_)
  | refine gK_any ?_ ?_
  | refine gqK_dec (fun _ => ?_) (fun _ => ?_)
  | refine ⟨by omega,?_⟩
  | refine elemHave (by omega) (by assumption) ?_
  | refine elemMap (by omega) (by omega) (fun x hx => ?_)
  | refine drawC [1] mo (by kernel_rfl) ?_
  | (exfalso; omega)
  | (refine PCall.call (arm146 L e.name) ?_; generalize hq: armF L e.name = q; obtain ⟨t,v,ok⟩ := q)
  | (have hk5: e.kind = 5 := (by omega); have hk6 := h5 hk5; refine elemMap (by omega) (by omega) (fun x hx => ?_))
  | (have hn := n0_at hx; exact finLit rfl (by simp [litT,*]))
  | (exact finLit rfl (by simp [litT,*]))
theorem litX (L: List DEnum) (e: Ex) (h5: e.kind = 5 → 0 < e.subs.length): PCall Tryz.prog 179 [.lst 2 (L.map DEnum.enc) none,e.enc] (litA (litT L e)) := by
 refine pcall_of_vc tabOK Tryz.func179 (by kernel_rfl) rfl (by first | exact pureL | exact pureI) (pure_litA _) (n := 42) rfl (rs := [.tmp 4,.cell 5 42,.tmp 6]) rfl ?_
 repeat' first
  | exact finB rfl
  | exact finI rfl
  | exact finP rfl
  | exact absurd rfl (by assumption)
  | simp only [go_sem]
  | (intro _)
  | refine brK_dec (fun _ => ?_) (fun _ => ?_)
  | refine brK_any ?_ ?_
  | refine gK_dec (fun _ => ?_) (fun _ => ?_)
  | refine gK_any ?_ ?_
  | refine gqK_dec (fun _ => ?_) (fun _ => ?_)
  | refine ⟨by omega,?_⟩
  | refine elemHave (by omega) (by assumption) ?_
  | refine elemMap (by omega) (by omega) (fun x hx => ?_)
  | refine drawC [1] mo (by kernel_rfl) ?_
  | (exfalso; omega)
  | (refine PCall.call (arm91 L e.name) ?_; generalize hq: armF L e.name = q; obtain ⟨t,v,ok⟩ := q)
  | (have hk5: e.kind = 5 := (by omega); have hk6 := h5 hk5; refine elemMap (by omega) (by omega) (fun x hx => ?_))
  | (have hn := n0_at hx; exact finLit rfl (by simp [litT,*]))
  | (exact finLit rfl (by simp [litT,*]))
end Go.Proofs.YtpamokpmlplopaaGreatDoor
