import Derived.Test.YtipcmpkihhfhcaaCtor2
namespace Go.Proofs.Ytipcmpkihhfhcaa
open Go.Abs
set_option maxRecDepth 20000
set_option linter.unusedSimpArgs false
set_option linter.unusedVariables false
set_option maxHeartbeats 1000000
attribute [local irreducible] vc vcOps vcStep vcGuard prK hrK gK gsK brK callK ElemK SeqK BlockK ScopeK OpsK CallK LoopK LoopGo finPost ACall PCall PCallE BCall vqOps vqStep vqGuard qrK heK pcK gqK gqsK QOpsK qcallK DrawK
theorem PCallE.one {P : Program} {f : FuncId} {args : List AV} {v : AV} {Kr : AV → Prop} (hp : PCallE P f args Kr) (hk : ∀ r, Kr r → r = v) (hv : Go.Abs.Pure v) : PCall P f args v := by
  unfold PCallE at hp
  unfold PCall
  refine ⟨hp.1, hv, fun S w vs hb hc => ?_⟩
  obtain ⟨h1, h2⟩ := hp.2 S w vs hb hc
  refine ⟨h1, Calls.mono h2 ?_⟩
  rintro e w' ⟨u, r, S', e1, hr, _, e3⟩
  rw [hk r hr] at e3
  exact ⟨u, S', e1, e3⟩
def ctorG (nm : ByteArray) : List DEnum → Nat → Int × Int × Bool
  | [], _ => (0, 0, false)
  | e :: l, i => match e.Ctors.findIdx? (fun c => decide (c = nm)) with
    | some k => ((i : Int), (k : Int), true)
    | none => ctorG nm l (i + 1)
theorem find_no {nm : ByteArray} {l : List ByteArray} (h : nm ∉ l) : l.findIdx? (fun c => decide (c = nm)) = none := by
  rw [List.findIdx?_eq_none_iff]
  intro x hx
  have : ¬ x = nm := fun e => h (e ▸ hx)
  simp [this]
theorem ctorG_no {nm : ByteArray} : ∀ {L : List DEnum} (n : Nat), (∀ e ∈ L, nm ∉ e.Ctors) → ctorG nm L n = (0, 0, false)
  | [], _, _ => rfl
  | e :: L, n, h => by
    rw [ctorG, find_no (h e List.mem_cons_self)]
    exact ctorG_no (n + 1) fun e' he => h e' (List.mem_cons_of_mem _ he)
theorem ctorG_at {nm : ByteArray} : ∀ {L : List DEnum} {i k : Nat} {e : DEnum} (n : Nat), L[i]? = some e → e.Ctors[k]? = some nm → NoC L nm i k → ctorG nm L n = (((n + i : Nat) : Int), (k : Int), true)
  | [], _, _, _, _, h, _, _ => by simp at h
  | e0 :: L, 0, k, e, n, h, hk, hN => by
    simp at h
    subst h
    have hf : e0.Ctors.findIdx? (fun c => decide (c = nm)) = some k := by
      rw [List.findIdx?_eq_some_iff_getElem]
      obtain ⟨hlt, hv⟩ := List.getElem?_eq_some_iff.1 hk
      refine ⟨hlt, by simp [hv], fun j hj => ?_⟩
      have := hN.2 e0 rfl
      have hne : ¬ e0.Ctors[j] = nm := fun q => this (List.mem_take_iff_getElem.2 ⟨j, by omega, q⟩)
      simp [hne]
    rw [ctorG, hf]
    rfl
  | e0 :: L, i + 1, k, e, n, h, hk, hN => by
    rw [ctorG, find_no (hN.1 0 e0 (by omega) rfl)]
    have := ctorG_at (L := L) (i := i) (k := k) (e := e) (n + 1) (by simpa using h) hk ⟨fun i' e' hi he => hN.1 (i' + 1) e' (by omega) (by simpa using he), fun e' he => hN.2 e' (by simpa using he)⟩
    dsimp only
    rw [this]
    simp
    omega
theorem ctorG_is {L : List DEnum} {nm : ByteArray} {a b : Int} {ok : Bool} (h : CtorIs L nm a b ok) : ctorG nm L 0 = (a, b, ok) := by
  rcases h with ⟨rfl, i, k, e, rfl, rfl, he, hc, hN⟩ | ⟨rfl, rfl, rfl, hno⟩
  · rw [ctorG_at 0 he hc hN]; simp
  · exact ctorG_no 0 hno
abbrev ctorA (p : Int × Int × Bool) : AV := .tup [.i p.1, .i p.2.1, .b p.2.2]
theorem pure_ctorA (p : Int × Int × Bool) : Go.Abs.Pure (ctorA p) := .tup _ (pure_cons (.raw _) (pure_cons (.raw _) (pure_cons (.raw _) pure_nil)))
theorem ctor153P (L : List DEnum) (nm : ByteArray) : PCall Try.prog 64 [.lst 2 (L.map DEnum.enc) none, .s nm] (ctorA (ctorG nm L 0)) :=
  PCallE.one (ctor153 L nm) (by rintro r ⟨a, b, ok, rfl, h⟩; rw [ctorG_is h]) (pure_ctorA _)
end Go.Proofs.Ytipcmpkihhfhcaa
