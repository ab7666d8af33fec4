/-
  Apart1, Apart2, Apart3, Apart4, Apart5, PrA, PrA2, PrA3, Reverse, Clock, Law12, Same2, PrAL: put together.
-/
import Derived.Test.YtkjfhhioomnbfaaGreatDoorUniA
import Derived.Test.YtkjfhhioomnbfaaGreatDoorUniB
import Derived.Test.YtkjfhhioomnbfaaGreatDoorUniC
import Derived.Test.YtkjfhhioomnbfaaGreatDoorUniD
namespace Go.Proofs.YtkjfhhioomnbfaaGreatDoor
open Go.Abs
set_option maxRecDepth 20000
set_option linter.unusedSimpArgs false
set_option linter.unusedVariables false
set_option maxHeartbeats 1000000
attribute [local irreducible] vc vcOps vcStep vcGuard prK hrK gK gsK brK callK ElemK SeqK BlockK ScopeK OpsK CallK LoopK LoopGo finPost ACall PCall PCallE BCall vqOps vqStep vqGuard qrK heK pcK gqK gqsK QOpsK qcallK DrawK
abbrev L8 := List UInt8
def ok8 (c : UInt8) : Bool := okB c.toNat
def stopL (r : L8) : Prop := ∀ c t, r = c :: t → ok8 c = false
def goodL (r : L8) : Prop := ∀ c t, r = c :: t → c = 32 ∨ c = 41 ∨ c = 44 ∨ c = 93
theorem stop_cons {c : UInt8} {t : L8} (h : ok8 c = false) : stopL (c :: t) := fun _ _ e => by cases e; exact h
theorem good_cons {c : UInt8} {t : L8} (h : c = 32 ∨ c = 41 ∨ c = 44 ∨ c = 93) : goodL (c :: t) := fun _ _ e => by cases e; exact h
theorem good_nil : goodL [] := fun _ _ e => by cases e
theorem tk_app {w r : L8} {p : UInt8 → Bool} (hw : ∀ c ∈ w, p c = true) (hr : ∀ c t, r = c :: t → p c = false) : (w ++ r).takeWhile p = w ∧ (w ++ r).dropWhile p = r := by
  induction w with
  | nil =>
    cases r with
    | nil => exact ⟨rfl, rfl⟩
    | cons c t => simp [hr c t rfl]
  | cons c w ih =>
    obtain ⟨h1, h2⟩ := ih fun x hx => hw x (List.mem_cons_of_mem _ hx)
    have hc := hw c List.mem_cons_self
    simp [hc, h1, h2]
def wants (w l : L8) : Option L8 := if l.take w.length = w then some (l.drop w.length) else none
theorem wants_app (w r : L8) : wants w (w ++ r) = some r := by simp [wants]
theorem wants1 (c : UInt8) (r : L8) : wants [c] (c :: r) = some r := wants_app [c] r
theorem wants1_ne {c d : UInt8} (r : L8) (h : d ≠ c) : wants [c] (d :: r) = none := by simp [wants, h]
abbrev sL (s : ByteArray) : L8 := s.data.toList
abbrev bL (l : L8) : ByteArray := ⟨l.toArray⟩
theorem bL_sL (s : ByteArray) : bL (sL s) = s := bytes_ext (by simp)
noncomputable def SE (e : Ex) : L8 := sL (showT e)
/-- The value of digits. -/
def valD (l : L8) : Nat := l.foldl (fun a c => a * 10 + (c.toNat - 48)) 0
theorem valD_snoc (l : L8) (c : UInt8) : valD (l ++ [c]) = valD l * 10 + (c.toNat - 48) := by simp [valD]
theorem dig8 {k : Nat} (h : k < 10) : (UInt8.ofNat (48 + k)).toNat = 48 + k := by
  rw [UInt8.toNat_ofNat']
  omega
theorem decDigits_val (u : Nat) : valD (Lib.decDigits u) = u := by
  induction u using Nat.strongRecOn with
  | _ u ih =>
  rw [Lib.decDigits]
  split
  · rename_i h
    show 0 * 10 + ((UInt8.ofNat (48 + u)).toNat - 48) = u
    rw [dig8 h]
    omega
  · rename_i h
    rw [valD_snoc, ih (u / 10) (by omega), dig8 (Nat.mod_lt _ (by decide))]
    omega
def isDig (c : UInt8) : Bool := inB 48 57 c.toNat
theorem decDigits_dig (u : Nat) : ∀ c ∈ Lib.decDigits u, isDig c = true := by
  induction u using Nat.strongRecOn with
  | _ u ih =>
  rw [Lib.decDigits]
  have hd : ∀ k : Nat, k < 10 → isDig (UInt8.ofNat (48 + k)) = true := fun k h => by
    unfold isDig inB
    rw [dig8 h]
    simp
    omega
  split
  · rename_i h
    intro c hc
    rw [List.mem_singleton.1 hc]
    exact hd u h
  · rename_i h
    intro c hc
    rcases List.mem_append.1 hc with q | q
    · exact ih (u / 10) (by omega) c q
    · rw [List.mem_singleton.1 q]
      exact hd _ (Nat.mod_lt _ (by decide))
theorem decDigits_ne (u : Nat) : Lib.decDigits u ≠ [] := by
  rw [Lib.decDigits]
  split <;> simp
/-- The reader. -/
def mkE (k n : Int) (nm : L8) (op : Int) (arms : List ByteArray) (subs : List Ex) : Ex := .mk k n (bL nm) op arms subs
abbrev Rdr := L8 → Option (Ex × L8)
def un1 (f : Rdr) (m : Ex → Ex) (cl : L8) (l : L8) : Option (Ex × L8) := (f l).bind fun p => (wants cl p.2).bind fun r => some (m p.1, r)
def items (f : Rdr) : Nat → L8 → Option (List Ex × L8)
  | 0, _ => none
  | k + 1, l => (f l).bind fun p => match p.2 with
    | 44 :: 32 :: r => (items f k r).bind fun q => some (p.1 :: q.1, q.2)
    | r => some ([p.1], r)
def args (f : Rdr) (l : L8) : Option (List Ex × L8) := match wants [41] l with
  | some r => some ([], r)
  | none => (items f 20 l).bind fun p => (wants [41] p.2).bind fun r => some (p.1, r)
def nameR (l : L8) : L8 × L8 := (l.takeWhile ok8, l.dropWhile ok8)
def whenR (t : Ex) (l : L8) : Option (Ex × L8) :=
  if (nameR l).1 = [110, 111, 116] then (wants [32] (nameR l).2).bind fun l1 => (wants [41] (nameR l1).2).bind fun r => some (mkE 11 0 (nameR l1).1 0 [tFalse] [t], r)
  else match wants [41] (nameR l).2 with
    | some r => some (mkE 11 0 (nameR l).1 0 [tTrue] [t], r)
    | none => (wants [40] (nameR l).2).bind fun l1 => (wants [41, 41] (nameR l1).2).bind fun r => some (mkE 11 0 (nameR l1).1 0 [bL (nameR l).1] [t], r)
def mergeR (f : Rdr) : Nat → L8 → Option ((List ByteArray × List Ex) × L8)
  | 0, _ => none
  | k + 1, l => match wants [41] l with
    | some r => some (([], []), r)
    | none => (wants [32, 40] l).bind fun l1 => (wants [32, 45, 62, 32] (nameR l1).2).bind fun l2 => (f l2).bind fun p => (wants [41] p.2).bind fun l3 => (mergeR f k l3).bind fun q => some ((bL (nameR l1).1 :: q.1.1, p.1 :: q.1.2), q.2)
def isSp (c : UInt8) : Bool := decide (c ≠ 32)
def opsL : List Int := [3, 4, 5, 6, 7, 8, 9, 10, 11, 12, 13, 14, 15, 16]
def opOf (u : L8) : Option Int := opsL.find? fun k => decide (sL (signT k) = u)
def binR (f : Rdr) (t : Ex) (u r : L8) : Option (Ex × L8) :=
  if u = [102, 98, 121] then un1 f (fun b => mkE 8 0 [] 0 [] [t, b]) [41] r
  else if u = [45, 62] then un1 f (fun b => mkE 9 0 [] 0 [] [t, b]) [41] r
  else if u = [119, 104, 101, 110] then whenR t r
  else if u = [119, 105, 116, 104] then (wants [91] r).bind fun r1 => (f r1).bind fun p => (wants [93, 32, 61, 32] p.2).bind fun r2 => un1 f (fun b => mkE 16 0 [] 0 [] [t, p.1, b]) [41] r2
  else if u = [101, 118, 101, 114, 121] then un1 f (fun b => .mk 13 1 t.name 0 [] (t.subs ++ [b])) [41] r
  else (opOf u).bind fun k => un1 f (fun b => mkE 6 0 [] k [] [t, b]) [41] r
def brackR (f : Rdr) (l : L8) : Option (Ex × L8) :=
  match wants [45] l with
  | some r => un1 f (fun b => mkE 5 0 [] 1 [] [b]) [41] r
  | none =>
    if (nameR l).1 = [110, 111, 116] then (wants [32] (nameR l).2).bind fun r => un1 f (fun b => mkE 5 0 [] 2 [] [b]) [41] r
    else if (nameR l).1 = [105, 102] then (wants [32] (nameR l).2).bind fun r => (f r).bind fun p => (wants [32, 116, 104, 101, 110, 32] p.2).bind fun r1 => (f r1).bind fun q => (wants [32, 101, 108, 115, 101, 32] q.2).bind fun r2 => un1 f (fun b => mkE 7 0 [] 0 [] [p.1, q.1, b]) [41] r2
    else if (nameR l).1 = [112, 114, 101] then (wants [32] (nameR l).2).bind fun r => un1 f (fun b => mkE 10 0 [] 0 [] [b]) [41] r
    else if (nameR l).1 = [109, 101, 114, 103, 101] then (wants [32] (nameR l).2).bind fun r => (mergeR f 10 (nameR r).2).bind fun q => some (mkE 12 0 (nameR r).1 0 q.1.1 q.1.2, q.2)
    else (f l).bind fun p => (wants [32] p.2).bind fun r => (wants [32] (r.dropWhile isSp)).bind fun r1 => binR f p.1 (r.takeWhile isSp) r1
def baseR (f : Rdr) : L8 → Option (Ex × L8)
  | [] => none
  | c :: l =>
    if c = 40 then brackR f l
    else if c = 91 then (items f 20 l).bind fun p => (wants [93] p.2).bind fun r => some (mkE 14 0 [] 0 [] p.1, r)
    else if c = 39 then (wants [39] (l.dropWhile fun c => decide (c ≠ 39))).bind fun r => some (mkE 17 0 (l.takeWhile fun c => decide (c ≠ 39)) 0 [] [], r)
    else if isDig c then some (mkE 1 (valD ((c :: l).takeWhile isDig)) [] 0 [] [], (c :: l).dropWhile isDig)
    else if inB 65 90 c.toNat then some (mkE 4 0 (nameR (c :: l)).1 0 [] [], (nameR (c :: l)).2)
    else if (nameR (c :: l)).1 = [116, 114, 117, 101] then some (mkE 2 1 [] 0 [] [], (nameR (c :: l)).2)
    else if (nameR (c :: l)).1 = [102, 97, 108, 115, 101] then some (mkE 2 0 [] 0 [] [], (nameR (c :: l)).2)
    else match wants [40] (nameR (c :: l)).2 with
      | some r => (args f r).bind fun p => some (mkE 13 0 (nameR (c :: l)).1 0 [] p.1, p.2)
      | none => some (mkE 3 0 (nameR (c :: l)).1 0 [] [], (nameR (c :: l)).2)
def postR (f : Rdr) : Nat → Ex → L8 → Option (Ex × L8)
  | 0, e, l => some (e, l)
  | k + 1, e, l => match wants [91] l with
    | some r => (f r).bind fun p => (wants [93] p.2).bind fun r1 => postR f k (mkE 15 0 [] 0 [] [e, p.1]) r1
    | none => some (e, l)
def rdR : Nat → Rdr
  | 0 => fun _ => none
  | n + 1 => fun l => (baseR (rdR n) l).bind fun p => postR (rdR n) n p.1 p.2
theorem name_facts {F : Int → Bool} {s : ByteArray} (h : nameG F s = true) : (∀ c ∈ sL s, ok8 c = true) ∧ ∃ c t, sL s = c :: t ∧ F c.toNat = true := by
  unfold nameG at h
  simp only [Bool.and_eq_true, decide_eq_true_eq, List.all_eq_true] at h
  obtain ⟨⟨⟨h1, h2⟩, h3⟩, h4⟩ := h
  refine ⟨fun c hc => h4 c hc, ?_⟩
  have h3' : firstB F (sL s) = true := h3
  generalize sL s = l at h3'
  match l, h3' with
  | c :: t, h => exact ⟨c, t, rfl, h⟩
theorem low_facts {s : ByteArray} (h : lowF s = true) : (∀ c ∈ sL s, ok8 c = true) ∧ (∃ c t, sL s = c :: t ∧ inB 97 122 c.toNat = true) ∧ ∀ w ∈ words, s ≠ w := by
  unfold lowF at h
  simp only [Bool.and_eq_true, Bool.not_eq_true'] at h
  obtain ⟨h1, h2⟩ := name_facts h.1
  refine ⟨h1, h2, fun w hw e => ?_⟩
  have h3 := h.2
  unfold wordF at h3
  rw [List.any_eq_false] at h3
  exact h3 w hw (by simp [e])
theorem split_mem {c x : UInt8} : ∀ {l : List UInt8}, x ∈ l → x = c ∨ ∃ p ∈ splitL c l, x ∈ p
  | [], h => by cases h
  | y :: l, h => by
    rw [splitL]
    split
    · rename_i hy
      rcases List.mem_cons.1 h with rfl | h
      · exact .inl hy
      · rcases split_mem (c := c) h with q | ⟨p, hp, hx⟩
        · exact .inl q
        · exact .inr ⟨p, List.mem_cons_of_mem _ hp, hx⟩
    · have hne := splitL_ne c l
      split
      · rename_i q; exact absurd q hne
      · rename_i z zs hz
        rcases List.mem_cons.1 h with rfl | h
        · exact .inr ⟨_, List.mem_cons_self, List.mem_cons_self⟩
        · rcases split_mem (c := c) h with q | ⟨p, hp, hx⟩
          · exact .inl q
          · rw [hz] at hp
            rcases List.mem_cons.1 hp with rfl | hp
            · exact .inr ⟨_, List.mem_cons_self, List.mem_cons_of_mem _ hx⟩
            · exact .inr ⟨p, List.mem_cons_of_mem _ hp, hx⟩
theorem piece_mem {c x : UInt8} {s : ByteArray} (h : x ∈ sL s) : x = c ∨ ∃ p ∈ pieces c s, x ∈ sL p := by
  rcases split_mem (c := c) h with q | ⟨p, hp, hx⟩
  · exact .inl q
  · exact .inr ⟨⟨p.toArray⟩, List.mem_map.2 ⟨p, hp, rfl⟩, by simpa using hx⟩
theorem numG_ok {s : ByteArray} (h : numG s = true) : ∀ c ∈ sL s, c ≠ 39 := by
  unfold numG at h
  simp only [Bool.and_eq_true, List.all_eq_true] at h
  rintro c hc rfl
  exact absurd (h.2 39 hc) (by decide)
theorem low_no39 {s : ByteArray} (h : lowF s = true) : ∀ c ∈ sL s, c ≠ 39 := by
  rintro c hc rfl
  exact absurd ((low_facts h).1 39 hc) (by decide)
theorem part_no39 {s : ByteArray} (h : partF s = true) : ∀ c ∈ sL s, c ≠ 39 := by
  rintro c hc rfl
  rcases piece_mem (c := 46) hc with q | ⟨p, hp, hx⟩
  · exact absurd q (by decide)
  · unfold partF at h
    split at h
    · rename_i p' e
      rw [e] at hp
      rw [List.mem_singleton.1 hp] at hx
      exact low_no39 h 39 hx rfl
    · rename_i p' q' e
      rw [e] at hp
      rw [Bool.and_eq_true] at h
      rcases List.mem_cons.1 hp with rfl | hp
      · exact low_no39 h.1 39 hx rfl
      · rw [List.mem_singleton.1 hp] at hx
        exact numG_ok h.2 39 hx rfl
    · cases h
theorem path_no39 {s : ByteArray} (h : pathF s = true) : ∀ c ∈ sL s, c ≠ 39 := by
  rintro c hc rfl
  rcases piece_mem (c := 47) hc with q | ⟨p, hp, hx⟩
  · exact absurd q (by decide)
  · unfold pathF at h
    exact part_no39 (List.all_eq_true.1 h p hp) 39 hx rfl
theorem nameR_app {w r : L8} (hw : ∀ c ∈ w, ok8 c = true) (hr : stopL r) : nameR (w ++ r) = (w, r) := by
  obtain ⟨h1, h2⟩ := tk_app (p := ok8) hw hr
  unfold nameR
  rw [h1, h2]
def Rd (f : Rdr) (x : Ex) : Prop := ∀ r, goodL r → f (SE x ++ r) = some (x, r)
theorem un1_ok {f : Rdr} {x : Ex} (h : Rd f x) (m : Ex → Ex) (r : L8) : un1 f m [41] (SE x ++ 41 :: r) = some (m x, r) := by
  unfold un1
  rw [h _ (good_cons (by simp))]
  simp [wants1]
noncomputable def JL (l : List Ex) : L8 := sL (joinB (showL l) ⟨#[44, 32]⟩)
theorem JL_nil : JL [] = [] := rfl
theorem JL_one (x : Ex) : JL [x] = SE x := by unfold JL; rw [showL, showL, joinB_one]; rfl
theorem JL_cons (x y : Ex) (l : List Ex) : JL (x :: y :: l) = SE x ++ 44 :: 32 :: JL (y :: l) := by
  unfold JL
  rw [showL, showL, joinB_cons]
  simp only [sL, app_list]
  rfl
theorem items_ok {f : Rdr} {c : UInt8} (hc : c = 41 ∨ c = 93) (r : L8) : ∀ {l : List Ex} {k : Nat}, l ≠ [] → (∀ x ∈ l, Rd f x) → l.length ≤ k → items f k (JL l ++ c :: r) = some (l, c :: r)
  | [], _, h, _, _ => absurd rfl h
  | [x], 0, _, _, hk => by simp at hk
  | [x], k + 1, _, h, _ => by
    rw [JL_one, items, h x List.mem_cons_self _ (good_cons (by rcases hc with rfl | rfl <;> simp))]
    simp only [Option.bind_some]
    rcases hc with rfl | rfl <;> rfl
  | x :: y :: l, 0, _, _, hk => by simp at hk
  | x :: y :: l, k + 1, _, h, hk => by
    rw [JL_cons, List.append_assoc, items, List.cons_append, List.cons_append, h x List.mem_cons_self _ (good_cons (by simp))]
    simp only [Option.bind_some]
    rw [items_ok hc r (by simp) (fun z hz => h z (List.mem_cons_of_mem _ hz)) (by simp at hk ⊢; omega)]
    rfl
/-- How a text begins. -/
def HdL (l : L8) : Prop := ∀ r, stopL r → (∃ c t, l ++ r = c :: t ∧ c ≠ 45 ∧ c ≠ 41) ∧ ∀ w ∈ ([[110, 111, 116], [105, 102], [112, 114, 101], [109, 101, 114, 103, 101]] : List L8), (nameR (l ++ r)).1 ≠ w
theorem hd_no {c : UInt8} {t : L8} (h1 : c ≠ 45) (h2 : c ≠ 41) (h3 : ∀ w ∈ ([[110, 111, 116], [105, 102], [112, 114, 101], [109, 101, 114, 103, 101]] : List L8), ∀ d u, w = d :: u → ok8 c = true → c ≠ d) : HdL (c :: t) := by
  intro r hr
  refine ⟨⟨c, _, rfl, h1, h2⟩, fun w hw e => ?_⟩
  unfold nameR at e
  rw [List.cons_append] at e
  cases ho : ok8 c with
  | false =>
    simp [ho] at e
    subst e
    simp at hw
  | true =>
    simp [ho] at e
    exact h3 w hw _ _ e.symm ho rfl
theorem hd_low {s : ByteArray} {t : L8} (h : lowF s = true) (ht : stopL t) (hn : t = [] ∨ ∃ c u, t = c :: u ∧ ok8 c = false) : HdL (sL s ++ t) := by
  obtain ⟨h1, ⟨c, u, hs, hc⟩, hw⟩ := low_facts h
  intro r hr
  have hst : stopL (t ++ r) := by
    rcases hn with rfl | ⟨d, u', rfl, hd⟩
    · exact hr
    · exact stop_cons hd
  rw [List.append_assoc]
  refine ⟨⟨c, u ++ (t ++ r), by rw [hs]; rfl, ?_, ?_⟩, fun w hw' e => ?_⟩
  · rintro rfl; exact absurd hc (by decide)
  · rintro rfl; exact absurd hc (by decide)
  · rw [nameR_app h1 hst] at e
    simp only at e
    have he : s = bL w := by rw [← e, bL_sL]
    refine hw (bL w) ?_ he
    simp only [List.mem_cons, List.not_mem_nil, or_false] at hw'
    rcases hw' with rfl | rfl | rfl | rfl
    · exact List.mem_of_getElem? (i := 14) rfl
    · exact List.mem_of_getElem? (i := 6) rfl
    · exact List.mem_of_getElem? (i := 10) rfl
    · exact List.mem_of_getElem? (i := 12) rfl
theorem hd_app {l t : L8} (h : HdL l) (ht : stopL t) (hne : t ≠ []) : HdL (l ++ t) := by
  intro r hr
  rw [List.append_assoc]
  refine h (t ++ r) ?_
  intro c u e
  match t, hne with
  | d :: t, _ =>
    rw [List.cons_append] at e
    cases e
    exact ht _ _ rfl
def good2 (r : L8) : Prop := ∀ c t, r = c :: t → c = 32 ∨ c = 41 ∨ c = 44 ∨ c = 93 ∨ c = 91
theorem good_good2 {r : L8} (h : goodL r) : good2 r := fun c t e => by rcases h c t e with q | q | q | q <;> simp [q]
theorem good2_stop {r : L8} (h : good2 r) : stopL r := fun c t e => by
  rcases h c t e with rfl | rfl | rfl | rfl | rfl <;> decide
theorem good2_no40 {r : L8} (h : good2 r) : wants [40] r = none := by
  cases r with
  | nil => rfl
  | cons c t =>
    refine wants1_ne t ?_
    rcases h c t rfl with rfl | rfl | rfl | rfl | rfl <;> decide
theorem part_can {e : Ex} (h : partE e = true) :
    (¬ e.kind = 1 → ¬ e.kind = 2 → ¬ e.kind = 13 → e.n = 0) ∧ (e.kind = 1 → 0 ≤ e.n) ∧ (e.kind = 2 ∨ e.kind = 13 → e.n = 0 ∨ e.n = 1) ∧
    (¬ e.kind = 5 → ¬ e.kind = 6 → e.op = 0) ∧ (e.kind = 5 → 1 ≤ e.op ∧ e.op ≤ 2) ∧ (e.kind = 6 → 3 ≤ e.op ∧ e.op ≤ 16) ∧
    (e.kind = 3 ∨ e.kind = 11 ∨ e.kind = 12 ∨ e.kind = 13 → lowF e.name = true) ∧ (e.kind = 4 → highF e.name = true) ∧ (e.kind = 17 → pathF e.name = true) ∧
    (¬ (e.kind = 3 ∨ e.kind = 11 ∨ e.kind = 12 ∨ e.kind = 13) → ¬ e.kind = 4 → ¬ e.kind = 17 → e.name = ⟨#[]⟩) ∧
    (∀ a ∈ e.arms, armE a = true) ∧ (¬ e.kind = 11 → ¬ e.kind = 12 → e.arms = []) := by
  have hm := part_more h
  unfold partE at h
  simp only [Bool.and_eq_true, decide_eq_true_eq] at h
  obtain ⟨⟨⟨⟨⟨⟨hk, hn⟩, hnm⟩, ha⟩, _⟩, _⟩, _⟩ := h
  unfold numbersE at hn
  unfold namedE at hnm
  unfold armsE at ha
  simp only [Bool.and_eq_true, List.all_eq_true] at hn ha
  refine ⟨fun h1 h2 h3 => ?_, fun k => ?_, fun k => ?_, fun h1 h2 => ?_, fun k => ?_, fun k => ?_, fun k => ?_, fun k => ?_, fun k => ?_, fun h1 h2 h3 => ?_, fun a q => ha.1 a q, fun h1 h2 => List.length_eq_zero_iff.1 (hm.2.2.2.2.2.1 h1 h2)⟩
  · have := hn.2
    rw [if_neg h1, if_neg (by omega)] at this
    exact of_decide_eq_true this
  · have := hn.2
    rw [if_pos k] at this
    exact of_decide_eq_true this
  · have := hn.2
    rw [if_neg (by omega), if_pos k] at this
    exact of_decide_eq_true this
  · have := hn.1
    rw [if_neg h1, if_neg h2] at this
    exact of_decide_eq_true this
  · have := hn.1
    rw [if_pos k] at this
    exact of_decide_eq_true this
  · have := hn.1
    rw [if_neg (by omega), if_pos k] at this
    exact of_decide_eq_true this
  · rw [if_pos k] at hnm; exact hnm
  · rw [if_neg (by omega), if_pos k] at hnm; exact hnm
  · rw [if_neg (by omega), if_neg (by omega), if_pos k] at hnm; exact hnm
  · rw [if_neg h1, if_neg h2, if_neg h3] at hnm; exact of_decide_eq_true hnm
theorem infix_ok {f : Rdr} {l u : L8} {a : Ex} (hl : ∀ r, goodL r → f (l ++ r) = some (a, r)) (hd : HdL l) (hu : ∀ c ∈ u, isSp c = true) (rest : L8) : brackR f (l ++ 32 :: (u ++ 32 :: rest)) = binR f a u rest := by
  obtain ⟨⟨c, t, he, h1, _⟩, h2⟩ := hd (32 :: (u ++ 32 :: rest)) (stop_cons (by decide))
  have hw : wants [45] (l ++ 32 :: (u ++ 32 :: rest)) = none := by rw [he]; exact wants1_ne t h1
  obtain ⟨h3, h4⟩ := tk_app (p := isSp) (w := u) (r := 32 :: rest) hu (fun c t e => by cases e; decide)
  unfold brackR
  rw [hw]
  simp only
  rw [if_neg (h2 _ (by simp)), if_neg (h2 _ (by simp)), if_neg (h2 _ (by simp)), if_neg (h2 _ (by simp)), hl _ (good_cons (by simp))]
  simp only [Option.bind_some, wants1, h3, h4]
theorem pre_ok {w r : L8} (hw : ∀ c ∈ w, ok8 c = true) : nameR (w ++ 32 :: r) = (w, 32 :: r) := nameR_app hw (stop_cons (by decide))
theorem arms_ok {f : Rdr} : ∀ {arms : List ByteArray} {subs : List Ex} {k : Nat} (r : L8), arms.length = subs.length → (∀ a ∈ arms, ∀ c ∈ sL a, ok8 c = true) → (∀ x ∈ subs, Rd f x) → subs.length < k →
    mergeR f k (((armsT2 arms (showL subs)).map sL).flatten ++ 41 :: r) = some ((arms, subs), r)
  | [], [], 0, _, _, _, _, hk => by simp at hk
  | [], [], k + 1, r, _, _, _, _ => by
    simp only [showL, armsT2, List.map_nil, List.flatten_nil, List.nil_append, mergeR, wants1]
  | [], _ :: _, _, _, h, _, _, _ => by simp at h
  | _ :: _, [], _, _, h, _, _, _ => by simp at h
  | a :: arms, x :: subs, 0, _, _, _, _, hk => by simp at hk
  | a :: arms, x :: subs, k + 1, r, hl, ha, hx, hk => by
    have ih := arms_ok (f := f) (arms := arms) (subs := subs) (k := k) r (by simpa using hl) (fun b hb => ha b (List.mem_cons_of_mem _ hb)) (fun b hb => hx b (List.mem_cons_of_mem _ hb)) (by simp at hk; omega)
    have e : ((armsT2 (a :: arms) (showL (x :: subs))).map sL).flatten ++ 41 :: r = [32, 40] ++ (sL a ++ ([32, 45, 62, 32] ++ (SE x ++ 41 :: (((armsT2 arms (showL subs)).map sL).flatten ++ 41 :: r)))) := by
      rw [showL, armsT2]
      simp [catB_list, sL, SE]
    rw [e, mergeR]
    have h0 : wants [41] ([32, 40] ++ (sL a ++ ([32, 45, 62, 32] ++ (SE x ++ 41 :: (((armsT2 arms (showL subs)).map sL).flatten ++ 41 :: r))))) = none := wants1_ne _ (by decide)
    rw [h0]
    simp only
    rw [wants_app]
    simp only [Option.bind_some]
    rw [nameR_app (ha a List.mem_cons_self) (show stopL ([32, 45, 62, 32] ++ (SE x ++ 41 :: (((armsT2 arms (showL subs)).map sL).flatten ++ 41 :: r))) from stop_cons (by decide))]
    simp only
    rw [wants_app]
    simp only [Option.bind_some]
    rw [hx x List.mem_cons_self _ (good_cons (by simp))]
    simp only [Option.bind_some, wants1, ih, bL_sL]
theorem onL (nm arm : ByteArray) : sL (onT nm arm) = if arm = tTrue then sL nm else if arm = tFalse then [110, 111, 116, 32] ++ sL nm else sL arm ++ 40 :: (sL nm ++ [41]) := by
  unfold onT
  split
  · rfl
  · split
    · simp only [sL, app_list]
    · simp only [sL, app_list]; rfl
theorem not_word : (⟨#[110, 111, 116]⟩ : ByteArray) ∈ words := List.mem_of_getElem? (i := 14) rfl
theorem when_ok {t : Ex} {nm arm : ByteArray} (hn : lowF nm = true) (ha : armE arm = true) (r : L8) : whenR t (sL (onT nm arm) ++ 41 :: r) = some (mkE 11 0 (sL nm) 0 [arm] [t], r) := by
  obtain ⟨h1, ⟨c, u, hs, hc⟩, hw⟩ := low_facts hn
  rw [onL]
  by_cases e1 : arm = tTrue
  · rw [if_pos e1]
    unfold whenR
    rw [nameR_app h1 (stop_cons (by decide))]
    simp only
    rw [if_neg (fun q => hw _ not_word (by rw [← bL_sL nm, q]))]
    rw [wants1, e1]
  · rw [if_neg e1]
    by_cases e2 : arm = tFalse
    · rw [if_pos e2]
      unfold whenR
      rw [show [110, 111, 116, 32] ++ sL nm ++ 41 :: r = [110, 111, 116] ++ 32 :: (sL nm ++ 41 :: r) by simp, pre_ok (by decide)]
      simp only
      rw [if_pos trivial, wants1]
      simp only [Option.bind_some]
      rw [nameR_app h1 (stop_cons (by decide))]
      simp only [wants1, Option.bind_some, e2]
    · rw [if_neg e2]
      have hh : highF arm = true := by
        unfold armE at ha
        simpa [e1, e2] using ha
      obtain ⟨g1, d, v, gs, gd⟩ := name_facts hh
      unfold whenR
      rw [show sL arm ++ 40 :: (sL nm ++ [41]) ++ 41 :: r = sL arm ++ 40 :: (sL nm ++ 41 :: 41 :: r) by simp, nameR_app g1 (stop_cons (by decide))]
      simp only
      rw [if_neg (fun q => by rw [gs] at q; cases q; exact absurd gd (by decide)), wants1_ne _ (by decide), wants1]
      simp only [Option.bind_some]
      rw [nameR_app h1 (stop_cons (by decide))]
      simp only
      rw [show (41 : UInt8) :: 41 :: r = [41, 41] ++ r from rfl, wants_app]
      simp only [Option.bind_some, bL_sL]
theorem arm_ok8 {a : ByteArray} (h : armE a = true) : ∀ c ∈ sL a, ok8 c = true := by
  unfold armE at h
  simp only [Bool.or_eq_true, decide_eq_true_eq] at h
  rcases h with (h | rfl) | rfl
  · exact (name_facts h).1
  · decide
  · decide
set_option maxHeartbeats 4000000
theorem len2 {l : List Ex} (h : l.length = 2) : ∃ a b, l = [a, b] := by
  match l, h with
  | [a, b], _ => exact ⟨a, b, rfl⟩
theorem len3 {l : List Ex} (h : l.length = 3) : ∃ a b c, l = [a, b, c] := by
  match l, h with
  | [a, b, c], _ => exact ⟨a, b, c, rfl⟩
theorem SE_eq (e : Ex) : SE e = sL (headT e (showL e.subs)) := by unfold SE; rw [showT_eq]
theorem base_first {f : Rdr} {c : UInt8} {l : L8} (h1 : c ≠ 40) (h2 : c ≠ 91) (h3 : c ≠ 39) (h4 : isDig c = false) (h5 : inB 65 90 c.toNat = false) : baseR f (c :: l) =
    if (nameR (c :: l)).1 = [116, 114, 117, 101] then some (mkE 2 1 [] 0 [] [], (nameR (c :: l)).2)
    else if (nameR (c :: l)).1 = [102, 97, 108, 115, 101] then some (mkE 2 0 [] 0 [] [], (nameR (c :: l)).2)
    else match wants [40] (nameR (c :: l)).2 with
      | some r => (args f r).bind fun p => some (mkE 13 0 (nameR (c :: l)).1 0 [] p.1, p.2)
      | none => some (mkE 3 0 (nameR (c :: l)).1 0 [] [], (nameR (c :: l)).2) := by
  rw [baseR, if_neg h1, if_neg h2, if_neg h3]
  simp only [h4, h5, Bool.false_eq_true, if_false] <;> rfl
theorem true_word : (⟨#[116, 114, 117, 101]⟩ : ByteArray) ∈ words := List.mem_of_getElem? (i := 19) rfl
theorem false_word : (⟨#[102, 97, 108, 115, 101]⟩ : ByteArray) ∈ words := List.mem_of_getElem? (i := 20) rfl
theorem low_base {f : Rdr} {nm : ByteArray} (h : lowF nm = true) {r : L8} (hr : stopL r) : baseR f (sL nm ++ r) = match wants [40] r with
      | some r => (args f r).bind fun p => some (mkE 13 0 (sL nm) 0 [] p.1, p.2)
      | none => some (mkE 3 0 (sL nm) 0 [] [], r) := by
  obtain ⟨h1, ⟨c, u, hs, hc⟩, hw⟩ := low_facts h
  have hn := nameR_app h1 hr
  have e : sL nm ++ r = c :: (u ++ r) := by rw [hs]; rfl
  rw [e] at hn ⊢
  rw [base_first, hn]
  · simp only
    rw [if_neg (fun q => hw _ true_word (by rw [← bL_sL nm, q])), if_neg (fun q => hw _ false_word (by rw [← bL_sL nm, q]))]
  · rintro rfl; exact absurd hc (by decide)
  · rintro rfl; exact absurd hc (by decide)
  · rintro rfl; exact absurd hc (by decide)
  · unfold isDig; unfold inB at hc ⊢; simp at hc ⊢; omega
  · unfold inB at hc ⊢; simp at hc ⊢; omega
theorem JL_head {l : List Ex} {x : Ex} (r : L8) {d : UInt8} (hd : d = 41 ∨ d = 93) : ∃ t, stopL t ∧ JL (x :: l) ++ d :: r = SE x ++ t := by
  cases l with
  | nil => exact ⟨d :: r, stop_cons (by rcases hd with rfl | rfl <;> decide), by rw [JL_one]⟩
  | cons y l => exact ⟨44 :: 32 :: (JL (y :: l) ++ d :: r), stop_cons (by decide), by rw [JL_cons]; simp⟩
theorem call_base {f : Rdr} {nm : ByteArray} (h : lowF nm = true) {l : List Ex} (hs : ∀ x ∈ l, Rd f x) (hh : ∀ x ∈ l, HdL (SE x)) (hk : l.length ≤ 20) (r : L8) : baseR f (sL nm ++ 40 :: (JL l ++ 41 :: r)) = some (mkE 13 0 (sL nm) 0 [] l, r) := by
  rw [low_base h (show stopL (40 :: (JL l ++ 41 :: r)) from stop_cons (by decide)), wants1]
  simp only
  unfold args
  cases l with
  | nil => rw [JL_nil, List.nil_append, wants1]; rfl
  | cons x l =>
    obtain ⟨t, ht, e⟩ := JL_head (l := l) (x := x) r (.inl rfl)
    obtain ⟨⟨c, u, hc, _, h41⟩, _⟩ := hh x List.mem_cons_self t ht
    have hw : wants [41] (JL (x :: l) ++ 41 :: r) = none := by rw [e, hc]; exact wants1_ne u h41
    rw [hw]
    simp only
    rw [items_ok (.inl rfl) r (by simp) hs hk]
    simp only [Option.bind_some, wants1]
noncomputable def callL (nm : ByteArray) (l : List Ex) : L8 := sL nm ++ 40 :: (JL l ++ [41])
theorem sign_ok {f : Rdr} {t : Ex} {op : Int} (h : 3 ≤ op ∧ op ≤ 16) (r : L8) : (∀ c ∈ sL (signT op), isSp c = true) ∧ binR f t (sL (signT op)) r = un1 f (fun b => mkE 6 0 [] op [] [t, b]) [41] r := by
  rcases (show op = 3 ∨ op = 4 ∨ op = 5 ∨ op = 6 ∨ op = 7 ∨ op = 8 ∨ op = 9 ∨ op = 10 ∨ op = 11 ∨ op = 12 ∨ op = 13 ∨ op = 14 ∨ op = 15 ∨ op = 16 by omega) with rfl | rfl | rfl | rfl | rfl | rfl | rfl | rfl | rfl | rfl | rfl | rfl | rfl | rfl <;> exact ⟨by decide +kernel, rfl⟩
theorem arms_stop (arms ts : List ByteArray) (r : L8) : stopL (((armsT2 arms ts).map sL).flatten ++ 41 :: r) := by
  match arms, ts with
  | _, [] =>
    intro c t e
    simp [armsT2] at e
    rw [← e.1]
    decide
  | [], _ :: _ =>
    intro c t e
    simp [armsT2] at e
    rw [← e.1]
    decide
  | _ :: _, _ :: _ =>
    intro c t e
    simp [armsT2, sL] at e
    rw [← e.1]
    decide
theorem base_ok {f : Rdr} {e : Ex} (h : partE e = true) (h15 : ¬ e.kind = 15) (hs : ∀ x ∈ e.subs, Rd f x) (hh : ∀ x ∈ e.subs, HdL (SE x))
    (hcall : ∀ l : List Ex, ∀ b, e.kind = 13 → e.subs = l ++ [b] → ∀ r, goodL r → f (callL e.name l ++ r) = some (mkE 13 0 (sL e.name) 0 [] l, r)) (r : L8) (hr : good2 r) : baseR f (SE e ++ r) = some (e, r) := by
  obtain ⟨c1, c2, c3, c4, c5, c6, c7, c8, c9, c10, c11, c12⟩ := part_can h
  obtain ⟨hk, hlo, hhi, m11, m12, _⟩ := part_more h
  obtain ⟨k, n, nm, op, arms, subs⟩ := e
  rw [SE_eq]
  simp only [Ex.kind, Ex.n, Ex.name, Ex.op, Ex.arms, Ex.subs] at *
  rcases (show k = 1 ∨ k = 2 ∨ k = 3 ∨ k = 4 ∨ k = 5 ∨ k = 6 ∨ k = 7 ∨ k = 8 ∨ k = 9 ∨ k = 10 ∨ k = 11 ∨ k = 12 ∨ k = 13 ∨ k = 14 ∨ k = 16 ∨ k = 17 by omega) with rfl | rfl | rfl | rfl | rfl | rfl | rfl | rfl | rfl | rfl | rfl | rfl | rfl | rfl | rfl | rfl
  · -- a number
    have hop := c4 (by omega) (by omega)
    have hnm := c10 (by omega) (by omega) (by omega)
    have har := c12 (by omega) (by omega)
    have hsb : subs = [] := List.length_eq_zero_iff.1 (by have q : (subsE (.mk 1 n nm op arms subs)).2 = 0 := (by simp [subsE, Ex.kind]); omega)
    have hn := c2 rfl
    subst hop hnm har hsb
    have e : sL (headT (.mk 1 n ⟨#[]⟩ 0 [] []) (showL [])) = Lib.decDigits n.toNat := by
      simp [headT, leafT, Ex.kind, Ex.n, digB, Lib.itoa, show ¬ n < 0 by omega]
    rw [e]
    have hd := decDigits_dig n.toNat
    obtain ⟨t1, t2⟩ := tk_app (p := isDig) hd (r := r) (fun c t q => by rcases hr c t q with rfl | rfl | rfl | rfl | rfl <;> decide)
    have hv := decDigits_val n.toNat
    have hne := decDigits_ne n.toNat
    generalize Lib.decDigits n.toNat = D at *
    cases D with
    | nil => exact absurd rfl hne
    | cons c D =>
      have hc := hd c List.mem_cons_self
      rw [List.cons_append] at t1 t2 ⊢
      rw [baseR, if_neg (by rintro rfl; exact absurd hc (by decide)), if_neg (by rintro rfl; exact absurd hc (by decide)), if_neg (by rintro rfl; exact absurd hc (by decide)), if_pos hc, t1, t2, hv]
      simp [mkE, show (n.toNat : Int) = n by omega]
  · -- a truth value
    have hop := c4 (by omega) (by omega)
    have hnm := c10 (by omega) (by omega) (by omega)
    have har := c12 (by omega) (by omega)
    have hsb : subs = [] := List.length_eq_zero_iff.1 (by have q : (subsE (.mk 2 n nm op arms subs)).2 = 0 := (by simp [subsE, Ex.kind]); omega)
    subst hop hnm har hsb
    rcases c3 (.inl rfl) with rfl | rfl
    · have e : sL (headT (.mk 2 0 ⟨#[]⟩ 0 [] []) (showL [])) = [102, 97, 108, 115, 101] := rfl
      rw [e]
      have hn := nameR_app (w := [102, 97, 108, 115, 101]) (r := r) (by decide) (good2_stop hr)
      rw [show [102, 97, 108, 115, 101] ++ r = 102 :: ([97, 108, 115, 101] ++ r) from rfl] at hn ⊢
      rw [base_first (by decide) (by decide) (by decide) (by decide) (by decide), hn]
      rfl
    · have e : sL (headT (.mk 2 1 ⟨#[]⟩ 0 [] []) (showL [])) = [116, 114, 117, 101] := rfl
      rw [e]
      have hn := nameR_app (w := [116, 114, 117, 101]) (r := r) (by decide) (good2_stop hr)
      rw [show [116, 114, 117, 101] ++ r = 116 :: ([114, 117, 101] ++ r) from rfl] at hn ⊢
      rw [base_first (by decide) (by decide) (by decide) (by decide) (by decide), hn]
      rfl
  · -- a variable
    have hn := c1 (by omega) (by omega) (by omega)
    have hop := c4 (by omega) (by omega)
    have hnm := c7 (by omega)
    have har := c12 (by omega) (by omega)
    have hsb : subs = [] := List.length_eq_zero_iff.1 (by have q : (subsE (.mk 3 n nm op arms subs)).2 = 0 := (by simp [subsE, Ex.kind]); omega)
    subst hn hop har hsb
    have e : sL (headT (.mk 3 0 nm 0 [] []) (showL [])) = sL nm := by simp [headT, leafT, Ex.kind, Ex.name]
    rw [e, low_base hnm (good2_stop hr), good2_no40 hr]
    simp [mkE, bL_sL]
  · -- a constructor
    have hn := c1 (by omega) (by omega) (by omega)
    have hop := c4 (by omega) (by omega)
    have hnm := c8 rfl
    have har := c12 (by omega) (by omega)
    have hsb : subs = [] := List.length_eq_zero_iff.1 (by have q : (subsE (.mk 4 n nm op arms subs)).2 = 0 := (by simp [subsE, Ex.kind]); omega)
    subst hn hop har hsb
    have e : sL (headT (.mk 4 0 nm 0 [] []) (showL [])) = sL nm := by simp [headT, leafT, Ex.kind, Ex.name]
    rw [e]
    obtain ⟨h1, c, u, hs', hc⟩ := name_facts hnm
    have hq := nameR_app h1 (good2_stop hr)
    have e2 : sL nm ++ r = c :: (u ++ r) := by rw [hs']; rfl
    rw [e2] at hq ⊢
    have hdg : isDig c = false := by unfold isDig; unfold inB at hc ⊢; simp at hc ⊢; omega
    rw [baseR, if_neg (by rintro rfl; exact absurd hc (by decide)), if_neg (by rintro rfl; exact absurd hc (by decide)), if_neg (by rintro rfl; exact absurd hc (by decide)), if_neg (by rw [hdg]; decide), if_pos hc, hq]
    simp [mkE, bL_sL]
  · -- one operand
    have hn := c1 (by omega) (by omega) (by omega)
    have hnm := c10 (by omega) (by omega) (by omega)
    have har := c12 (by omega) (by omega)
    obtain ⟨a, rfl⟩ := List.length_eq_one_iff.1 (show subs.length = 1 by
      have q1 : (subsE (.mk 5 n nm op arms subs)).1 = 1 := by simp [subsE, Ex.kind]
      have q2 : (subsE (.mk 5 n nm op arms subs)).2 = 1 := by simp [subsE, Ex.kind]
      omega)
    have ha := hs a (by simp)
    have g0 := hh a (by simp)
    subst hn hnm har
    rcases (show op = 1 ∨ op = 2 by have := c5 rfl; omega) with rfl | rfl
    · have e : sL (headT (.mk 5 0 ⟨#[]⟩ 1 [] [a]) (showL [a])) ++ r = 40 :: 45 :: (SE a ++ 41 :: r) := by simp [headT, Ex.kind, Ex.name, Ex.op, Ex.n, Ex.arms, Ex.subs, showL, catB_list, SE, sL]
      rw [e, baseR, if_pos rfl]
      unfold brackR
      rw [wants1]
      exact un1_ok ha _ r
    · have e : sL (headT (.mk 5 0 ⟨#[]⟩ 2 [] [a]) (showL [a])) ++ r = 40 :: ([110, 111, 116] ++ 32 :: (SE a ++ 41 :: r)) := by simp [headT, Ex.kind, Ex.name, Ex.op, Ex.n, Ex.arms, Ex.subs, showL, catB_list, SE, sL]
      rw [e, baseR, if_pos rfl]
      unfold brackR
      rw [show wants [45] ([110, 111, 116] ++ 32 :: (SE a ++ 41 :: r)) = none from wants1_ne _ (by decide), pre_ok (by decide)]
      simp only
      rw [if_pos trivial, wants1]
      simp only [Option.bind_some]
      exact un1_ok ha _ r
  · -- two operands
    have hn := c1 (by omega) (by omega) (by omega)
    have hnm := c10 (by omega) (by omega) (by omega)
    have har := c12 (by omega) (by omega)
    obtain ⟨a, b, rfl⟩ := len2 (show subs.length = 2 by
      have q1 : (subsE (.mk 6 n nm op arms subs)).1 = 2 := by simp [subsE, Ex.kind]
      have q2 : (subsE (.mk 6 n nm op arms subs)).2 = 2 := by simp [subsE, Ex.kind]
      omega)
    have ha := hs a (by simp)
    have hb := hs b (by simp)
    have g0 := hh a (by simp)
    subst hn hnm har
    obtain ⟨s1, s2⟩ := sign_ok (f := f) (t := a) (c6 rfl) (SE b ++ 41 :: r)
    have e : sL (headT (.mk 6 0 ⟨#[]⟩ op [] [a, b]) (showL [a, b])) ++ r = 40 :: (SE a ++ 32 :: (sL (signT op) ++ 32 :: (SE b ++ 41 :: r))) := by simp [headT, Ex.kind, Ex.name, Ex.op, Ex.n, Ex.arms, Ex.subs, showL, catB_list, SE, sL]
    rw [e, baseR, if_pos rfl, infix_ok ha g0 s1, s2]
    exact un1_ok hb _ r
  · -- if
    have hn := c1 (by omega) (by omega) (by omega)
    have hop := c4 (by omega) (by omega)
    have hnm := c10 (by omega) (by omega) (by omega)
    have har := c12 (by omega) (by omega)
    obtain ⟨a, b, c, rfl⟩ := len3 (show subs.length = 3 by
      have q1 : (subsE (.mk 7 n nm op arms subs)).1 = 3 := by simp [subsE, Ex.kind]
      have q2 : (subsE (.mk 7 n nm op arms subs)).2 = 3 := by simp [subsE, Ex.kind]
      omega)
    have ha := hs a (by simp)
    have hb := hs b (by simp)
    have hc := hs c (by simp)
    have g0 := hh a (by simp)
    subst hn hop hnm har
    have e : sL (headT (.mk 7 0 ⟨#[]⟩ 0 [] [a, b, c]) (showL [a, b, c])) ++ r = 40 :: ([105, 102] ++ 32 :: (SE a ++ ([32, 116, 104, 101, 110, 32] ++ (SE b ++ ([32, 101, 108, 115, 101, 32] ++ (SE c ++ 41 :: r)))))) := by simp [headT, Ex.kind, Ex.name, Ex.op, Ex.n, Ex.arms, Ex.subs, showL, catB_list, SE, sL]
    rw [e, baseR, if_pos rfl]
    unfold brackR
    rw [show ∀ l, wants [45] ([105, 102] ++ l) = none from fun l => wants1_ne _ (by decide), pre_ok (by decide)]
    simp only
    rw [if_neg (by decide), if_pos trivial, wants1]
    simp only [Option.bind_some]
    rw [ha _ (show goodL ([32, 116, 104, 101, 110, 32] ++ (SE b ++ ([32, 101, 108, 115, 101, 32] ++ (SE c ++ 41 :: r)))) from good_cons (by simp))]
    simp only [Option.bind_some]
    rw [wants_app]
    simp only [Option.bind_some]
    rw [hb _ (show goodL ([32, 101, 108, 115, 101, 32] ++ (SE c ++ 41 :: r)) from good_cons (by simp))]
    simp only [Option.bind_some]
    rw [wants_app]
    simp only [Option.bind_some]
    exact un1_ok hc _ r
  · -- fby
    have hn := c1 (by omega) (by omega) (by omega)
    have hop := c4 (by omega) (by omega)
    have hnm := c10 (by omega) (by omega) (by omega)
    have har := c12 (by omega) (by omega)
    obtain ⟨a, b, rfl⟩ := len2 (show subs.length = 2 by
      have q1 : (subsE (.mk 8 n nm op arms subs)).1 = 2 := by simp [subsE, Ex.kind]
      have q2 : (subsE (.mk 8 n nm op arms subs)).2 = 2 := by simp [subsE, Ex.kind]
      omega)
    have ha := hs a (by simp)
    have hb := hs b (by simp)
    have g0 := hh a (by simp)
    subst hn hop hnm har
    have e : sL (headT (.mk 8 0 ⟨#[]⟩ 0 [] [a, b]) (showL [a, b])) ++ r = 40 :: (SE a ++ 32 :: ([102, 98, 121] ++ 32 :: (SE b ++ 41 :: r))) := by simp [headT, Ex.kind, Ex.name, Ex.op, Ex.n, Ex.arms, Ex.subs, showL, catB_list, SE, sL]
    rw [e, baseR, if_pos rfl, infix_ok ha g0 (by decide)]
    unfold binR
    rw [if_pos rfl]
    exact un1_ok hb _ r
  · -- ->
    have hn := c1 (by omega) (by omega) (by omega)
    have hop := c4 (by omega) (by omega)
    have hnm := c10 (by omega) (by omega) (by omega)
    have har := c12 (by omega) (by omega)
    obtain ⟨a, b, rfl⟩ := len2 (show subs.length = 2 by
      have q1 : (subsE (.mk 9 n nm op arms subs)).1 = 2 := by simp [subsE, Ex.kind]
      have q2 : (subsE (.mk 9 n nm op arms subs)).2 = 2 := by simp [subsE, Ex.kind]
      omega)
    have ha := hs a (by simp)
    have hb := hs b (by simp)
    have g0 := hh a (by simp)
    subst hn hop hnm har
    have e : sL (headT (.mk 9 0 ⟨#[]⟩ 0 [] [a, b]) (showL [a, b])) ++ r = 40 :: (SE a ++ 32 :: ([45, 62] ++ 32 :: (SE b ++ 41 :: r))) := by simp [headT, Ex.kind, Ex.name, Ex.op, Ex.n, Ex.arms, Ex.subs, showL, catB_list, SE, sL]
    rw [e, baseR, if_pos rfl, infix_ok ha g0 (by decide)]
    unfold binR
    rw [if_neg (by decide), if_pos rfl]
    exact un1_ok hb _ r
  · -- pre
    have hn := c1 (by omega) (by omega) (by omega)
    have hop := c4 (by omega) (by omega)
    have hnm := c10 (by omega) (by omega) (by omega)
    have har := c12 (by omega) (by omega)
    obtain ⟨a, rfl⟩ := List.length_eq_one_iff.1 (show subs.length = 1 by
      have q1 : (subsE (.mk 10 n nm op arms subs)).1 = 1 := by simp [subsE, Ex.kind]
      have q2 : (subsE (.mk 10 n nm op arms subs)).2 = 1 := by simp [subsE, Ex.kind]
      omega)
    have ha := hs a (by simp)
    have g0 := hh a (by simp)
    subst hn hop hnm har
    have e : sL (headT (.mk 10 0 ⟨#[]⟩ 0 [] [a]) (showL [a])) ++ r = 40 :: ([112, 114, 101] ++ 32 :: (SE a ++ 41 :: r)) := by simp [headT, Ex.kind, Ex.name, Ex.op, Ex.n, Ex.arms, Ex.subs, showL, catB_list, SE, sL]
    rw [e, baseR, if_pos rfl]
    unfold brackR
    rw [show ∀ l, wants [45] ([112, 114, 101] ++ l) = none from fun l => wants1_ne _ (by decide), pre_ok (by decide)]
    simp only
    rw [if_neg (by decide), if_neg (by decide), if_pos trivial, wants1]
    simp only [Option.bind_some]
    exact un1_ok ha _ r
  · -- when
    have hn := c1 (by omega) (by omega) (by omega)
    have hop := c4 (by omega) (by omega)
    obtain ⟨a, rfl⟩ := List.length_eq_one_iff.1 (show subs.length = 1 by
      have q1 : (subsE (.mk 11 n nm op arms subs)).1 = 1 := by simp [subsE, Ex.kind]
      have q2 : (subsE (.mk 11 n nm op arms subs)).2 = 1 := by simp [subsE, Ex.kind]
      omega)
    have ha := hs a (by simp)
    have g0 := hh a (by simp)
    have hl := c7 (by omega)
    obtain ⟨arm, rfl⟩ := List.length_eq_one_iff.1 (m11 rfl)
    have hA := c11 arm (by simp)
    subst hn hop
    have e : sL (headT (.mk 11 0 nm 0 [arm] [a]) (showL [a])) ++ r = 40 :: (SE a ++ 32 :: ([119, 104, 101, 110] ++ 32 :: (sL (onT nm arm) ++ 41 :: r))) := by simp [headT, Ex.kind, Ex.name, Ex.op, Ex.n, Ex.arms, Ex.subs, showL, catB_list, SE, sL]
    rw [e, baseR, if_pos rfl, infix_ok ha g0 (by decide)]
    refine (when_ok hl hA r).trans ?_
    simp [mkE, bL_sL]
  · -- merge
    have hn := c1 (by omega) (by omega) (by omega)
    have hop := c4 (by omega) (by omega)
    have hl := c7 (by omega)
    have hle : arms.length = subs.length := by
      have q1 : (subsE (.mk 12 n nm op arms subs)).1 = arms.length := by simp [subsE, Ex.kind, Ex.arms]
      have q2 : (subsE (.mk 12 n nm op arms subs)).2 = arms.length := by simp [subsE, Ex.kind, Ex.arms]
      omega
    have hsix := m12 rfl
    subst hn hop
    have e : sL (headT (.mk 12 0 nm 0 arms subs) (showL subs)) ++ r = 40 :: ([109, 101, 114, 103, 101] ++ 32 :: (sL nm ++ (((armsT2 arms (showL subs)).map sL).flatten ++ 41 :: r))) := by simp [headT, Ex.kind, Ex.name, Ex.op, Ex.n, Ex.arms, Ex.subs, showL, catB_list, SE, sL]
    rw [e, baseR, if_pos rfl]
    unfold brackR
    rw [show ∀ l, wants [45] ([109, 101, 114, 103, 101] ++ l) = none from fun l => wants1_ne _ (by decide), pre_ok (by decide)]
    simp only
    rw [if_neg (by decide), if_neg (by decide), if_neg (by decide), if_pos trivial, wants1]
    simp only [Option.bind_some]
    rw [nameR_app (low_facts hl).1 (arms_stop _ _ r)]
    simp only
    rw [arms_ok r hle (fun x hx => arm_ok8 (c11 x hx)) hs (by omega)]
    simp [mkE, bL_sL]
  · -- a call
    have hop := c4 (by omega) (by omega)
    have har := c12 (by omega) (by omega)
    have hl := c7 (by omega)
    subst hop har
    rcases c3 (.inr rfl) with rfl | rfl
    · have hlen : subs.length ≤ 20 := by
        have q2 : (subsE (.mk 13 0 nm 0 [] subs)).2 = 6 := by simp [subsE, Ex.kind, Ex.n]
        omega
      have ht : List.take subs.length (List.map showT subs) = List.map showT subs := List.take_of_length_le (by simp)
      have e : sL (headT (.mk 13 0 nm 0 [] subs) (showL subs)) ++ r = sL nm ++ 40 :: (JL subs ++ 41 :: r) := by simp [ht, headT, callTx, Ex.kind, Ex.name, Ex.n, JL, catB_list, sL, showL_map]
      rw [e, call_base hl hs hh hlen]
      simp [mkE, bL_sL]
    · have hne : subs ≠ [] := by
        rintro rfl
        have q1 : (subsE (.mk 13 1 nm 0 [] [])).1 = 1 := by simp [subsE, Ex.kind, Ex.n]
        simp at hlo
        omega
      obtain ⟨l, b, rfl⟩ : ∃ l b, subs = l ++ [b] := ⟨_, _, (List.dropLast_concat_getLast hne).symm⟩
      have hb := hs b (by simp)
      have hc := hcall l b rfl rfl
      have e : sL (headT (.mk 13 1 nm 0 [] (l ++ [b])) (showL (l ++ [b]))) ++ r = 40 :: (callL nm l ++ 32 :: ([101, 118, 101, 114, 121] ++ 32 :: (SE b ++ 41 :: r))) := by
        have ht : (showL (l ++ [b])).take ((showL (l ++ [b])).length - 1) = showL l := by rw [showL_map, showL_map]; simp
        have hg : (showL (l ++ [b])).getD ((showL (l ++ [b])).length - 1) ⟨#[]⟩ = showT b := by rw [showL_map]; simp
        simp only [headT, Ex.kind]
        simp only [callTx, Ex.name, Ex.n, show (1 : Int).toNat = 1 from rfl, ht, hg]
        simp [catB_list, sL, JL, callL, SE]
      have hd : HdL (callL nm l) := hd_low hl (stop_cons (by decide)) (.inr ⟨40, _, rfl, by decide⟩)
      rw [e, baseR, if_pos rfl, infix_ok hc hd (by decide)]
      unfold binR
      rw [if_neg (by decide), if_neg (by decide), if_neg (by decide), if_neg (by decide), if_pos rfl]
      refine (un1_ok hb _ r).trans ?_
      simp [mkE, bL_sL, Ex.name, Ex.subs]
  · -- an array
    have hn := c1 (by omega) (by omega) (by omega)
    have hop := c4 (by omega) (by omega)
    have hnm := c10 (by omega) (by omega) (by omega)
    have har := c12 (by omega) (by omega)
    have q1 : (subsE (.mk 14 n nm op arms subs)).1 = 1 := by simp [subsE, Ex.kind]
    have q2 : (subsE (.mk 14 n nm op arms subs)).2 = 8 := by simp [subsE, Ex.kind]
    have hne : subs ≠ [] := by rintro rfl; simp at hlo; omega
    have hlen : subs.length ≤ 20 := by omega
    subst hn hop hnm har
    have e : sL (headT (.mk 14 0 ⟨#[]⟩ 0 [] subs) (showL subs)) ++ r = 91 :: (JL subs ++ 93 :: r) := by simp [headT, Ex.kind, JL, catB_list, sL]
    rw [e, baseR, if_neg (by decide), if_pos rfl, items_ok (.inr rfl) r hne hs hlen]
    simp only [Option.bind_some, wants1]
    rfl
  · -- with
    have hn := c1 (by omega) (by omega) (by omega)
    have hop := c4 (by omega) (by omega)
    have hnm := c10 (by omega) (by omega) (by omega)
    have har := c12 (by omega) (by omega)
    obtain ⟨a, b, c, rfl⟩ := len3 (show subs.length = 3 by
      have q1 : (subsE (.mk 16 n nm op arms subs)).1 = 3 := by simp [subsE, Ex.kind]
      have q2 : (subsE (.mk 16 n nm op arms subs)).2 = 3 := by simp [subsE, Ex.kind]
      omega)
    have ha := hs a (by simp)
    have hb := hs b (by simp)
    have hc := hs c (by simp)
    have g0 := hh a (by simp)
    subst hn hop hnm har
    have e : sL (headT (.mk 16 0 ⟨#[]⟩ 0 [] [a, b, c]) (showL [a, b, c])) ++ r = 40 :: (SE a ++ 32 :: ([119, 105, 116, 104] ++ 32 :: (91 :: (SE b ++ ([93, 32, 61, 32] ++ (SE c ++ 41 :: r)))))) := by simp [headT, Ex.kind, Ex.name, Ex.op, Ex.n, Ex.arms, Ex.subs, showL, catB_list, SE, sL]
    rw [e, baseR, if_pos rfl, infix_ok ha g0 (by decide)]
    unfold binR
    rw [if_neg (by decide), if_neg (by decide), if_neg (by decide), if_pos rfl, wants1]
    simp only [Option.bind_some]
    rw [hb _ (show goodL ([93, 32, 61, 32] ++ (SE c ++ 41 :: r)) from good_cons (by simp))]
    simp only [Option.bind_some]
    rw [wants_app]
    simp only [Option.bind_some]
    exact un1_ok hc _ r
  · -- an old one
    have hn := c1 (by omega) (by omega) (by omega)
    have hop := c4 (by omega) (by omega)
    have har := c12 (by omega) (by omega)
    have hp := path_no39 (c9 rfl)
    have hsb : subs = [] := List.length_eq_zero_iff.1 (by have q : (subsE (.mk 17 n nm op arms subs)).2 = 0 := (by simp [subsE, Ex.kind]); omega)
    subst hn hop har hsb
    have e : sL (headT (.mk 17 0 nm 0 [] []) (showL [])) ++ r = 39 :: (sL nm ++ 39 :: r) := by simp [headT, leafT, Ex.kind, Ex.name, catB_list, sL]
    obtain ⟨t1, t2⟩ := tk_app (p := fun c => decide (c ≠ 39)) (w := sL nm) (r := 39 :: r) (fun c hc => decide_eq_true (hp c hc)) (fun c t q => by cases q; decide)
    rw [e, baseR, if_neg (by decide), if_neg (by decide), if_pos rfl, t1, t2, wants1]
    simp [mkE, bL_sL]
set_option maxHeartbeats 4000000
abbrev pcE (e : Ex) : Nat := (parts e).length
def PO (e : Ex) : Prop := ∀ y ∈ parts e, partE y = true
theorem PO.sub {e x : Ex} (h : PO e) (hx : x ∈ e.subs) : PO x := fun y hy => h y (sub_parts hx hy)
theorem pc_mem {l : List Ex} {x : Ex} (hx : x ∈ l) : pcE x ≤ (partsL l).length := by
  induction l with
  | nil => cases hx
  | cons y l ih =>
    rw [partsL, List.length_append]
    rcases List.mem_cons.1 hx with rfl | h
    · show (parts x).length ≤ _; omega
    · have := ih h; omega
theorem pc_sub {e x : Ex} (hx : x ∈ e.subs) : pcE x + 1 ≤ pcE e := by
  have := pc_mem hx
  unfold pcE at this ⊢
  rw [parts_eq e, List.length_cons]
  omega
theorem head_some {l : L8} {c : UInt8} (h : l.head? = some c) : ∃ t, l = c :: t := by
  cases l with
  | nil => cases h
  | cons d t => cases h; exact ⟨t, rfl⟩
theorem hd_c {l : L8} {c : UInt8} (h : l.head? = some c) (h1 : c ≠ 45) (h2 : c ≠ 41) (h3 : c ≠ 110 ∧ c ≠ 105 ∧ c ≠ 112 ∧ c ≠ 109) : HdL l := by
  obtain ⟨t, rfl⟩ := head_some h
  refine hd_no h1 h2 fun w hw d u e _ => ?_
  subst e
  simp only [List.mem_cons, List.not_mem_nil, or_false, List.cons.injEq] at hw
  rcases hw with ⟨rfl, _⟩ | ⟨rfl, _⟩ | ⟨rfl, _⟩ | ⟨rfl, _⟩
  · exact h3.1
  · exact h3.2.1
  · exact h3.2.2.1
  · exact h3.2.2.2
theorem head_ok (e : Ex) : PO e → HdL (SE e) := by
  induction e using Ex.ind with
  | _ e ih =>
  intro hp
  have h := hp e (self_parts e)
  obtain ⟨c1, c2, c3, c4, c5, c6, c7, c8, c9, c10, c11, c12⟩ := part_can h
  obtain ⟨hk, hlo, hhi, m11, m12, _⟩ := part_more h
  have ih' : ∀ x ∈ e.subs, HdL (SE x) := fun x hx => ih x hx (hp.sub hx)
  clear ih hp h
  obtain ⟨k, n, nm, op, arms, subs⟩ := e
  rw [SE_eq]
  simp only [Ex.kind, Ex.n, Ex.name, Ex.op, Ex.arms, Ex.subs] at *
  have hB : ∀ ts : List ByteArray, ((5 ≤ k ∧ k ≤ 12) ∨ k = 16) → HdL (sL (headT (.mk k n nm op arms subs) ts)) := fun ts q => by
    refine hd_c (c := 40) ?_ (by decide) (by decide) (by decide)
    rcases (show k = 5 ∨ k = 6 ∨ k = 7 ∨ k = 8 ∨ k = 9 ∨ k = 10 ∨ k = 11 ∨ k = 12 ∨ k = 16 by omega) with rfl | rfl | rfl | rfl | rfl | rfl | rfl | rfl | rfl <;> simp [headT, Ex.kind, catB_list, sL]
  rcases (show k = 1 ∨ k = 2 ∨ k = 3 ∨ k = 4 ∨ ((5 ≤ k ∧ k ≤ 12) ∨ k = 16) ∨ k = 13 ∨ k = 14 ∨ k = 15 ∨ k = 17 by omega) with rfl | rfl | rfl | rfl | q | rfl | rfl | rfl | rfl
  · have hn := c2 rfl
    have e : sL (headT (.mk 1 n nm op arms subs) (showL subs)) = Lib.decDigits n.toNat := by
      simp [headT, leafT, Ex.kind, Ex.n, digB, Lib.itoa, show ¬ n < 0 by omega]
    rw [e]
    have hd := decDigits_dig n.toNat
    have hne := decDigits_ne n.toNat
    generalize Lib.decDigits n.toNat = D at *
    cases D with
    | nil => exact absurd rfl hne
    | cons c D =>
      have hc := hd c List.mem_cons_self
      exact hd_c (c := c) rfl (by rintro rfl; exact absurd hc (by decide)) (by rintro rfl; exact absurd hc (by decide)) ⟨by rintro rfl; exact absurd hc (by decide), by rintro rfl; exact absurd hc (by decide), by rintro rfl; exact absurd hc (by decide), by rintro rfl; exact absurd hc (by decide)⟩
  · rcases c3 (.inl rfl) with rfl | rfl
    · exact hd_c (c := 102) rfl (by decide) (by decide) (by decide)
    · exact hd_c (c := 116) rfl (by decide) (by decide) (by decide)
  · have e : sL (headT (.mk 3 n nm op arms subs) (showL subs)) = sL nm ++ [] := by simp [headT, leafT, Ex.kind, Ex.name]
    rw [e]
    exact hd_low (c7 (by omega)) (fun c t q => by cases q) (.inl rfl)
  · have e : sL (headT (.mk 4 n nm op arms subs) (showL subs)) = sL nm := by simp [headT, leafT, Ex.kind, Ex.name]
    rw [e]
    obtain ⟨_, c, u, hs', hc⟩ := name_facts (c8 rfl)
    exact hd_c (c := c) (by rw [hs']; rfl) (by rintro rfl; exact absurd hc (by decide)) (by rintro rfl; exact absurd hc (by decide)) ⟨by rintro rfl; exact absurd hc (by decide), by rintro rfl; exact absurd hc (by decide), by rintro rfl; exact absurd hc (by decide), by rintro rfl; exact absurd hc (by decide)⟩
  · exact hB _ q
  · have hl := c7 (by omega)
    rcases c3 (.inr rfl) with rfl | rfl
    · have e : sL (headT (.mk 13 0 nm op arms subs) (showL subs)) = sL nm ++ 40 :: (sL (joinB ((showL subs).take ((showL subs).length - 0)) ⟨#[44, 32]⟩) ++ [41]) := by simp [headT, callTx, Ex.kind, Ex.name, Ex.n, catB_list, sL]
      rw [e]
      exact hd_low hl (show stopL (40 :: _) from fun c t q => by cases q; decide) (.inr ⟨40, _, rfl, by decide⟩)
    · exact hd_c (c := 40) (by simp [headT, callTx, Ex.kind, Ex.name, Ex.n, catB_list, sL]) (by decide) (by decide) (by decide)
  · exact hd_c (c := 91) (by simp [headT, Ex.kind, catB_list, sL]) (by decide) (by decide) (by decide)
  · have q1 : (subsE (.mk 15 n nm op arms subs)).1 = 2 := by simp [subsE, Ex.kind]
    have q2 : (subsE (.mk 15 n nm op arms subs)).2 = 2 := by simp [subsE, Ex.kind]
    obtain ⟨a, b, rfl⟩ := len2 (l := subs) (by omega)
    have e : sL (headT (.mk 15 n nm op arms [a, b]) (showL [a, b])) = SE a ++ 91 :: (SE b ++ [93]) := by simp [headT, Ex.kind, showL, catB_list, SE, sL]
    rw [e]
    exact hd_app (ih' a (by simp)) (fun c t q => by cases q; decide) (by simp)
  · exact hd_c (c := 39) (by simp [headT, leafT, Ex.kind, catB_list, sL]) (by decide) (by decide) (by decide)
theorem post_done {f : Rdr} {k : Nat} {x : Ex} {r : L8} (h : goodL r) : postR f k x r = some (x, r) := by
  cases k with
  | zero => rfl
  | succ k =>
    have hw : wants [91] r = none := by
      cases r with
      | nil => rfl
      | cons c t =>
        refine wants1_ne t ?_
        rcases h c t rfl with rfl | rfl | rfl | rfl <;> decide
    rw [postR, hw]
theorem rd_ok (e : Ex) : PO e → ∀ n, 2 * pcE e ≤ n → ∀ r, good2 r → ∃ k, n ≤ k + pcE e ∧ rdR (n + 1) (SE e ++ r) = postR (rdR n) k e r := by
  induction e using Ex.ind with
  | _ e ih =>
  intro hp n hn r hr
  have h := hp e (self_parts e)
  have hRd : ∀ x ∈ e.subs, ∀ m, 2 * pcE x < m → Rd (rdR m) x := fun x hx m hm => by
    intro r' hr'
    obtain ⟨m', rfl⟩ : ∃ m', m = m' + 1 := ⟨m - 1, by omega⟩
    obtain ⟨k, _, he⟩ := ih x hx (hp.sub hx) m' (by omega) r' (good_good2 hr')
    rw [he, post_done hr']
  have hhd : ∀ x ∈ e.subs, HdL (SE x) := fun x hx => head_ok x (hp.sub hx)
  by_cases h15 : e.kind = 15
  · obtain ⟨c1, _, _, c4, _, _, _, _, _, c10, _, c12⟩ := part_can h
    obtain ⟨_, hlo, hhi, _⟩ := part_more h
    have hnn := c1 (by omega) (by omega) (by omega)
    have hop := c4 (by omega) (by omega)
    have hnm := c10 (by omega) (by omega) (by omega)
    have har := c12 (by omega) (by omega)
    obtain ⟨k, n', nm, op, arms, subs⟩ := e
    simp only [Ex.kind, Ex.n, Ex.name, Ex.op, Ex.arms, Ex.subs] at *
    subst h15 hnn hop hnm har
    have q1 : (subsE (.mk 15 0 ⟨#[]⟩ 0 [] subs)).1 = 2 := by simp [subsE, Ex.kind]
    have q2 : (subsE (.mk 15 0 ⟨#[]⟩ 0 [] subs)).2 = 2 := by simp [subsE, Ex.kind]
    obtain ⟨a, b, rfl⟩ := len2 (l := subs) (by omega)
    have e : SE (.mk 15 0 ⟨#[]⟩ 0 [] [a, b]) ++ r = SE a ++ 91 :: (SE b ++ 93 :: r) := by
      rw [SE_eq]
      simp [headT, Ex.kind, Ex.subs, showL, catB_list, SE, sL]
    have hpc : pcE (.mk 15 0 ⟨#[]⟩ 0 [] [a, b]) = 1 + pcE a + pcE b := by
      unfold pcE
      rw [parts_eq]
      simp [Ex.subs, partsL]
      omega
    obtain ⟨k, hk, he⟩ := ih a (by simp) (hp.sub (by simp [Ex.subs])) n (by omega) (91 :: (SE b ++ 93 :: r)) (fun c t q => by cases q; simp)
    have hpa : 0 < pcE a := by unfold pcE; rw [parts_eq]; simp
    obtain ⟨k', rfl⟩ : ∃ k', k = k' + 1 := ⟨k - 1, by omega⟩
    refine ⟨k', by omega, ?_⟩
    rw [e, he, postR, wants1]
    simp only
    rw [hRd b (by simp) n (by omega) _ (good_cons (by simp))]
    simp only [Option.bind_some, wants1]
    rfl
  · refine ⟨n, by omega, ?_⟩
    have hb := base_ok (f := rdR n) h h15 (fun x hx => hRd x hx n (by have := pc_sub hx; omega)) hhd (fun l b hk hl r' hr' => by
      obtain ⟨n', rfl⟩ : ∃ n', n = n' + 1 := ⟨n - 1, by have := pc_sub (e := e) (x := b) (by rw [hl]; simp); omega⟩
      obtain ⟨_, _, c3, _, _, _, c7, _⟩ := part_can h
      obtain ⟨_, _, hhi, _⟩ := part_more h
      have hmem : ∀ x ∈ l, x ∈ e.subs := fun x hx => by rw [hl]; simp [hx]
      have hlen : l.length ≤ 20 := by
        have q2 : (subsE e).2 = 6 + e.n := by simp [subsE, hk]
        have := c3 (.inr hk)
        rw [hl] at hhi
        simp at hhi
        omega
      have hcb := call_base (f := rdR n') (nm := e.name) (c7 (by omega)) (l := l) (fun x hx => hRd x (hmem x hx) n' (by have := pc_sub (hmem x hx); omega)) (fun x hx => hhd x (hmem x hx)) hlen r'
      have e2 : callL e.name l ++ r' = sL e.name ++ 40 :: (JL l ++ 41 :: r') := by simp [callL]
      rw [e2, rdR]
      simp only
      rw [hcb]
      simp only [Option.bind_some]
      exact post_done hr') r hr
    rw [rdR]
    simp only
    rw [hb]
    rfl
theorem show_inj {a b : Ex} (ha : PO a) (hb : PO b) (h : showT a = showT b) : a = b := by
  obtain ⟨k, _, e1⟩ := rd_ok a ha (2 * (pcE a + pcE b)) (by omega) [] (fun c t q => by cases q)
  obtain ⟨k', _, e2⟩ := rd_ok b hb (2 * (pcE a + pcE b)) (by omega) [] (fun c t q => by cases q)
  rw [post_done good_nil] at e1 e2
  have : SE a = SE b := by unfold SE; rw [h]
  rw [this, e2] at e1
  simp at e1
  exact e1.symm
theorem right_PO {e : Ex} (h : rightE e = true) : PO e := by
  unfold rightE at h
  simp only [Bool.and_eq_true] at h
  exact fun y hy => List.all_eq_true.1 h.2 y hy
theorem exprT_r {e : Ex} (h : rightE e = true) : exprT e = showT e := by unfold exprT; rw [if_pos h]
/-! ### Which bytes a text has -/
def Al (p : UInt8 → Bool) (s : ByteArray) : Prop := ∀ c ∈ sL s, p c = true
theorem Al.mono {p q : UInt8 → Bool} {s : ByteArray} (h : Al p s) (hpq : ∀ c, p c = true → q c = true) : Al q s := fun c hc => hpq c (h c hc)
theorem Al.nil (p : UInt8 → Bool) : Al p ⟨#[]⟩ := fun c hc => by simp [sL] at hc
theorem Al.app {p : UInt8 → Bool} {s t : ByteArray} (h : Al p s) (h2 : Al p t) : Al p (s ++ t) := fun c hc => by
  rw [show sL (s ++ t) = sL s ++ sL t from app_list s t] at hc
  rcases List.mem_append.1 hc with q | q
  · exact h c q
  · exact h2 c q
theorem Al.cat {p : UInt8 → Bool} {l : List ByteArray} (h : ∀ s ∈ l, Al p s) : Al p (catB l) := by
  induction l with
  | nil => exact Al.nil p
  | cons x l ih =>
    rw [catB_cons]
    exact (h x List.mem_cons_self).app (ih fun s hs => h s (List.mem_cons_of_mem _ hs))
theorem Al.join {p : UInt8 → Bool} {l : List ByteArray} {sep : ByteArray} (h : ∀ s ∈ l, Al p s) (hs : Al p sep) : Al p (joinB l sep) := by
  induction l with
  | nil => rw [joinB_nil]; exact Al.nil p
  | cons x l ih =>
    cases l with
    | nil => rw [joinB_one]; exact h x List.mem_cons_self
    | cons y l =>
      rw [joinB_cons]
      exact (h x List.mem_cons_self).app (hs.app (ih fun s hs => h s (List.mem_cons_of_mem _ hs)))
theorem Al.getD {p : UInt8 → Bool} {l : List ByteArray} (h : ∀ s ∈ l, Al p s) (i : Nat) : Al p (l.getD i ⟨#[]⟩) := by
  rw [List.getD_eq_getElem?_getD]
  cases hx : l[i]? with
  | none => exact Al.nil p
  | some x => exact h x (List.mem_of_getElem? hx)
theorem Al.no {p : UInt8 → Bool} {s : ByteArray} (h : Al p s) {c : UInt8} (hc : p c = false) : c ∉ sL s := fun hm => by rw [h c hm] at hc; cases hc
/-- No end of line and no semicolon. -/
def okC (c : UInt8) : Bool := !(decide (c = 10) || decide (c = 59))
theorem ok_okC (c : UInt8) (h : ok8 c = true) : okC c = true := by
  unfold okC
  by_cases h1 : c = 10
  · subst h1; exact absurd h (by decide)
  · by_cases h2 : c = 59
    · subst h2; exact absurd h (by decide)
    · simp [h1, h2]
theorem low_al {s : ByteArray} (h : lowF s = true) : Al ok8 s := (low_facts h).1
theorem high_al {s : ByteArray} (h : highF s = true) : Al ok8 s := (name_facts h).1
theorem arm_al {s : ByteArray} (h : armE s = true) : Al ok8 s := by
  unfold armE at h
  simp only [Bool.or_eq_true, decide_eq_true_eq] at h
  rcases h with (h | rfl) | rfl
  · exact high_al h
  · unfold Al; decide
  · unfold Al; decide
theorem low_c {s : ByteArray} (h : lowF s = true) : Al okC s := (low_al h).mono ok_okC
theorem num_c {s : ByteArray} (h : numG s = true) : Al okC s := by
  unfold numG at h
  simp only [Bool.and_eq_true, List.all_eq_true] at h
  intro c hc
  have := h.2 c hc
  unfold okC
  by_cases h1 : c = 10
  · subst h1; exact absurd this (by decide)
  · by_cases h2 : c = 59
    · subst h2; exact absurd this (by decide)
    · simp [h1, h2]
theorem part_c {s : ByteArray} (h : partF s = true) : Al okC s := by
  intro c hc
  rcases piece_mem (c := 46) hc with q | ⟨p, hp, hx⟩
  · subst q; decide
  · unfold partF at h
    split at h
    · rename_i p' e
      rw [e] at hp
      rw [List.mem_singleton.1 hp] at hx
      exact low_c h c hx
    · rename_i p' q' e
      rw [e] at hp
      rw [Bool.and_eq_true] at h
      rcases List.mem_cons.1 hp with rfl | hp
      · exact low_c h.1 c hx
      · rw [List.mem_singleton.1 hp] at hx
        exact num_c h.2 c hx
    · cases h
theorem path_c {s : ByteArray} (h : pathF s = true) : Al okC s := by
  intro c hc
  rcases piece_mem (c := 47) hc with q | ⟨p, hp, hx⟩
  · subst q; decide
  · unfold pathF at h
    exact part_c (List.all_eq_true.1 h p hp) c hx
theorem dig_c (n : Int) (h : 0 ≤ n) : Al okC (digB n) := by
  intro c hc
  have e : sL (digB n) = Lib.decDigits n.toNat := by
    unfold digB Lib.itoa
    rw [if_neg (by omega)]
  rw [e] at hc
  have := decDigits_dig _ c hc
  unfold okC
  by_cases h1 : c = 10
  · subst h1; exact absurd this (by decide)
  · by_cases h2 : c = 59
    · subst h2; exact absurd this (by decide)
    · simp [h1, h2]
theorem sign_c (op : Int) : Al okC (signT op) := by
  have key : ∀ (c : Prop) [Decidable c] (a b : ByteArray), Al okC a → Al okC b → Al okC (if c then a else b) := by
    intro c _ a b h1 h2
    split
    · exact h1
    · exact h2
  unfold signT
  repeat' first
    | exact Al.nil _
    | refine key _ _ _ (by unfold Al; decide) ?_
theorem onT_c {x a : ByteArray} (hx : Al okC x) (ha : Al okC a) : Al okC (onT x a) := by
  unfold onT
  split
  · exact hx
  · split
    · exact Al.app (by unfold Al; decide) hx
    · exact ha.app (Al.app (by unfold Al; decide) (hx.app (by unfold Al; decide)))
theorem armsT2_c : ∀ {cs ts : List ByteArray}, (∀ s ∈ cs, Al okC s) → (∀ s ∈ ts, Al okC s) → ∀ s ∈ armsT2 cs ts, Al okC s
  | [], [], _, _ => by simp [armsT2]
  | [], _ :: _, _, _ => by simp [armsT2]
  | _ :: _, [], _, _ => by simp [armsT2]
  | c :: cs, t :: ts, h1, h2 => by
    intro s hs
    rw [armsT2] at hs
    rcases List.mem_cons.1 hs with rfl | hs
    · unfold Al; decide
    · rcases List.mem_cons.1 hs with rfl | hs
      · refine Al.cat ?_
        intro s hs
        simp only [List.mem_cons, List.not_mem_nil, or_false] at hs
        rcases hs with rfl | rfl | rfl | rfl | rfl
        · unfold Al; decide
        · exact h1 _ List.mem_cons_self
        · unfold Al; decide
        · exact h2 _ List.mem_cons_self
        · unfold Al; decide
      · exact armsT2_c (fun s hs => h1 s (List.mem_cons_of_mem _ hs)) (fun s hs => h2 s (List.mem_cons_of_mem _ hs)) s hs
theorem cat_c {p : UInt8 → Bool} {x : ByteArray} {l : List ByteArray} (h : Al p x) (h2 : Al p (catB l)) : Al p (catB (x :: l)) := by rw [catB_cons]; exact h.app h2
theorem catz {p : UInt8 → Bool} : Al p (catB []) := Al.nil p
theorem head_c {e : Ex} {ts : List ByteArray} (h : partE e = true) (hts : ∀ s ∈ ts, Al okC s) : Al okC (headT e ts) := by
  obtain ⟨c1, c2, c3, c4, c5, c6, c7, c8, c9, c10, c11, c12⟩ := part_can h
  have hnm : Al okC e.name := by
    by_cases k1 : e.kind = 3 ∨ e.kind = 11 ∨ e.kind = 12 ∨ e.kind = 13
    · exact low_c (c7 k1)
    · by_cases k2 : e.kind = 4
      · exact (high_al (c8 k2)).mono ok_okC
      · by_cases k3 : e.kind = 17
        · exact path_c (c9 k3)
        · rw [c10 k1 k2 k3]; exact Al.nil _
  have har : ∀ a ∈ e.arms, Al okC a := fun a ha => (arm_al (c11 a ha)).mono ok_okC
  have hhd : Al okC (e.arms.headD ⟨#[]⟩) := by
    cases hx : e.arms with
    | nil => exact Al.nil _
    | cons a l => exact har a (by rw [hx]; exact List.mem_cons_self)
  have hg := Al.getD hts
  have hon := onT_c hnm hhd
  have hsg := sign_c e.op
  have key : ∀ (c : Prop) [Decidable c] (a b : ByteArray), Al okC a → (¬ c → Al okC b) → Al okC (if c then a else b) := by
    intro c _ a b h1 h2
    split
    · exact h1
    · exact h2 ‹_›
  have lits : ∀ l : List ByteArray, (∀ s ∈ l, Al okC s) → Al okC (catB l) := fun l h => Al.cat h
  unfold headT
  simp only
  refine key _ _ _ (cat_c (by unfold Al; decide) (cat_c (by split <;> (unfold Al; decide)) (cat_c (hg _) (cat_c (by unfold Al; decide) catz)))) fun _ => ?_
  refine key _ _ _ (cat_c (by unfold Al; decide) (cat_c (hg _) (cat_c (by unfold Al; decide) (cat_c hsg (cat_c (by unfold Al; decide) (cat_c (hg _) (cat_c (by unfold Al; decide) catz))))))) fun _ => ?_
  refine key _ _ _ (cat_c (by unfold Al; decide) (cat_c (by unfold Al; decide) (cat_c (hg _) (cat_c (by unfold Al; decide) (cat_c (hg _) (cat_c (by unfold Al; decide) (cat_c (hg _) (cat_c (by unfold Al; decide) catz)))))))) fun _ => ?_
  refine key _ _ _ (cat_c (by unfold Al; decide) (cat_c (hg _) (cat_c (by unfold Al; decide) (cat_c (hg _) (cat_c (by unfold Al; decide) catz))))) fun _ => ?_
  refine key _ _ _ (cat_c (by unfold Al; decide) (cat_c (hg _) (cat_c (by unfold Al; decide) (cat_c (hg _) (cat_c (by unfold Al; decide) catz))))) fun _ => ?_
  refine key _ _ _ (cat_c (by unfold Al; decide) (cat_c (by unfold Al; decide) (cat_c (hg _) (cat_c (by unfold Al; decide) catz)))) fun _ => ?_
  refine key _ _ _ (cat_c (by unfold Al; decide) (cat_c (hg _) (cat_c (by unfold Al; decide) (cat_c hon (cat_c (by unfold Al; decide) catz))))) fun _ => ?_
  refine key _ _ _ ?_ fun _ => ?_
  · rw [catB_append, catB_append]
    exact ((cat_c (by unfold Al; decide) (cat_c (by unfold Al; decide) (cat_c hnm catz))).app (Al.cat (armsT2_c har hts))).app (cat_c (by unfold Al; decide) catz)
  refine key _ _ _ ?_ fun _ => ?_
  · unfold callTx
    simp only
    have h1 : Al okC (catB [e.name, ⟨#[40]⟩, joinB (ts.take (ts.length - e.n.toNat)) ⟨#[44, 32]⟩, ⟨#[41]⟩]) := cat_c hnm (cat_c (by unfold Al; decide) (cat_c (Al.join (fun s hs => hts s (List.mem_of_mem_take hs)) (by unfold Al; decide)) (cat_c (by unfold Al; decide) catz)))
    split
    · exact h1
    · exact cat_c (by unfold Al; decide) (cat_c h1 (cat_c (by unfold Al; decide) (cat_c (hg _) (cat_c (by unfold Al; decide) catz))))
  refine key _ _ _ (cat_c (by unfold Al; decide) (cat_c (Al.join hts (by unfold Al; decide)) (cat_c (by unfold Al; decide) catz))) fun _ => ?_
  refine key _ _ _ (cat_c (hg _) (cat_c (by unfold Al; decide) (cat_c (hg _) (cat_c (by unfold Al; decide) catz)))) fun _ => ?_
  refine key _ _ _ (cat_c (by unfold Al; decide) (cat_c (hg _) (cat_c (by unfold Al; decide) (cat_c (hg _) (cat_c (by unfold Al; decide) (cat_c (hg _) (cat_c (by unfold Al; decide) catz))))))) fun _ => ?_
  unfold leafT
  split
  · exact dig_c _ (c2 ‹_›)
  · split
    · split <;> (unfold Al; decide)
    · split
      · exact cat_c (by unfold Al; decide) (cat_c hnm (cat_c (by unfold Al; decide) catz))
      · exact hnm
theorem show_c (e : Ex) : PO e → Al okC (showT e) := by
  induction e using Ex.ind with
  | _ e ih =>
  intro hp
  rw [showT_eq]
  refine head_c (hp e (self_parts e)) ?_
  rw [showL_map]
  intro s hs
  obtain ⟨x, hx, rfl⟩ := List.mem_map.1 hs
  exact ih x hx (hp.sub hx)
theorem cutq {c : UInt8} : ∀ {a b r s : L8}, a ++ c :: r = b ++ c :: s → c ∉ a → c ∉ b → a = b ∧ r = s
  | [], [], _, _, h, _, _ => ⟨rfl, by simpa using h⟩
  | [], y :: b, _, _, h, _, hb => by
    simp at h
    exact absurd (by rw [h.1]; exact List.mem_cons_self) hb
  | x :: a, [], _, _, h, ha, _ => by
    simp at h
    exact absurd (by rw [h.1]; exact List.mem_cons_self) ha
  | x :: a, y :: b, r, s, h, ha, hb => by
    simp only [List.cons_append, List.cons.injEq] at h
    obtain ⟨h1, h2⟩ := cutq h.2 (fun q => ha (List.mem_cons_of_mem _ q)) (fun q => hb (List.mem_cons_of_mem _ q))
    exact ⟨by rw [h.1, h1], h2⟩
theorem sL_inj {a b : ByteArray} (h : sL a = sL b) : a = b := bytes_ext h
theorem sL_app (a b : ByteArray) : sL (a ++ b) = sL a ++ sL b := app_list a b
theorem JB_cons (x y : ByteArray) (l : List ByteArray) (sep : ByteArray) : sL (joinB (x :: y :: l) sep) = sL x ++ (sL sep ++ sL (joinB (y :: l) sep)) := by rw [joinB_cons, sL_app, sL_app]
/-- What is joined by c and a space, with no c within. -/
theorem join_inj {c : UInt8} : ∀ {l m : List ByteArray}, (∀ x ∈ l, c ∉ sL x ∧ sL x ≠ []) → (∀ x ∈ m, c ∉ sL x ∧ sL x ≠ []) → sL (joinB l ⟨#[c, 32]⟩) = sL (joinB m ⟨#[c, 32]⟩) → l = m
  | [], [], _, _, _ => rfl
  | [], [y], _, hm, h => by
    rw [joinB_nil, joinB_one] at h
    exact absurd h.symm (hm y List.mem_cons_self).2
  | [], y :: z :: m, _, hm, h => by
    rw [joinB_nil, JB_cons] at h
    simp [sL] at h
  | [x], [], hl, _, h => by
    rw [joinB_nil, joinB_one] at h
    exact absurd h (hl x List.mem_cons_self).2
  | x :: z :: l, [], hl, _, h => by
    rw [joinB_nil, JB_cons] at h
    simp [sL] at h
  | [x], [y], _, _, h => by
    rw [joinB_one, joinB_one] at h
    rw [sL_inj h]
  | [x], y :: z :: m, hl, _, h => by
    rw [joinB_one, JB_cons] at h
    exact absurd (by rw [h]; simp [sL]) (hl x List.mem_cons_self).1
  | x :: z :: l, [y], _, hm, h => by
    rw [joinB_one, JB_cons] at h
    exact absurd (by rw [← h]; simp [sL]) (hm y List.mem_cons_self).1
  | x :: z :: l, y :: w :: m, hl, hm, h => by
    rw [JB_cons, JB_cons] at h
    obtain ⟨h1, h2⟩ := cutq (c := c) (r := 32 :: sL (joinB (z :: l) ⟨#[c, 32]⟩)) (s := 32 :: sL (joinB (w :: m) ⟨#[c, 32]⟩)) (by simpa [sL] using h) (hl x List.mem_cons_self).1 (hm y List.mem_cons_self).1
    have h3 := join_inj (fun a ha => hl a (List.mem_cons_of_mem _ ha)) (fun a ha => hm a (List.mem_cons_of_mem _ ha)) (List.cons.inj h2).2
    rw [sL_inj h1, h3]
/-- Things each of whose texts begins with one byte, and tells where it ends. -/
theorem flat_inj {α : Type} (f : α → L8) (P : α → Prop) (d : UInt8) (hf : ∀ x, ∃ t, f x = d :: t) (hi : ∀ x y r s, P x → P y → f x ++ r = f y ++ s → x = y ∧ r = s) :
    ∀ {l m : List α} {r s : L8}, (∀ x ∈ l, P x) → (∀ x ∈ m, P x) → (∀ t, r ≠ d :: t) → (∀ t, s ≠ d :: t) → l.flatMap f ++ r = m.flatMap f ++ s → l = m ∧ r = s
  | [], [], _, _, _, _, _, _, h => ⟨rfl, by simpa using h⟩
  | [], y :: m, r, s, _, _, hr, _, h => by
    obtain ⟨t, ht⟩ := hf y
    simp [ht] at h
    exact absurd h (hr _)
  | x :: l, [], r, s, _, _, _, hs, h => by
    obtain ⟨t, ht⟩ := hf x
    simp [ht] at h
    exact absurd h.symm (hs _)
  | x :: l, y :: m, r, s, hl, hm, hr, hs, h => by
    rw [List.flatMap_cons, List.flatMap_cons, List.append_assoc, List.append_assoc] at h
    obtain ⟨h1, h2⟩ := hi _ _ _ _ (hl x List.mem_cons_self) (hm y List.mem_cons_self) h
    obtain ⟨h3, h4⟩ := flat_inj f P d hf hi (fun a ha => hl a (List.mem_cons_of_mem _ ha)) (fun a ha => hm a (List.mem_cons_of_mem _ ha)) hr hs h2
    exact ⟨by rw [h1, h3], h4⟩
theorem low_ne {s : ByteArray} (h : lowF s = true) : sL s ≠ [] := by
  obtain ⟨_, ⟨c, t, e, _⟩, _⟩ := low_facts h
  rw [e]; simp
theorem high_ne {s : ByteArray} (h : highF s = true) : sL s ≠ [] := by
  obtain ⟨_, c, t, e, _⟩ := name_facts h
  rw [e]; simp
/-! ### An enum's line -/
def enL (e : DEnum) : L8 := 101 :: 110 :: 117 :: 109 :: 32 :: (sL e.Name ++ 32 :: 123 :: 32 :: (sL (namesT e.Ctors) ++ 32 :: 125 :: 59 :: 10 :: []))
theorem en_line (e : DEnum) : sL (lineT (enumL e)) = enL e := by
  rw [show sL (lineT (enumL e)) = bts (lineT (enumL e)) from rfl, line_bts]
  unfold enumL enL
  simp [bts, sL]
def EnOk (e : DEnum) : Prop := lowF e.Name = true ∧ ∀ c ∈ e.Ctors, highF c = true
theorem names_al {p : UInt8 → Bool} {l : List ByteArray} (h : ∀ c ∈ l, Al p c) (h1 : p 44 = true) (h2 : p 32 = true) : Al p (namesT l) := Al.join h (by intro c hc; simp [sL, commaT] at hc; rcases hc with rfl | rfl; exact h1; exact h2)
def okN (c : UInt8) : Bool := ok8 c || decide (c = 44) || decide (c = 32)
theorem ok_okN (c : UInt8) (h : ok8 c = true) : okN c = true := by unfold okN; simp [h]
theorem names_inj {l m : List ByteArray} (hl : ∀ x ∈ l, Al ok8 x ∧ sL x ≠ []) (hm : ∀ x ∈ m, Al ok8 x ∧ sL x ≠ []) (h : sL (namesT l) = sL (namesT m)) : l = m :=
  join_inj (c := 44) (fun x hx => ⟨(hl x hx).1.no (by decide), (hl x hx).2⟩) (fun x hx => ⟨(hm x hx).1.no (by decide), (hm x hx).2⟩) h
theorem en_inj (x y : DEnum) (r s : L8) (hx : EnOk x) (hy : EnOk y) (h : enL x ++ r = enL y ++ s) : x = y ∧ r = s := by
  obtain ⟨nx, cx⟩ := x
  obtain ⟨ny, cy⟩ := y
  unfold enL at h
  simp only [List.cons_append, List.append_assoc, List.nil_append, List.cons.injEq, true_and] at h
  obtain ⟨h1, h2⟩ := cutq h ((low_al hx.1).no (by decide)) ((low_al hy.1).no (by decide))
  simp only [List.cons.injEq, true_and] at h2
  have a1 : Al okN (namesT cx) := names_al (fun c hc => (high_al (hx.2 c hc)).mono ok_okN) (by decide) (by decide)
  have a2 : Al okN (namesT cy) := names_al (fun c hc => (high_al (hy.2 c hc)).mono ok_okN) (by decide) (by decide)
  obtain ⟨h3, h4⟩ := cutq (c := 125) (a := sL (namesT cx) ++ [32]) (b := sL (namesT cy) ++ [32]) (r := 59 :: 10 :: r) (s := 59 :: 10 :: s) (by simpa using h2) (by simp only [List.mem_append, not_or]; exact ⟨a1.no (by decide), by decide⟩) (by simp only [List.mem_append, not_or]; exact ⟨a2.no (by decide), by decide⟩)
  have h5 := names_inj (fun c hc => ⟨high_al (hx.2 c hc), high_ne (hx.2 c hc)⟩) (fun c hc => ⟨high_al (hy.2 c hc), high_ne (hy.2 c hc)⟩) (List.append_cancel_right h3)
  have h1 := sL_inj h1
  simp only at h1 h5
  subst h1 h5
  simp only [List.cons.injEq, true_and] at h4
  exact ⟨rfl, h4⟩
/-! ### An equation's line -/
noncomputable def eqLn (x : DEq) : L8 := 32 :: 32 :: (sL (namesT x.Names) ++ 32 :: 61 :: 32 :: (sL (exprT x.E) ++ 59 :: 10 :: []))
theorem eq_line (x : DEq) : sL (lineT (eqL x)) = eqLn x := by
  rw [show sL (lineT (eqL x)) = bts (lineT (eqL x)) from rfl, line_bts]
  unfold eqL eqLn
  simp [bts, sL]
theorem eq_facts {x : DEq} (h : eqF x = true) : (∀ c ∈ x.Names, lowF c = true) ∧ rightE x.E = true := by
  unfold eqF at h
  simp only [Bool.and_eq_true, List.all_eq_true] at h
  exact ⟨h.2, h.1.1.2⟩
theorem eq_inj (x y : DEq) (r s : L8) (hx : eqF x = true) (hy : eqF y = true) (h : eqLn x ++ r = eqLn y ++ s) : x = y ∧ r = s := by
  obtain ⟨x1, x2⟩ := eq_facts hx
  obtain ⟨y1, y2⟩ := eq_facts hy
  obtain ⟨nx, ex⟩ := x
  obtain ⟨ny, ey⟩ := y
  unfold eqLn at h
  simp only at x1 x2 y1 y2 h
  rw [exprT_r x2, exprT_r y2] at h
  simp only [List.cons_append, List.append_assoc, List.nil_append, List.cons.injEq, true_and] at h
  have a1 : Al okN (namesT nx) := names_al (fun c hc => (low_al (x1 c hc)).mono ok_okN) (by decide) (by decide)
  have a2 : Al okN (namesT ny) := names_al (fun c hc => (low_al (y1 c hc)).mono ok_okN) (by decide) (by decide)
  obtain ⟨h3, h4⟩ := cutq (c := 61) (a := sL (namesT nx) ++ [32]) (b := sL (namesT ny) ++ [32]) (r := 32 :: (sL (showT ex) ++ 59 :: 10 :: r)) (s := 32 :: (sL (showT ey) ++ 59 :: 10 :: s)) (by simpa using h) (by simp only [List.mem_append, not_or]; exact ⟨a1.no (by decide), by decide⟩) (by simp only [List.mem_append, not_or]; exact ⟨a2.no (by decide), by decide⟩)
  have h5 := names_inj (fun c hc => ⟨low_al (x1 c hc), low_ne (x1 c hc)⟩) (fun c hc => ⟨low_al (y1 c hc), low_ne (y1 c hc)⟩) (List.append_cancel_right h3)
  simp only [List.cons.injEq, true_and] at h4
  obtain ⟨h6, h7⟩ := cutq h4 ((show_c _ (right_PO x2)).no (by decide)) ((show_c _ (right_PO y2)).no (by decide))
  have h8 := show_inj (right_PO x2) (right_PO y2) (sL_inj h6)
  simp only [List.cons.injEq, true_and] at h7
  subst h5 h8
  exact ⟨rfl, h7⟩
/-! ### A variable -/
theorem base_al {l : List DEnum} (hl : ∀ e ∈ l, EnOk e) {t : DTy} (h : rightTyF l.length t = true) : Al ok8 (baseT l t) := by
  unfold rightTyF at h
  have h := of_decide_eq_true h
  unfold baseT
  split
  · unfold Al; decide
  · split
    · obtain ⟨e, he⟩ : ∃ e, l[t.Enum.toNat]? = some e := ⟨_, List.getElem?_eq_getElem (by omega)⟩
      unfold enumN
      rw [he]
      exact low_al (hl e (List.mem_of_getElem? he)).1
    · unfold Al; decide
def lenL (t : DTy) : L8 := if t.Len > 0 then [91, UInt8.ofNat (48 + t.Len).toNat, 93] else []
theorem type_list {l : List DEnum} {t : DTy} (h : rightTyF l.length t = true) : sL (typeT l t) = sL (baseT l t) ++ lenL t := by
  unfold typeT lenL
  rw [if_pos h]
  unfold rightTyF at h
  have h := of_decide_eq_true h
  split
  · rw [u8_48 t.Len (by omega) (by omega), sL_app, sL_app, sL_app]
    simp [sL]
  · simp
theorem len_stop (t : DTy) : stopL (lenL t) := by
  unfold lenL
  split
  · exact stop_cons (by decide)
  · intro c u e; cases e
theorem base_inj {l : List DEnum} (hl : ∀ e ∈ l, EnOk e) (hn : (l.map DEnum.Name).Nodup) {t u : DTy} (h : rightTyF l.length t = true) (h2 : rightTyF l.length u = true) (he : baseT l t = baseT l u) : t.Kind = u.Kind ∧ t.Enum = u.Enum := by
  unfold rightTyF at h h2
  have h := of_decide_eq_true h
  have h2 := of_decide_eq_true h2
  have key : ∀ v : DTy, 0 ≤ v.Enum → v.Enum < l.length → ∃ e, l[v.Enum.toNat]? = some e ∧ enumN l v.Enum.toNat = e.Name ∧ e.Name ≠ tInt ∧ e.Name ≠ tBool := fun v v1 v2 => by
    obtain ⟨e, he⟩ : ∃ e, l[v.Enum.toNat]? = some e := ⟨_, List.getElem?_eq_getElem (by omega)⟩
    have hw := (low_facts (hl e (List.mem_of_getElem? he)).1).2.2
    exact ⟨e, he, by unfold enumN; rw [he], hw _ (List.mem_of_getElem? (i := 21) rfl), hw _ (List.mem_of_getElem? (i := 22) rfl)⟩
  have nn : tInt ≠ tBool := by decide
  unfold baseT at he
  by_cases k2 : t.Kind = 2
  · rw [if_pos k2] at he
    by_cases m2 : u.Kind = 2
    · exact ⟨by omega, by omega⟩
    · rw [if_neg m2] at he
      by_cases m3 : u.Kind = 3
      · rw [if_pos m3] at he
        obtain ⟨e, _, e2, _, e4⟩ := key u (by omega) (by omega)
        rw [e2] at he
        exact absurd he.symm e4
      · rw [if_neg m3] at he
        exact absurd he.symm nn
  · rw [if_neg k2] at he
    by_cases k3 : t.Kind = 3
    · rw [if_pos k3] at he
      obtain ⟨e, e1, e2, e3, e4⟩ := key t (by omega) (by omega)
      rw [e2] at he
      by_cases m2 : u.Kind = 2
      · rw [if_pos m2] at he
        exact absurd he e4
      · rw [if_neg m2] at he
        by_cases m3 : u.Kind = 3
        · rw [if_pos m3] at he
          obtain ⟨f, f1, f2, _, _⟩ := key u (by omega) (by omega)
          rw [f2] at he
          have q1 : (l.map DEnum.Name)[t.Enum.toNat]? = some e.Name := by rw [List.getElem?_map, e1]; rfl
          have q2 : (l.map DEnum.Name)[u.Enum.toNat]? = some f.Name := by rw [List.getElem?_map, f1]; rfl
          have q3 : t.Enum.toNat = u.Enum.toNat := (List.getElem?_inj (by simp; omega) hn).1 (by rw [q1, q2, he])
          exact ⟨by omega, by omega⟩
        · rw [if_neg m3] at he
          exact absurd he e3
    · rw [if_neg k3] at he
      by_cases m2 : u.Kind = 2
      · rw [if_pos m2] at he
        exact absurd he nn
      · rw [if_neg m2] at he
        by_cases m3 : u.Kind = 3
        · rw [if_pos m3] at he
          obtain ⟨e, _, e2, e3, _⟩ := key u (by omega) (by omega)
          rw [e2] at he
          exact absurd he.symm e3
        · exact ⟨by omega, by omega⟩
theorem type_inj {l : List DEnum} (hl : ∀ e ∈ l, EnOk e) (hn : (l.map DEnum.Name).Nodup) {t u : DTy} (h : rightTyF l.length t = true) (h2 : rightTyF l.length u = true) (he : sL (typeT l t) = sL (typeT l u)) : t = u := by
  rw [type_list h, type_list h2] at he
  have e1 := nameR_app (base_al hl h) (len_stop t)
  have e2 := nameR_app (base_al hl h2) (len_stop u)
  rw [he, e2] at e1
  simp only [Prod.mk.injEq] at e1
  obtain ⟨b1, b2⟩ := base_inj hl hn h h2 (sL_inj e1.1.symm)
  have b3 : t.Len = u.Len := by
    have h := of_decide_eq_true (show decide _ = true from h)
    have h2 := of_decide_eq_true (show decide _ = true from h2)
    have q := e1.2
    unfold lenL at q
    split at q
    · split at q
      · simp only [List.cons.injEq, and_true, true_and] at q
        have q := congrArg UInt8.toNat q
        rw [UInt8.toNat_ofNat', UInt8.toNat_ofNat'] at q
        omega
      · cases q
    · split at q
      · cases q
      · omega
  cases t
  cases u
  simp only at b1 b2 b3
  rw [b1, b2, b3]
theorem on_inj {x y a b : ByteArray} (hx : lowF x = true) (hy : lowF y = true) (ha : armE a = true) (hb : armE b = true) (h : onT x a = onT y b) : x = y ∧ a = b := by
  have h := congrArg sL h
  have nx : ∀ c, ok8 c = false → c ∉ sL x := fun c hc => (low_al hx).no hc
  have ny : ∀ c, ok8 c = false → c ∉ sL y := fun c hc => (low_al hy).no hc
  have na : ∀ c, ok8 c = false → c ∉ sL a := fun c hc => (arm_al ha).no hc
  have nb : ∀ c, ok8 c = false → c ∉ sL b := fun c hc => (arm_al hb).no hc
  have notL : sL (⟨#[110, 111, 116, 32]⟩ ++ x) = [110, 111, 116] ++ 32 :: sL x := by rw [sL_app]; rfl
  have notR : sL (⟨#[110, 111, 116, 32]⟩ ++ y) = [110, 111, 116] ++ 32 :: sL y := by rw [sL_app]; rfl
  have cL : sL (a ++ (⟨#[40]⟩ ++ (x ++ ⟨#[41]⟩))) = sL a ++ 40 :: (sL x ++ [41]) := by rw [sL_app, sL_app, sL_app]; rfl
  have cR : sL (b ++ (⟨#[40]⟩ ++ (y ++ ⟨#[41]⟩))) = sL b ++ 40 :: (sL y ++ [41]) := by rw [sL_app, sL_app, sL_app]; rfl
  unfold onT at h
  split at h
  · split at h
    · exact ⟨sL_inj h, by rename_i p q; rw [p, q]⟩
    · split at h
      · rw [notR] at h
        exact absurd (by rw [h]; simp) (nx 32 (by decide))
      · rw [cR] at h
        exact absurd (by rw [h]; simp) (nx 40 (by decide))
  · split at h
    · rw [notL] at h
      split at h
      · exact absurd (by rw [← h]; simp) (ny 32 (by decide))
      · split at h
        · rw [notR] at h
          have := List.append_cancel_left h
          simp only [List.cons.injEq, true_and] at this
          exact ⟨sL_inj this, by rename_i p _ q; rw [p, q]⟩
        · rw [cR] at h
          exact absurd (show (32 : UInt8) ∈ sL b ++ 40 :: (sL y ++ [41]) by rw [← h]; simp) (by
            simp only [List.mem_append, List.mem_cons, List.not_mem_nil, or_false, not_or]
            exact ⟨nb 32 (by decide), by decide, ny 32 (by decide), by decide⟩)
    · rw [cL] at h
      split at h
      · exact absurd (by rw [← h]; simp) (ny 40 (by decide))
      · split at h
        · rw [notR] at h
          exact absurd (show (32 : UInt8) ∈ sL a ++ 40 :: (sL x ++ [41]) by rw [h]; simp) (by
            simp only [List.mem_append, List.mem_cons, List.not_mem_nil, or_false, not_or]
            exact ⟨na 32 (by decide), by decide, nx 32 (by decide), by decide⟩)
        · rw [cR] at h
          obtain ⟨h1, h2⟩ := cutq h (na 40 (by decide)) (nb 40 (by decide))
          exact ⟨sL_inj (List.append_cancel_right h2), sL_inj h1⟩
noncomputable def whenL (d : DDecl) : L8 := if d.On = tNone then [] else 32 :: 119 :: 104 :: 101 :: 110 :: 32 :: sL (onT d.On d.Ctor)
theorem decl_list (l : List DEnum) (d : DDecl) : sL (declT l d) = sL d.Name ++ 58 :: 32 :: (sL (typeT l d.Ty) ++ whenL d) := by
  unfold declT whenL
  split
  · rw [sL_app, sL_app]; simp [sL]
  · rw [sL_app, sL_app, sL_app, sL_app]; simp [sL]
def okTy (c : UInt8) : Bool := ok8 c || decide (c = 91) || decide (c = 93)
theorem low_none : lowF tNone = false := by decide +kernel
theorem decl_facts {n : Nat} {d : DDecl} (h : declaredF n d = true) : lowF d.Name = true ∧ rightTyF n d.Ty = true ∧ (d.On = tNone → d.Ctor = tNone) ∧ (¬ d.On = tNone → lowF d.On = true ∧ armE d.Ctor = true) := by
  unfold declaredF bareF at h
  simp only [Bool.and_eq_true, Bool.or_eq_true, decide_eq_true_eq] at h
  obtain ⟨⟨h1, h2⟩, h3⟩ := h
  refine ⟨h1, h2, fun q => ?_, fun q => ?_⟩
  · rcases h3 with h3 | h3
    · exact h3.2
    · rw [q, low_none] at h3; cases h3.1
  · rcases h3 with h3 | h3
    · exact absurd h3.1 q
    · exact h3
theorem type_al {l : List DEnum} (hl : ∀ e ∈ l, EnOk e) {t : DTy} (h : rightTyF l.length t = true) : Al okTy (typeT l t) := by
  intro c hc
  rw [type_list h] at hc
  have hr := of_decide_eq_true (show decide _ = true from h)
  rcases List.mem_append.1 hc with q | q
  · have := base_al hl h c q
    unfold okTy; simp [this]
  · unfold lenL at q
    split at q
    · simp only [List.mem_cons, List.not_mem_nil, or_false] at q
      rcases q with rfl | rfl | rfl
      · decide
      · have key : ∀ k : Fin 9, okTy (UInt8.ofNat (48 + k.val)) = true := by decide
        have := key ⟨t.Len.toNat, by omega⟩
        rw [show (48 + t.Len).toNat = 48 + t.Len.toNat by omega]
        exact this
      · decide
    · cases q
theorem decl_inj {l : List DEnum} (hl : ∀ e ∈ l, EnOk e) (hn : (l.map DEnum.Name).Nodup) {d f : DDecl} (hd : declaredF l.length d = true) (hf : declaredF l.length f = true) (h : declT l d = declT l f) : d = f := by
  obtain ⟨d1, d2, d3, d4⟩ := decl_facts hd
  obtain ⟨f1, f2, f3, f4⟩ := decl_facts hf
  have h := congrArg sL h
  rw [decl_list, decl_list] at h
  obtain ⟨h1, h2⟩ := cutq h ((low_al d1).no (by decide)) ((low_al f1).no (by decide))
  simp only [List.cons.injEq, true_and] at h2
  have st : ∀ g : DDecl, ∀ c t, whenL g = c :: t → okTy c = false := fun g c t e => by
    unfold whenL at e
    split at e
    · cases e
    · cases e; decide
  have t1 := tk_app (type_al hl d2) (st d)
  have t2 := tk_app (type_al hl f2) (st f)
  rw [h2, t2.1, t2.2] at t1
  have h3 := type_inj hl hn d2 f2 t1.1.symm
  have h4 := t1.2.symm
  have h5 : d.On = f.On ∧ d.Ctor = f.Ctor := by
    unfold whenL at h4
    by_cases o : d.On = tNone
    · rw [if_pos o] at h4
      by_cases o2 : f.On = tNone
      · exact ⟨by rw [o, o2], by rw [d3 o, f3 o2]⟩
      · rw [if_neg o2] at h4; cases h4
    · rw [if_neg o] at h4
      by_cases o2 : f.On = tNone
      · rw [if_pos o2] at h4; cases h4
      · rw [if_neg o2] at h4
        simp only [List.cons.injEq, true_and] at h4
        exact on_inj (d4 o).1 (f4 o2).1 (d4 o).2 (f4 o2).2 (sL_inj h4)
  have h1 := sL_inj h1
  cases d
  cases f
  simp only at h1 h3 h5
  rw [h1, h3, h5.1, h5.2]
/-! ### A list of variables -/
def okV (c : UInt8) : Bool := ok8 c || decide (c = 91) || decide (c = 93) || decide (c = 58) || decide (c = 32) || decide (c = 59)
def okW (c : UInt8) : Bool := okV c || decide (c = 40) || decide (c = 41)
theorem ok_okV (c : UInt8) (h : ok8 c = true) : okV c = true := by unfold okV; simp [h]
theorem okTy_okV (c : UInt8) (h : okTy c = true) : okV c = true := by
  unfold okTy at h
  unfold okV
  simp only [Bool.or_eq_true] at h ⊢
  exact .inl (.inl (.inl h))
theorem okV_okW (c : UInt8) (h : okV c = true) : okW c = true := by unfold okW; simp [h]
def okX (c : UInt8) : Bool := okW c && !decide (c = 59)
theorem ok_okX (c : UInt8) (h : ok8 c = true) : okX c = true := by
  unfold okX
  rw [okV_okW c (ok_okV c h)]
  by_cases h2 : c = 59
  · subst h2; exact absurd h (by decide)
  · simp [h2]
theorem okTy_okX (c : UInt8) (h : okTy c = true) : okX c = true := by
  unfold okX
  rw [okV_okW c (okTy_okV c h)]
  by_cases h2 : c = 59
  · subst h2; exact absurd h (by decide)
  · simp [h2]
theorem onT_x {x a : ByteArray} (hx : Al ok8 x) (ha : Al ok8 a) : Al okX (onT x a) := by
  have hx := hx.mono ok_okX
  have ha := ha.mono ok_okX
  unfold onT
  split
  · exact hx
  · split
    · exact Al.app (by unfold Al; decide) hx
    · exact ha.app (Al.app (by unfold Al; decide) (hx.app (by unfold Al; decide)))
def DsOk (l : List DEnum) (ds : List DDecl) : Prop := ∀ d ∈ ds, declaredF l.length d = true
theorem decl_x {l : List DEnum} (hl : ∀ e ∈ l, EnOk e) {d : DDecl} (hd : declaredF l.length d = true) : Al okX (declT l d) := by
  obtain ⟨d1, d2, d3, d4⟩ := decl_facts hd
  have h1 := (low_al d1).mono ok_okX
  have h2 := (type_al hl d2).mono okTy_okX
  unfold declT
  split
  · exact (h1.app (by unfold Al; decide)).app h2
  · rename_i o
    exact (((h1.app (by unfold Al; decide)).app h2).app (by unfold Al; decide)).app (onT_x (low_al (d4 o).1) (arm_al (d4 o).2))
theorem decl_v {l : List DEnum} (hl : ∀ e ∈ l, EnOk e) {d : DDecl} (hd : declaredF l.length d = true) (o : d.On = tNone) : Al okV (declT l d) := by
  obtain ⟨d1, d2, d3, d4⟩ := decl_facts hd
  have h1 := (low_al d1).mono ok_okV
  have h2 := (type_al hl d2).mono okTy_okV
  unfold declT
  rw [if_pos o]
  exact (h1.app (by unfold Al; decide)).app h2
theorem decl_ne {l : List DEnum} {d : DDecl} : sL (declT l d) ≠ [] := by
  rw [decl_list]
  simp
theorem map_inj {α β : Type} (f : α → β) (P : α → Prop) (hf : ∀ x y, P x → P y → f x = f y → x = y) : ∀ {l m : List α}, (∀ x ∈ l, P x) → (∀ x ∈ m, P x) → l.map f = m.map f → l = m
  | [], [], _, _, _ => rfl
  | [], _ :: _, _, _, h => by simp at h
  | _ :: _, [], _, _, h => by simp at h
  | x :: l, y :: m, hl, hm, h => by
    simp only [List.map_cons, List.cons.injEq] at h
    rw [hf x y (hl x List.mem_cons_self) (hm y List.mem_cons_self) h.1, map_inj f P hf (fun a ha => hl a (List.mem_cons_of_mem _ ha)) (fun a ha => hm a (List.mem_cons_of_mem _ ha)) h.2]
theorem decls_inj {l : List DEnum} (hl : ∀ e ∈ l, EnOk e) (hn : (l.map DEnum.Name).Nodup) {ds fs : List DDecl} (hd : DsOk l ds) (hf : DsOk l fs) (h : sL (declsT l ds) = sL (declsT l fs)) : ds = fs := by
  have key : ∀ gs : List DDecl, DsOk l gs → ∀ x ∈ gs.map (declT l), (59 : UInt8) ∉ sL x ∧ sL x ≠ [] := fun gs hg x hx => by
    obtain ⟨d, hd, rfl⟩ := List.mem_map.1 hx
    exact ⟨(decl_x hl (hg d hd)).no (by decide), decl_ne⟩
  have h2 := join_inj (c := 59) (key ds hd) (key fs hf) h
  exact map_inj (declT l) (fun d => declaredF l.length d = true) (fun x y hx hy he => decl_inj hl hn hx hy he) hd hf h2
theorem decls_v {l : List DEnum} (hl : ∀ e ∈ l, EnOk e) {ds : List DDecl} (hd : DsOk l ds) (ho : ∀ d ∈ ds, d.On = tNone) : Al okV (declsT l ds) := Al.join (fun s hs => by
  obtain ⟨d, hm, rfl⟩ := List.mem_map.1 hs
  exact decl_v hl (hd d hm) (ho d hm)) (by unfold Al; decide)
theorem decls_w {l : List DEnum} (hl : ∀ e ∈ l, EnOk e) {ds : List DDecl} (hd : DsOk l ds) : Al okW (declsT l ds) := Al.join (fun s hs => by
  obtain ⟨d, hm, rfl⟩ := List.mem_map.1 hs
  exact (decl_x hl (hd d hm)).mono fun c h => by unfold okX at h; rw [Bool.and_eq_true] at h; exact h.1) (by unfold Al; decide)
/-! ### A node -/
def vaL (l : List DEnum) (n : DNode) : L8 := if n.Vars.length > 0 then 118 :: 97 :: 114 :: 32 :: (sL (declsT l n.Vars) ++ 59 :: 10 :: []) else []
noncomputable def bodyL (n : DNode) : L8 := 108 :: 101 :: 116 :: 10 :: (n.Eqs.flatMap eqLn ++ 116 :: 101 :: 108 :: 10 :: [])
noncomputable def ndL (l : List DEnum) (n : DNode) : L8 := 110 :: 111 :: 100 :: 101 :: 32 :: (sL n.Name ++ 40 :: (sL (declsT l n.Ins) ++ 41 :: 32 :: 114 :: 101 :: 116 :: 117 :: 114 :: 110 :: 115 :: 32 :: 40 :: (sL (declsT l n.Outs) ++ 41 :: 10 :: (vaL l n ++ bodyL n))))
theorem fold_list {α : Type} (f : α → ByteArray) : ∀ (l : List α) (s : ByteArray), sL (l.foldl (fun s x => s ++ f x) s) = sL s ++ l.flatMap fun x => sL (f x)
  | [], s => by simp
  | x :: l, s => by
    rw [List.foldl_cons, fold_list f l, sL_app, List.flatMap_cons, List.append_assoc]
theorem eqs_list (l : List DEq) (s : ByteArray) : sL (eqsT s l) = sL s ++ l.flatMap eqLn := by
  have h := fold_list (fun x => lineT (eqL x)) l s
  rw [show (fun x => sL (lineT (eqL x))) = eqLn from funext eq_line] at h
  exact h
theorem var_list (l : List DEnum) (n : DNode) : sL (varsT l n) = vaL l n := by
  unfold varsT vaL
  split
  · rw [show sL (lineT (varsL l n)) = bts (lineT (varsL l n)) from rfl, line_bts]
    unfold varsL
    simp [bts, sL]
  · rfl
theorem node_list (l : List DEnum) (n : DNode) : sL (nodeT tNone l n) = ndL l n := by
  rw [nodeT_eq]
  unfold headN
  rw [sL_app, eqs_list, sL_app, sL_app, sL_app, var_list]
  have h1 : sL (lineT (nodeL l n)) = 110 :: 111 :: 100 :: 101 :: 32 :: (sL n.Name ++ 40 :: (sL (declsT l n.Ins) ++ 41 :: 32 :: 114 :: 101 :: 116 :: 117 :: 114 :: 110 :: 115 :: 32 :: 40 :: (sL (declsT l n.Outs) ++ 41 :: 10 :: []))) := by
    rw [show sL (lineT (nodeL l n)) = bts (lineT (nodeL l n)) from rfl, line_bts]
    unfold nodeL
    simp [bts, sL]
  have h2 : sL (lineT letL) = 108 :: 101 :: 116 :: 10 :: [] := by decide +kernel
  have h3 : sL (lineT telL) = 116 :: 101 :: 108 :: 10 :: [] := by decide +kernel
  rw [h1, h2, h3]
  unfold ndL bodyL
  simp [sL, tNone]
def NdGood (l : List DEnum) (n : DNode) : Prop := lowF n.Name = true ∧ DsOk l n.Ins ∧ DsOk l n.Outs ∧ DsOk l n.Vars ∧ (∀ d ∈ n.Ins, d.On = tNone) ∧ (∀ d ∈ n.Outs, d.On = tNone) ∧ ∀ x ∈ n.Eqs, eqF x = true
theorem nd_good {l : List DEnum} {n : DNode} (h : nodeF l.length n = true) : NdGood l n := by
  unfold nodeF bareN at h
  simp only [Bool.and_eq_true, List.all_eq_true, decide_eq_true_eq, allV] at h
  obtain ⟨⟨⟨h1, h2⟩, h3⟩, h4, _⟩ := h
  refine ⟨h4, fun d hd => h1 d (by simp [hd]), fun d hd => h1 d (by simp [hd]), fun d hd => h1 d (by simp [hd]), fun d hd => h2 d (by simp [hd]), fun d hd => h2 d (by simp [hd]), h3⟩
theorem body_inj {x y : DNode} {r s : L8} (hx : ∀ q ∈ x.Eqs, eqF q = true) (hy : ∀ q ∈ y.Eqs, eqF q = true) (h : bodyL x ++ r = bodyL y ++ s) : x.Eqs = y.Eqs ∧ r = s := by
  unfold bodyL at h
  simp only [List.cons_append, List.append_assoc, List.nil_append, List.cons.injEq, true_and] at h
  obtain ⟨h1, h2⟩ := flat_inj eqLn (fun q => eqF q = true) 32 (fun x => ⟨_, rfl⟩) eq_inj hx hy (by simp) (by simp) h
  simp only [List.cons.injEq, true_and] at h2
  exact ⟨h1, h2⟩
theorem vars_inj {l : List DEnum} (hl : ∀ e ∈ l, EnOk e) (hn : (l.map DEnum.Name).Nodup) {x y : DNode} {r s : L8} (hx : DsOk l x.Vars) (hy : DsOk l y.Vars) (h : vaL l x ++ 108 :: r = vaL l y ++ 108 :: s) : x.Vars = y.Vars ∧ r = s := by
  unfold vaL at h
  by_cases h1 : x.Vars.length > 0
  · rw [if_pos h1] at h
    by_cases h2 : y.Vars.length > 0
    · rw [if_pos h2] at h
      simp only [List.cons_append, List.append_assoc, List.nil_append, List.cons.injEq, true_and] at h
      obtain ⟨h3, h4⟩ := cutq (c := 10) (a := sL (declsT l x.Vars) ++ [59]) (b := sL (declsT l y.Vars) ++ [59]) (r := 108 :: r) (s := 108 :: s) (by simpa using h) (by simp only [List.mem_append, not_or]; exact ⟨(decls_w hl hx).no (by decide), by decide⟩) (by simp only [List.mem_append, not_or]; exact ⟨(decls_w hl hy).no (by decide), by decide⟩)
      exact ⟨decls_inj hl hn hx hy (List.append_cancel_right h3), (List.cons.inj h4).2⟩
    · rw [if_neg h2] at h
      simp at h
  · rw [if_neg h1] at h
    by_cases h2 : y.Vars.length > 0
    · rw [if_pos h2] at h
      simp at h
    · rw [if_neg h2] at h
      refine ⟨?_, by simpa using h⟩
      rw [List.length_eq_zero_iff.1 (by omega : x.Vars.length = 0), List.length_eq_zero_iff.1 (by omega : y.Vars.length = 0)]
theorem nd_inj {l : List DEnum} (hl : ∀ e ∈ l, EnOk e) (hn : (l.map DEnum.Name).Nodup) (x y : DNode) (r s : L8) (hx : NdGood l x) (hy : NdGood l y) (h : ndL l x ++ r = ndL l y ++ s) : x = y ∧ r = s := by
  obtain ⟨x1, x2, x3, x4, x5, x6, x7⟩ := hx
  obtain ⟨y1, y2, y3, y4, y5, y6, y7⟩ := hy
  unfold ndL at h
  simp only [List.cons_append, List.append_assoc, List.cons.injEq, true_and] at h
  obtain ⟨e1, h⟩ := cutq h ((low_al x1).no (by decide)) ((low_al y1).no (by decide))
  obtain ⟨e2, h⟩ := cutq h ((decls_v hl x2 x5).no (by decide)) ((decls_v hl y2 y5).no (by decide))
  simp only [List.cons.injEq, true_and] at h
  obtain ⟨e3, h⟩ := cutq h ((decls_v hl x3 x6).no (by decide)) ((decls_v hl y3 y6).no (by decide))
  simp only [List.cons.injEq, true_and] at h
  obtain ⟨e4, h⟩ := vars_inj hl hn (r := 101 :: 116 :: 10 :: (x.Eqs.flatMap eqLn ++ 116 :: 101 :: 108 :: 10 :: r)) (s := 101 :: 116 :: 10 :: (y.Eqs.flatMap eqLn ++ 116 :: 101 :: 108 :: 10 :: s)) x4 y4 (by simpa [bodyL] using h)
  obtain ⟨e5, h⟩ := body_inj (r := r) (s := s) x7 y7 (by simpa [bodyL] using h)
  have e1 := sL_inj e1
  have e2 := decls_inj hl hn x2 y2 e2
  have e3 := decls_inj hl hn x3 y3 e3
  refine ⟨?_, h⟩
  clear x1 x2 x3 x4 x5 x6 x7 y1 y2 y3 y4 y5 y6 y7
  cases x
  cases y
  simp only at e1 e2 e3 e4 e5
  rw [e1, e2, e3, e4, e5]
/-! ### A program -/
theorem nodes_list (l : List DEnum) : ∀ (ns : List DNode) (s : ByteArray), sL (nodesT s l ns) = sL s ++ ns.flatMap (ndL l)
  | [], s => by show sL s = _; simp
  | n :: ns, s => by
    have h : nodesT s l (n :: ns) = nodesT (nodeT s l n) l ns := rfl
    rw [h, nodes_list l ns, nodeT_app, sL_app, node_list, List.flatMap_cons, List.append_assoc]
theorem text_list {p : DProg} (h : checkF p = 0) : sL (textT p) = p.Enums.flatMap enL ++ p.Nodes.flatMap (ndL p.Enums) := by
  unfold textT
  rw [if_pos h, nodes_list]
  have h2 := fold_list (fun e => lineT (enumL e)) p.Enums tNone
  rw [show (fun e => sL (lineT (enumL e))) = enL from funext en_line] at h2
  rw [show sL (enumsT p.Enums) = _ from h2]
  rfl
theorem once_nd {l : List ByteArray} (h : onceB l = true) : l.Nodup := by
  apply Classical.byContradiction
  intro q
  rw [onceB_no q] at h
  cases h
theorem check_facts {p : DProg} (h : checkF p = 0) : (∀ e ∈ p.Enums, EnOk e) ∧ (p.Enums.map DEnum.Name).Nodup ∧ ∀ n ∈ p.Nodes, NdGood p.Enums n := by
  unfold checkF at h
  split at h
  · rename_i hne
    exact absurd h hne
  rename_i he
  have he := Classical.not_not.1 he
  split at h
  · exact absurd h (by decide)
  split at h
  · exact absurd h (by decide)
  split at h
  · rename_i hn
    have hn := List.all_eq_true.1 hn
    unfold enumsF at he
    split at he
    · exact absurd he (by decide)
    split at he
    · rename_i hr
      unfold rightEn at hr
      simp only [Bool.and_eq_true, List.all_eq_true] at hr
      split at he
      · rename_i ho
        rw [Bool.and_eq_true] at ho
        exact ⟨fun e hm => ⟨(hr.1 e hm).1, fun c hc => hr.2 c (List.mem_flatMap.2 ⟨e, hm, hc⟩)⟩, once_nd ho.1, fun n hm => nd_good (hn n hm)⟩
      · exact absurd he (by decide)
    · exact absurd he (by decide)
  · exact absurd h (by decide)
theorem nds_first (l : List DEnum) (ns : List DNode) : ∀ t, ns.flatMap (ndL l) ≠ 101 :: t := by
  intro t
  cases ns with
  | nil => simp
  | cons n ns => simp [ndL]
theorem text_inj {p q : DProg} (hp : checkF p = 0) (hq : checkF q = 0) (h : textT p = textT q) : p = q := by
  obtain ⟨p1, p2, p3⟩ := check_facts hp
  obtain ⟨q1, q2, q3⟩ := check_facts hq
  have h := congrArg sL h
  rw [text_list hp, text_list hq] at h
  obtain ⟨h1, h2⟩ := flat_inj enL EnOk 101 (fun x => ⟨_, rfl⟩) en_inj p1 q1 (nds_first _ _) (nds_first _ _) h
  rw [← h1] at h2 q3
  obtain ⟨h3, _⟩ := flat_inj (ndL p.Enums) (NdGood p.Enums) 110 (fun x => ⟨_, rfl⟩) (nd_inj p1 p2) p3 q3 (r := []) (s := []) (by simp) (by simp) (by simpa using h2)
  cases p
  cases q
  simp only at h1 h3
  rw [h1, h3]
theorem text_some {p : DProg} (hp : checkF p = 0) : textT p ≠ ⟨#[]⟩ := by
  intro h
  have h := congrArg sL h
  rw [text_list hp] at h
  have hn := check_nodes hp
  obtain ⟨n, hn⟩ := List.exists_mem_of_length_pos (Nat.pos_of_ne_zero hn)
  have : 110 ∈ p.Enums.flatMap enL ++ p.Nodes.flatMap (ndL p.Enums) := List.mem_append_right _ (List.mem_flatMap.2 ⟨n, hn, by simp [ndL]⟩)
  rw [h] at this
  simp [sL] at this
def clk (n : DNode) : Nat → ByteArray → List DDecl → List DDecl × Bool
  | 0, _, _ => ([], false)
  | k + 1, name, acc => if (decl n name).2 = true then (if (decl n name).1.On = ⟨#[]⟩ then (acc, true) else clk n k (decl n name).1.On ((decl n name).1 :: acc)) else ([], false)
def clock (n : DNode) (name : ByteArray) : List DDecl × Bool := clk n 13 name []
theorem ext_Ex {x y : Ex} (h0 : x.kind = y.kind) (h1 : x.n = y.n) (h2 : x.name = y.name) (h3 : x.op = y.op) (h4 : x.arms = y.arms) (h5 : x.subs = y.subs) : x = y := by
  cases x; cases y
  simp only [Ex.kind, Ex.n, Ex.name, Ex.op, Ex.arms, Ex.subs] at *
  subst_vars
  rfl
theorem ext_DEnum {x y : DEnum} (h0 : x.Name = y.Name) (h1 : x.Ctors = y.Ctors) : x = y := by cases x; cases y; simp_all
theorem ext_DEq {x y : DEq} (h0 : x.Names = y.Names) (h1 : x.E = y.E) : x = y := by cases x; cases y; simp_all
theorem ext_DNode {x y : DNode} (h0 : x.Name = y.Name) (h1 : x.Ins = y.Ins) (h2 : x.Outs = y.Outs) (h3 : x.Vars = y.Vars) (h4 : x.Eqs = y.Eqs) : x = y := by cases x; cases y; simp_all
theorem ext_DProg {x y : DProg} (h0 : x.Enums = y.Enums) (h1 : x.Nodes = y.Nodes) : x = y := by cases x; cases y; simp_all


theorem exSame118 : ∀ (e f : Ex), PCall Tryz.prog 58 [e.enc, f.enc] (.b (eqB e f)) := by
  intro e
  induction e using Ex.ind with
  | _ e ih =>
  intro f
  generalize hR : eqB e f = R
  refine pcall_of_vc tabOK Tryz.func58 (by kernel_rfl) rfl pureL pureI (n := 68) rfl (rs := [.tmp 4]) rfl ?_
  repeat' first
    | exact finB rfl
    | exact finI rfl
    | exact finP rfl
    | exact absurd rfl (by assumption)
    | simp only [go_sem]
    | (intro _)
    | refine brK_dec (fun _ => ?_) (fun _ => ?_)
    | refine brK_any ?_ ?_
    | refine gK_dec (fun _ => ?_) (fun _ => ?_)
    | refine gK_any ?_ ?_
    | refine gqK_dec (fun _ => ?_) (fun _ => ?_)
    | refine ⟨by omega, ?_⟩
    | refine elemHave (by omega) (by assumption) ?_
    | refine elemMap (by omega) (by omega) (fun x hx => ?_)
    | refine drawK mo (by kernel_rfl) ?_
    | (rw [← hR, eqB_ne (by rintro rfl; contradiction)]; exact ⟨_, rfl, false, .refl _⟩)
    | (rw [← hR, eqB_ne (fun h => at_ne' (l := e.subs) (m := f.subs) (i := i) (by assumption) (by assumption) (by assumption) (congrArg Ex.subs h))]; exact ⟨_, rfl, false, .refl _⟩)
    | (rw [← hR, eqB_eq (ext_Ex (by first | assumption | exact Classical.not_not.1 (by assumption)) (by first | assumption | exact Classical.not_not.1 (by assumption)) (by first | assumption | exact Classical.not_not.1 (by assumption)) (by first | assumption | exact Classical.not_not.1 (by assumption)) (by first | assumption | exact Classical.not_not.1 (by assumption)) (take_eq_full (i := i) (by omega) hpi (by omega)))]; exact ⟨_, rfl, false, .refl _⟩)
    | (refine PCall.call (namesStr _ _) ?_; generalize he : eqB (α := List ByteArray) _ _ = b; cases b <;> first | replace he := eqB_t he | replace he := eqB_f he)
    | (refine pcK_of (ih _ (List.mem_of_getElem? (by assumption)) _) ?_; generalize he : eqB (α := Ex) _ _ = b; cases b <;> first | replace he := eqB_t he | replace he := eqB_f he)
    | exact loopFrH _ (by omega) ⟨i + 1, by omega, rfl, take_eq_step' hpi (by assumption) (by assumption) (by assumption), rfl⟩ (.next rfl (by omega) .nil) rfl
    | (refine loop_frH [4, 5, 49, 50, 51, 52, 53, 54, 55, 56, 57, 58, 59, 60, 61, 62, 63, 64, 65, 66, 67] (fun mm_ CC_ => ∃ (i : Nat), i ≤ e.subs.length ∧ mm_ = e.subs.length - i ∧ (e.subs.take i = f.subs.take i) ∧ CC_ = [(5, .raw (.int .i64 ((i : Nat) : Int)))]) (e.subs.length) _ ⟨0, by omega, by omega, rfl, rfl⟩ (.cons rfl .nil) ?_; rintro mm_ CC_ ji ⟨i, hi, rfl, hpi, rfl⟩)

theorem enums78 (l m : List DEnum) : PCall Tryz.prog 30 [.lst 2 (l.map DEnum.enc) none, .lst 2 (m.map DEnum.enc) none] (.b (eqB l m)) := by
  refine pcall_of_vc tabOK Tryz.func30 (by kernel_rfl) rfl pureL pureI (n := 42) rfl (rs := [.tmp 4]) rfl ?_
  repeat' first
    | exact finB rfl
    | exact finI rfl
    | exact finP rfl
    | exact absurd rfl (by assumption)
    | simp only [go_sem]
    | (intro _)
    | refine brK_dec (fun _ => ?_) (fun _ => ?_)
    | refine brK_any ?_ ?_
    | refine gK_dec (fun _ => ?_) (fun _ => ?_)
    | refine gK_any ?_ ?_
    | refine gqK_dec (fun _ => ?_) (fun _ => ?_)
    | refine ⟨by omega, ?_⟩
    | refine elemHave (by omega) (by assumption) ?_
    | refine elemMap (by omega) (by omega) (fun x hx => ?_)
    | refine drawK mo (by kernel_rfl) ?_
    | (rw [eqB_ne (by rintro rfl; contradiction)]; exact ⟨_, rfl, false, .refl _⟩)
    | (rw [eqB_ne (at_ne' (l := l) (m := m) (i := i) (by assumption) (by assumption) (by rintro rfl; contradiction))]; exact ⟨_, rfl, false, .refl _⟩)
    | (rw [eqB_eq (take_eq_full (i := i) (by omega) hpi (by omega))]; exact ⟨_, rfl, false, .refl _⟩)
    | (refine pcK_of (namesStr _ _) ?_; generalize he : eqB (α := List ByteArray) _ _ = b; cases b <;> first | replace he := eqB_t he | replace he := eqB_f he)
    | exact loopFrH _ (by omega) ⟨i + 1, by omega, rfl, take_eq_step' hpi (by assumption) (by assumption) (ext_DEnum (by first | assumption | exact Classical.not_not.1 (by assumption)) (by first | assumption | exact Classical.not_not.1 (by assumption))), rfl⟩ (.next rfl (by omega) .nil) rfl
    | (refine loop_frH [4, 5, 11, 12, 13, 14, 15, 16, 17, 18, 19, 20, 21, 22, 23, 24, 25, 26, 27, 28, 29, 30, 31, 32, 33, 34, 35, 36, 37, 38, 39, 40, 41] (fun mm_ CC_ => ∃ (i : Nat), i ≤ l.length ∧ mm_ = l.length - i ∧ (l.take i = m.take i) ∧ CC_ = [(5, .raw (.int .i64 ((i : Nat) : Int)))]) (l.length) _ ⟨0, by omega, by omega, rfl, rfl⟩ (.cons rfl .nil) ?_; rintro mm_ CC_ ji ⟨i, hi, rfl, hpi, rfl⟩)

theorem sameNode79 (a b : DNode) : PCall Tryz.prog 31 [a.enc, b.enc] (.b (eqB a b)) := by
  refine pcall_of_vc tabOK Tryz.func31 (by kernel_rfl) rfl pureL pureI (n := 81) rfl (rs := [.tmp 4]) rfl ?_
  repeat' first
    | exact finB rfl
    | exact finI rfl
    | exact finP rfl
    | exact absurd rfl (by assumption)
    | simp only [go_sem]
    | (intro _)
    | refine brK_dec (fun _ => ?_) (fun _ => ?_)
    | refine brK_any ?_ ?_
    | refine gK_dec (fun _ => ?_) (fun _ => ?_)
    | refine gK_any ?_ ?_
    | refine gqK_dec (fun _ => ?_) (fun _ => ?_)
    | refine ⟨by omega, ?_⟩
    | refine elemHave (by omega) (by assumption) ?_
    | refine elemMap (by omega) (by omega) (fun x hx => ?_)
    | refine drawK mo (by kernel_rfl) ?_
    | (rw [eqB_ne (by rintro rfl; contradiction)]; exact ⟨_, rfl, false, .refl _⟩)
    | (rw [eqB_ne (fun h => at_ne' (l := a.Eqs) (m := b.Eqs) (i := i) (by assumption) (by assumption) (by rintro rfl; contradiction) (congrArg DNode.Eqs h))]; exact ⟨_, rfl, false, .refl _⟩)
    | (rw [eqB_eq (ext_DNode (by first | assumption | exact Classical.not_not.1 (by assumption)) (by first | assumption | exact Classical.not_not.1 (by assumption)) (by first | assumption | exact Classical.not_not.1 (by assumption)) (by first | assumption | exact Classical.not_not.1 (by assumption)) (take_eq_full (i := i) (by omega) hpi (by omega)))]; exact ⟨_, rfl, false, .refl _⟩)
    | (refine PCall.call (sameDecls _ _) ?_; generalize he : eqB (α := List DDecl) _ _ = b; cases b <;> first | replace he := eqB_t he | replace he := eqB_f he)
    | (refine pcK_of (namesStr _ _) ?_; generalize he : eqB (α := List ByteArray) _ _ = b; cases b <;> first | replace he := eqB_t he | replace he := eqB_f he)
    | (refine pcK_of (exSame118 _ _) ?_; generalize he : eqB (α := Ex) _ _ = b; cases b <;> first | replace he := eqB_t he | replace he := eqB_f he)
    | exact loopFrH _ (by omega) ⟨i + 1, by omega, rfl, take_eq_step' hpi (by assumption) (by assumption) (ext_DEq (by first | assumption | exact Classical.not_not.1 (by assumption)) (by first | assumption | exact Classical.not_not.1 (by assumption))), rfl⟩ (.next rfl (by omega) .nil) rfl
    | (refine loop_frH [4, 5, 44, 45, 46, 47, 48, 49, 50, 51, 52, 53, 54, 55, 56, 57, 58, 59, 60, 61, 62, 63, 64, 65, 66, 67, 68, 69, 70, 71, 72, 73, 74, 75, 76, 77, 78, 79, 80] (fun mm_ CC_ => ∃ (i : Nat), i ≤ a.Eqs.length ∧ mm_ = a.Eqs.length - i ∧ (a.Eqs.take i = b.Eqs.take i) ∧ CC_ = [(5, .raw (.int .i64 ((i : Nat) : Int)))]) (a.Eqs.length) _ ⟨0, by omega, by omega, rfl, rfl⟩ (.cons rfl .nil) ?_; rintro mm_ CC_ ji ⟨i, hi, rfl, hpi, rfl⟩)

theorem same36 (a b : DProg) : PCall Tryz.prog 11 [a.enc, b.enc] (.b (eqB a b)) := by
  refine pcall_of_vc tabOK Tryz.func11 (by kernel_rfl) rfl pureL pureI (n := 40) rfl (rs := [.tmp 4]) rfl ?_
  repeat' first
    | exact finB rfl
    | exact finI rfl
    | exact finP rfl
    | exact absurd rfl (by assumption)
    | simp only [go_sem]
    | (intro _)
    | refine brK_dec (fun _ => ?_) (fun _ => ?_)
    | refine brK_any ?_ ?_
    | refine gK_dec (fun _ => ?_) (fun _ => ?_)
    | refine gK_any ?_ ?_
    | refine gqK_dec (fun _ => ?_) (fun _ => ?_)
    | refine ⟨by omega, ?_⟩
    | refine elemHave (by omega) (by assumption) ?_
    | refine elemMap (by omega) (by omega) (fun x hx => ?_)
    | refine drawK mo (by kernel_rfl) ?_
    | (rw [eqB_ne (by rintro rfl; contradiction)]; exact ⟨_, rfl, false, .refl _⟩)
    | (rw [eqB_ne (fun h => at_ne' (l := a.Nodes) (m := b.Nodes) (i := i) (by assumption) (by assumption) (by assumption) (congrArg DProg.Nodes h))]; exact ⟨_, rfl, false, .refl _⟩)
    | (rw [eqB_eq (ext_DProg (by first | assumption | exact Classical.not_not.1 (by assumption)) (take_eq_full (i := i) (by omega) hpi (by omega)))]; exact ⟨_, rfl, false, .refl _⟩)
    | (refine PCall.call (enums78 _ _) ?_; generalize he : eqB (α := List DEnum) _ _ = b; cases b <;> first | replace he := eqB_t he | replace he := eqB_f he)
    | (refine pcK_of (sameNode79 _ _) ?_; generalize he : eqB (α := DNode) _ _ = b; cases b <;> first | replace he := eqB_t he | replace he := eqB_f he)
    | exact loopFrH _ (by omega) ⟨i + 1, by omega, rfl, take_eq_step' hpi (by assumption) (by assumption) (by assumption), rfl⟩ (.next rfl (by omega) .nil) rfl
    | (refine loop_frH [4, 5, 21, 22, 23, 24, 25, 26, 27, 28, 29, 30, 31, 32, 33, 34, 35, 36, 37, 38, 39] (fun mm_ CC_ => ∃ (i : Nat), i ≤ a.Nodes.length ∧ mm_ = a.Nodes.length - i ∧ (a.Nodes.take i = b.Nodes.take i) ∧ CC_ = [(5, .raw (.int .i64 ((i : Nat) : Int)))]) (a.Nodes.length) _ ⟨0, by omega, by omega, rfl, rfl⟩ (.cons rfl .nil) ?_; rintro mm_ CC_ ji ⟨i, hi, rfl, hpi, rfl⟩)

theorem law_apart13 (a b : DProg) (hra : a.ok) (hrb : b.ok) : PCall Tryz.prog 4 [a.enc, b.enc] (.b true) := by
  refine pcall_of_vc tabOK Tryz.func4 (by kernel_rfl) rfl pureL pureI (n := 41) rfl (rs := [.tmp 4]) rfl ?_
  simp only [go_sem]
  refine PCallE.call (small_p _) (fun r hr => ?_)
  obtain ⟨q, rfl, he⟩ := hr
  cases q with
  | false =>
    repeat' first
      | simp only [go_sem]
      | (refine PCall.call live13 ?_)
      | exact finBq rfl rfl
  | true =>
    replace he := he rfl
    simp only [go_sem]
    refine PCallE.call (small_p _) (fun r hr => ?_)
    obtain ⟨q, rfl, hf⟩ := hr
    cases q with
    | false =>
      repeat' first
        | simp only [go_sem]
        | (refine PCall.call live13 ?_)
        | exact finBq rfl rfl
    | true =>
      replace hf := hf rfl
      have c1 := checkX a he
      have c2 := checkX b hf
      simp only [go_sem]
      refine PCall.call c1 ?_
      simp only [go_sem]
      by_cases ha : checkF a = 0
      case neg =>
        rw [decide_eq_true (show ¬ checkF a = 0 from ha)]
        repeat' first
          | simp only [go_sem]
          | (refine PCall.call live13 ?_)
          | exact finBq rfl rfl
      rw [decide_eq_false (show ¬ ¬ checkF a = 0 from fun h => h ha)]
      simp only [go_sem]
      refine PCall.call c2 ?_
      simp only [go_sem]
      by_cases hb : checkF b = 0
      case neg =>
        rw [decide_eq_true (show ¬ checkF b = 0 from hb)]
        repeat' first
          | simp only [go_sem]
          | (refine PCall.call live13 ?_)
          | exact finBq rfl rfl
      rw [decide_eq_false (show ¬ ¬ checkF b = 0 from fun h => h hb)]
      have e1 := textP a (pr_ok hra he)
      have e2 := textP b (pr_ok hrb hf)
      have hX := text_some ha
      have hi : textT a = textT b → a = b := text_inj ha hb
      have hsame := same36 a b
      by_cases hab : a = b
      · subst hab
        rw [eqB_eq rfl] at hsame
        generalize textT a = X at *
        repeat' first
          | simp only [go_sem]
          | refine drawK moB (by kernel_rfl) ?_
          | (refine pcK_of e1 ?_)
          | (refine pcK_of hsame ?_)
          | (refine pcK_of live13 ?_)
          | refine gK_dec (fun _ => ?_) (fun _ => ?_)
          | refine gqK_dec (fun _ => ?_) (fun _ => ?_)
          | (exfalso; exact hX (by assumption))
          | (exfalso; exact absurd hX (by assumption))
          | (exfalso; exact absurd rfl (by assumption))
          | exact finBq rfl (by simp [hX])
      · rw [eqB_ne hab] at hsame
        have hne : ¬ textT a = textT b := fun q => hab (hi q)
        generalize textT a = X at *
        generalize textT b = Y at *
        repeat' first
          | simp only [go_sem]
          | refine drawK moB (by kernel_rfl) ?_
          | (refine pcK_of e1 ?_)
          | (refine pcK_of e2 ?_)
          | (refine pcK_of hsame ?_)
          | (refine pcK_of live13 ?_)
          | refine gK_dec (fun _ => ?_) (fun _ => ?_)
          | refine gqK_dec (fun _ => ?_) (fun _ => ?_)
          | (exfalso; exact hX (by assumption))
          | (exfalso; exact absurd hX (by assumption))
          | (exfalso; exact hne (by assumption))
          | (exfalso; exact absurd (decide_eq_false hne) (by assumption))
          | exact finBq rfl (by simp [hX, hne])
end Go.Proofs.YtkjfhhioomnbfaaGreatDoor
