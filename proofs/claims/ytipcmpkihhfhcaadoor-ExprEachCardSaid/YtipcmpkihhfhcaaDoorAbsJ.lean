/-
  Plain data of texts cut at a byte: the first place of a byte, and what lies ahead of it and behind it.
-/
import Derived.Test.YtipcmpkihhfhcaaDoorAbsI
import Derived.Lib.Bytealg
namespace Go.Abs
open Go

theorem bts_extract (t : ByteArray) (i j : Nat) : bts (t.extract i j) = ((bts t).take j).drop i := by
  simp only [bts, ByteArray.data_extract, Array.toList_extract, List.extract_eq_take_drop]
  rw [List.drop_take]
theorem of_bts (t : ByteArray) : (⟨(bts t).toArray⟩ : ByteArray) = t := by cases t; simp [bts]
theorem idx_no {c : UInt8} : ∀ {l : List UInt8}, c ∉ l → Lib.indexByte l c = -1
  | [], _ => rfl
  | b :: l, h => by
    have h1 : (b == c) = false := by simp; exact fun e => h (by simp [e])
    have h2 := idx_no (l := l) (c := c) fun hm => h (by simp [hm])
    rw [Lib.indexByte, h1, h2]; rfl
theorem idx_at {c : UInt8} : ∀ {l : List UInt8}, c ∈ l → ∃ m : Nat, Lib.indexByte l c = m ∧ m < l.length ∧ l = l.take m ++ c :: l.drop (m + 1) ∧ c ∉ l.take m
  | [], h => by simp at h
  | b :: l, h => by
    by_cases hb : b = c
    · exact ⟨0, by simp [Lib.indexByte, hb], by simp, by simp [hb], by simp⟩
    · have hm : c ∈ l := by
        rcases List.mem_cons.1 h with e | e
        · exact absurd e.symm hb
        · exact e
      obtain ⟨m, h1, h2, h3, h4⟩ := idx_at hm
      refine ⟨m + 1, ?_, by simp; omega, ?_, ?_⟩
      · have h0 : (b == c) = false := by simpa using hb
        have hne : ((m : Int) == -1) = false := by first | (simp; done) | (simp; omega)
        rw [Lib.indexByte, h0, h1, hne]
        simp
      · simp only [List.take_succ_cons, List.drop_succ_cons, List.cons_append]
        rw [← h3]
      · simp only [List.take_succ_cons, List.mem_cons, not_or]
        exact ⟨fun e => hb e.symm, h4⟩
theorem pieces_no {c : UInt8} {t : ByteArray} (h : c ∉ bts t) : pieces c t = [t] := by
  unfold pieces
  rw [splitL_no h]
  simp
theorem pieces_at {c : UInt8} {t : ByteArray} {m : Nat} (_hm : m < (bts t).length) (h3 : bts t = (bts t).take m ++ c :: (bts t).drop (m + 1)) (h4 : c ∉ (bts t).take m) :
    pieces c t = t.extract 0 m :: pieces c (t.extract (m + 1) t.size) := by
  unfold pieces
  have e1 : bts (t.extract 0 m) = (bts t).take m := by rw [bts_extract]; simp
  have e2 : bts (t.extract (m + 1) t.size) = (bts t).drop (m + 1) := by rw [bts_extract, List.take_of_length_le (by rw [bts_len]; exact Nat.le_refl _)]
  rw [e2]
  conv => lhs; rw [h3]
  rw [splitL_at _ h4, List.map_cons, ← e1, of_bts]
theorem pieces_len (c : UInt8) (t : ByteArray) : (pieces c t).length = (bts t).count c + 1 := by
  unfold pieces
  rw [List.length_map, splitL_len]
theorem pieces_join (c : UInt8) (s t : ByteArray) : pieces c (s ++ ⟨#[c]⟩ ++ t) = pieces c s ++ pieces c t := by
  unfold pieces
  have : bts (s ++ ⟨#[c]⟩ ++ t) = bts s ++ c :: bts t := by simp [bts]
  rw [this, splitL_join, List.map_append]
theorem splitL_le {c : UInt8} : ∀ {l p : List UInt8}, p ∈ splitL c l → p.length ≤ l.length
  | [], p, h => by simp [splitL] at h; simp [h]
  | x :: l, p, h => by
    rw [splitL] at h
    split at h
    · rcases List.mem_cons.1 h with e | e
      · simp [e]
      · have := splitL_le e; simp; omega
    · cases hs : splitL c l with
      | nil => exact absurd hs (splitL_ne c l)
      | cons y ys =>
        rw [hs] at h
        rcases List.mem_cons.1 h with e | e
        · have := splitL_le (c := c) (l := l) (p := y) (by rw [hs]; simp)
          rw [e]; simp; omega
        · have := splitL_le (c := c) (l := l) (p := p) (by rw [hs]; simp [e])
          simp; omega
theorem pieces_le {c : UInt8} {t p : ByteArray} (h : p ∈ pieces c t) : p.size ≤ t.size := by
  obtain ⟨l, hl, rfl⟩ := List.mem_map.1 h
  have := splitL_le hl
  rw [bts_len] at this
  have e : (⟨l.toArray⟩ : ByteArray).size = l.length := by show l.toArray.size = _; rw [List.size_toArray]
  rw [e]; exact this
theorem nameG_bytes {F : Int → Bool} {t : ByteArray} (h : nameG F t = true) : ∀ c ∈ bts t, okB c.toNat = true := by
  unfold nameG at h
  simp only [Bool.and_eq_true] at h
  exact List.all_eq_true.1 h.2
theorem low_high {t : ByteArray} (h : lowF t = true) : highF t = false := by
  have hn : nameG (inB 97 122) t = true := by unfold lowF at h; simp only [Bool.and_eq_true] at h; exact h.1
  unfold highF
  unfold nameG at hn ⊢
  simp only [Bool.and_eq_true] at hn
  have hf := hn.1.2
  cases hb : bts t with
  | nil => simp [firstB]
  | cons c l =>
    rw [hb] at hf
    have : inB 65 90 c.toNat = false := by
      simp only [firstB, inB, Bool.and_eq_true, decide_eq_true_eq] at hf
      unfold inB; simp; omega
    simp [firstB, this]
theorem low_word {t : ByteArray} (h : lowF t = true) : wordF t = false := by
  unfold lowF at h
  simp only [Bool.and_eq_true] at h
  simpa using h.2
theorem path_join (s t : ByteArray) : pathF (s ++ ⟨#[47]⟩ ++ t) = (pathF s && pathF t) := by
  unfold pathF
  rw [pieces_join, List.all_append]
theorem numG_no {t : ByteArray} (h : (46 : UInt8) ∈ bts t) : numG t = false := by
  unfold numG
  have : ((bts t).all fun c => inB 48 57 c.toNat) = false := by
    rw [List.all_eq_false]
    exact ⟨46, h, by decide⟩
  rw [this]; simp
/-- A path's part, by what lies ahead of its first point and behind it. -/
theorem partF_no {t : ByteArray} (h : (46 : UInt8) ∉ bts t) : partF t = lowF t := by
  unfold partF
  rw [pieces_no h]
theorem low_path {t : ByteArray} (h : lowF t = true) : pathF t = true := by
  have hn : nameG (inB 97 122) t = true := by unfold lowF at h; simp only [Bool.and_eq_true] at h; exact h.1
  have hb := nameG_bytes hn
  have h47 : (47 : UInt8) ∉ bts t := fun hm => by have := hb _ hm; exact absurd this (by decide)
  have h46 : (46 : UInt8) ∉ bts t := fun hm => by have := hb _ hm; exact absurd this (by decide)
  unfold pathF
  rw [pieces_no h47]
  simp [partF_no h46, h]
theorem partF_at {t : ByteArray} {m : Nat} (hm : m < (bts t).length) (h3 : bts t = (bts t).take m ++ 46 :: (bts t).drop (m + 1)) (h4 : (46 : UInt8) ∉ (bts t).take m) :
    partF t = (lowF (t.extract 0 m) && numG (t.extract (m + 1) t.size)) := by
  unfold partF
  rw [pieces_at hm h3 h4]
  by_cases h : (46 : UInt8) ∈ bts (t.extract (m + 1) t.size)
  · rw [numG_no h]
    have hl := pieces_len 46 (t.extract (m + 1) t.size)
    have hc : 0 < (bts (t.extract (m + 1) t.size)).count 46 := List.count_pos_iff.2 h
    cases hp : pieces 46 (t.extract (m + 1) t.size) with
    | nil => rw [hp] at hl; simp at hl
    | cons x l =>
      cases l with
      | nil => rw [hp, List.length_singleton] at hl; omega
      | cons y l => simp
  · rw [pieces_no h]
end Go.Abs

namespace Go.Abs
theorem bts_from (t : ByteArray) (f : Nat) : bts (t.extract f t.size) = (bts t).drop f := by
  rw [bts_extract, List.take_of_length_le (by rw [bts_len]; exact Nat.le_refl _)]
theorem ext_of_bts {s t : ByteArray} (h : bts s = bts t) : s = t := bts_inj h
/-- One more piece: the byte at i parts. -/
theorem pieces_step {c : UInt8} {t : ByteArray} {f i : Nat} (hf : f ≤ i) (hc : (bts t)[i]? = some c) (hno : c ∉ ((bts t).take i).drop f) :
    pieces c (t.extract f t.size) = t.extract f i :: pieces c (t.extract (i + 1) t.size) := by
  obtain ⟨hi, he⟩ := List.getElem?_eq_some_iff.1 hc
  have hb := bts_from t f
  have h4 : ((bts t).drop f).take (i - f) = ((bts t).take i).drop f := by rw [List.drop_take]
  have hm : i - f < (bts (t.extract f t.size)).length := by rw [hb, List.length_drop]; omega
  have h3 : bts (t.extract f t.size) = (bts (t.extract f t.size)).take (i - f) ++ c :: (bts (t.extract f t.size)).drop (i - f + 1) := by
    rw [hb, List.drop_drop, show f + (i - f + 1) = i + 1 by omega]
    have : (bts t).drop i = c :: (bts t).drop (i + 1) := by rw [List.drop_eq_getElem_cons hi, he]
    conv => lhs; rw [← List.take_append_drop (i - f) ((bts t).drop f)]
    rw [List.drop_drop, show f + (i - f) = i by omega, this]
  rw [pieces_at hm h3 (by rw [hb, h4]; exact hno)]
  have e1 : (t.extract f t.size).extract 0 (i - f) = t.extract f i := by
    apply bts_inj
    rw [bts_extract, hb, bts_extract, h4]
    simp
  have e2 : (t.extract f t.size).extract (i - f + 1) (t.extract f t.size).size = t.extract (i + 1) t.size := by
    apply bts_inj
    rw [bts_from, hb, bts_from, List.drop_drop, show f + (i - f + 1) = i + 1 by omega]
  rw [e1, e2]
theorem pieces_last {c : UInt8} {t : ByteArray} {f : Nat} (hno : c ∉ ((bts t).take t.size).drop f) : pieces c (t.extract f t.size) = [t.extract f t.size] := by
  apply pieces_no
  rw [bts_from]
  rwa [List.take_of_length_le (by rw [bts_len]; exact Nat.le_refl _)] at hno
theorem no_next {c x : UInt8} {t : ByteArray} {f i : Nat} (hf : f ≤ i) (hx : (bts t)[i]? = some x) (hne : ¬ x = c) (hno : c ∉ ((bts t).take i).drop f) : c ∉ ((bts t).take (i + 1)).drop f := by
  obtain ⟨hi, he⟩ := List.getElem?_eq_some_iff.1 hx
  rw [List.take_succ_eq_append_getElem hi, List.drop_append_of_le_length (by rw [List.length_take]; omega), he]
  intro hm
  rcases List.mem_append.1 hm with q | q
  · exact hno q
  · simp at q; exact hne q.symm
end Go.Abs
