/-
  Plain data of names: bytes of texts, what a name is, texts cut at a byte.
-/
import Derived.Test.YtipcmpkihhfhcaaDoorAbsZ
namespace Go.Abs

abbrev bts (t : ByteArray) : List UInt8 := t.data.toList
theorem bts_len (t : ByteArray) : (bts t).length = t.size := by
  show t.data.toList.length = t.data.size
  rw [Array.length_toList]
theorem bts_inj {s t : ByteArray} (h : bts s = bts t) : s = t := by
  cases s; cases t
  simp only [bts] at h
  congr 1
  exact Array.ext' h
def inB (a b c : Int) : Bool := decide (a ≤ c) && decide (c ≤ b)
/-- A byte, or a rune, that a name may have. -/
def okB (c : Int) : Bool := inB 97 122 c || inB 65 90 c || inB 48 57 c || decide (c = 95)
def firstB (F : Int → Bool) : List UInt8 → Bool
  | [] => false
  | c :: _ => F c.toNat
def nameG (F : Int → Bool) (t : ByteArray) : Bool := decide (1 ≤ t.size) && decide (t.size ≤ 12) && firstB F (bts t) && (bts t).all fun c => okB c.toNat
def firstNo0 : List UInt8 → Bool
  | [] => true
  | c :: _ => !decide (c.toNat = 48)
def numG (t : ByteArray) : Bool := decide (1 ≤ t.size) && decide (t.size ≤ 3) && firstNo0 (bts t) && (bts t).all fun c => inB 48 57 c.toNat

theorem decode_lo {s : ByteArray} {p : Nat} {c : UInt8} (hc : (bts s)[p]? = some c) (hlo : c.toNat < 128) : Utf8.decode s p = (c.toNat, 1) := by
  obtain ⟨h, he⟩ := List.getElem?_eq_some_iff.1 hc
  have hp : p < s.size := by rw [bts_len] at h; exact h
  have e : s[p]'hp = c := by rw [← he]; rfl
  rw [decode_ascii s p hp (by rw [e]; exact hlo), e]
theorem decode_hi {s : ByteArray} {p : Nat} {c : UInt8} (hc : (bts s)[p]? = some c) (hhi : 128 ≤ c.toNat) : 128 ≤ (Utf8.decode s p).1 := by
  obtain ⟨h, he⟩ := List.getElem?_eq_some_iff.1 hc
  have hp : p < s.size := by rw [bts_len] at h; exact h
  have e : (s.get! (p + 0)).toNat = c.toNat := by
    have : s.get! (p + 0) = s[p]'hp := by
      show s.get! p = _
      simp [ByteArray.get!, getElem!_pos, hp]
      rfl
    rw [this, ← he]; rfl
  unfold Utf8.decode
  simp only [e, Utf8.runeError]
  rw [if_neg (by omega)]
  repeat' split
  all_goals (first | (simp_all; done) | (simp_all; omega) | (dsimp only; omega))

/-- A text cut at a byte. -/
def splitL (c : UInt8) : List UInt8 → List (List UInt8)
  | [] => [[]]
  | x :: xs => if x = c then [] :: splitL c xs else match splitL c xs with
    | [] => [[x]]
    | y :: ys => (x :: y) :: ys
theorem splitL_ne (c : UInt8) (l : List UInt8) : splitL c l ≠ [] := by
  cases l with
  | nil => simp [splitL]
  | cons x l =>
    rw [splitL]
    split
    · simp
    · split <;> simp
theorem splitL_no {c : UInt8} : ∀ {a : List UInt8}, c ∉ a → splitL c a = [a]
  | [], _ => rfl
  | x :: a, h => by
    rw [splitL, if_neg (fun e => h (by simp [e])), splitL_no (fun hm => h (by simp [hm]))]
theorem splitL_at {c : UInt8} : ∀ {a : List UInt8} (b : List UInt8), c ∉ a → splitL c (a ++ c :: b) = a :: splitL c b
  | [], b, _ => by rw [List.nil_append, splitL, if_pos rfl]
  | x :: a, b, h => by
    rw [List.cons_append, splitL, if_neg (fun e => h (by simp [e])), splitL_at b (fun hm => h (by simp [hm]))]
theorem splitL_join {c : UInt8} : ∀ (a b : List UInt8), splitL c (a ++ c :: b) = splitL c a ++ splitL c b
  | [], b => by simp [splitL]
  | x :: a, b => by
    rw [List.cons_append, splitL, splitL, splitL_join a b]
    split
    · rfl
    · cases h : splitL c a with
      | nil => exact absurd h (splitL_ne c a)
      | cons y ys => rfl
theorem splitL_len {c : UInt8} : ∀ (a : List UInt8), (splitL c a).length = a.count c + 1
  | [] => rfl
  | x :: a => by
    rw [splitL, List.count_cons]
    have ih := splitL_len (c := c) a
    split
    · rename_i h
      simp [h, ih]
    · rename_i h
      cases hs : splitL c a with
      | nil => exact absurd hs (splitL_ne c a)
      | cons y ys =>
        rw [hs] at ih
        simp at ih ⊢
        simp [h, ih]
def pieces (c : UInt8) (t : ByteArray) : List ByteArray := (splitL c (bts t)).map fun l => ⟨l.toArray⟩
theorem pieces_ne (c : UInt8) (t : ByteArray) : pieces c t ≠ [] := by
  unfold pieces
  intro h
  exact splitL_ne c _ (List.map_eq_nil_iff.1 h)

/-- The words. -/
def words : List ByteArray := [⟨#[110, 111, 100, 101]⟩, ⟨#[114, 101, 116, 117, 114, 110, 115]⟩, ⟨#[118, 97, 114]⟩, ⟨#[108, 101, 116]⟩, ⟨#[116, 101, 108]⟩, ⟨#[101, 110, 117, 109]⟩, ⟨#[105, 102]⟩, ⟨#[116, 104, 101, 110]⟩, ⟨#[101, 108, 115, 101]⟩, ⟨#[102, 98, 121]⟩, ⟨#[112, 114, 101]⟩, ⟨#[119, 104, 101, 110]⟩, ⟨#[109, 101, 114, 103, 101]⟩, ⟨#[101, 118, 101, 114, 121]⟩, ⟨#[110, 111, 116]⟩, ⟨#[97, 110, 100]⟩, ⟨#[111, 114]⟩, ⟨#[120, 111, 114]⟩, ⟨#[109, 111, 100]⟩, ⟨#[116, 114, 117, 101]⟩, ⟨#[102, 97, 108, 115, 101]⟩, ⟨#[105, 110, 116]⟩, ⟨#[98, 111, 111, 108]⟩, ⟨#[119, 105, 116, 104]⟩]
def wordF (t : ByteArray) : Bool := words.any fun w => decide (t = w)
def lowF (t : ByteArray) : Bool := nameG (inB 97 122) t && !wordF t
def highF (t : ByteArray) : Bool := nameG (inB 65 90) t
def partF (t : ByteArray) : Bool := match pieces 46 t with
  | [p] => lowF p
  | [p, q] => lowF p && numG q
  | _ => false
def pathF (t : ByteArray) : Bool := (pieces 47 t).all partF
end Go.Abs

namespace Go.Abs
theorem raw_vals {S : Addr → Prop} {w : World} {φ : Nat → Loc} {vals : List Value} {vs : Array Value} (h : CAll S w φ (vals.map AV.raw) vs) : vs = vals.toArray := by
  apply Array.ext'
  apply List.ext_getElem?
  intro i
  rw [Array.getElem?_toList, List.toList_toArray]
  cases hv : vals[i]? with
  | none =>
    have : vals.length ≤ i := List.getElem?_eq_none_iff.1 hv
    rw [Array.getElem?_eq_none_iff]
    have := h.1
    simp at this
    omega
  | some v =>
    obtain ⟨u, hu, hc⟩ := h.at (i := i) (a := .raw v) (by simp [hv])
    cases hc
    exact hu
/-- A contract of the shelf's, of values that are plain: it is a pure call's. -/
theorem pcall_raw {P : Program} {f : FuncId} {vals : List Value} {v : Value} (hent : ∀ vs w, (callFunc f vs).run P w = .ok (.enter f vs) w) (hc : ∀ w, Calls P f vals.toArray w fun e w' => e = .returned v ∧ w' = w) : PCall P f (vals.map AV.raw) (.raw v) := by
  refine ⟨fun x hx => by obtain ⟨y, _, rfl⟩ := List.mem_map.1 hx; exact .raw _, .raw _, fun S w vs hb hargs => ?_⟩
  have := raw_vals hargs
  subst this
  refine ⟨hent _ _, Calls.mono (hc w) ?_⟩
  rintro e w' ⟨rfl, rfl⟩
  exact ⟨v, S, rfl, .raw _, R.nil hb, Ext.refl _ _ _ _⟩
end Go.Abs
