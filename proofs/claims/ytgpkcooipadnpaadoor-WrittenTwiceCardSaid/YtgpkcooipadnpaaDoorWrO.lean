/-
  The reference's Shorten, for valid rows of 1 to 16 stitches. No conditions beyond the stitches' ranges.
-/
import Derived.Test.YtgpkcooipadnpaaDoorWrN
namespace Go.Proofs.YtgpkcooipadnpaaDoor
set_option linter.unusedSimpArgs false
set_option linter.unusedVariables false
open Go.RowKit
set_option maxRecDepth 100000

theorem flat_inj {N s e s' e' : Nat} (h : e < N) (h' : e' < N) (hh : s * N + e = s' * N + e') : s = s' ∧ e = e' := by
  have hN : 0 < N := by omega
  have e1 : (s * N + e) / N = s := by rw [Nat.mul_comm, Nat.mul_add_div hN, Nat.div_eq_of_lt h, Nat.add_zero]
  have e2 : (s' * N + e') / N = s' := by rw [Nat.mul_comm, Nat.mul_add_div hN, Nat.div_eq_of_lt h', Nat.add_zero]
  have hs : s = s' := by rw [← e1, ← e2, hh]
  subst hs
  exact ⟨rfl, by omega⟩

/-- The reference's table before the text of m stitches from i on is found. -/
def TabF (T : Nat → List UInt8) (l : List St) (m i : Nat) : Prop := ∀ s k, 1 ≤ k → s + k ≤ l.length → (k < m ∨ (k = m ∧ s < i)) → T (s * (l.length + 1) + s + k) = shortL (seg l s k)
theorem TabF.zero (T : Nat → List UInt8) (l : List St) : TabF T l 1 0 := fun s m h1 h2 h3 => by omega
theorem TabF.next {T : Nat → List UInt8} {l : List St} {n i : Nat} (h : TabF T l n i) (hi : l.length < i + n) : TabF T l (n + 1) 0 := fun s m h1 h2 h3 => h s m h1 h2 (by omega)
theorem TabF.put {T : Nat → List UInt8} {l : List St} {m i : Nat} (h : TabF T l m i) (him : i + m ≤ l.length) : TabF (updS T (i * (l.length + 1) + i + m) (shortL (seg l i m))) l m (i + 1) := fun s k h1 h2 h3 => by
  unfold updS
  by_cases he : s * (l.length + 1) + s + k = i * (l.length + 1) + i + m
  · have := flat_inj (N := l.length + 1) (s := s) (e := s + k) (s' := i) (e' := i + m) (by omega) (by omega) (by omega)
    rw [if_pos he, this.1, show k = m by omega]
  · rw [if_neg he]
    exact h s k h1 h2 (by
      rcases h3 with h3 | ⟨h3, h4⟩
      · exact .inl h3
      · refine .inr ⟨h3, ?_⟩
        rcases Nat.lt_or_ge s i with h5 | h5
        · exact h5
        · have e1 : s = i := by omega
          exact absurd (by rw [e1, h3]) he)

theorem less_better {a b : List UInt8} (ha : a ≠ []) : betterL a b = if lessL b a = 1 then b else a := by
  unfold betterL lessL
  by_cases h : b.length < a.length ∨ (b.length = a.length ∧ Go.Op.bytesLess b a = true)
  · rw [if_pos (.inr h), if_pos h, if_pos rfl]
  · rw [if_neg (fun k => k.elim ha h), if_neg h, if_neg (by decide)]
theorem betterL_ne {a b : List UInt8} (hb : b ≠ []) : betterL a b ≠ [] := by
  by_cases ha : a = []
  · rw [ha, betterL_nil]; exact hb
  · rcases betterL_or a b with h | h <;> rw [h] <;> assumption

/-- What the reference's variable same is. -/
def sameAt (l : List St) (k i j : Nat) : Prop := ∀ x, x < j → i + k ≤ x → l[x]? = l[x - k]?
instance (l : List St) (k i j : Nat) : Decidable (sameAt l k i j) := inferInstanceAs (Decidable (∀ x, x < j → i + k ≤ x → l[x]? = l[x - k]?))
def sameI (l : List St) (k i j : Nat) : Int := if sameAt l k i j then 1 else 0
theorem sameI_zero (l : List St) (k i : Nat) : sameI l k i (i + k) = 1 := if_pos fun x h2 h1 => by omega
theorem sameI_yes {l : List St} {k i j : Nat} (hj : i + k ≤ j) (h : l[j]? = l[j - k]?) : sameI l k i (j + 1) = sameI l k i j := by
  unfold sameI
  by_cases hh : sameAt l k i j
  · rw [if_pos hh, if_pos]
    intro x h2 h1
    rcases Nat.lt_or_ge x j with h3 | h3
    · exact hh x h3 h1
    · obtain rfl : x = j := by omega
      exact h
  · rw [if_neg hh, if_neg (fun h2 => hh fun x b a => h2 x (by omega) a)]
theorem sameI_no {l : List St} {k i j : Nat} (hj : i + k ≤ j) (h : ¬ l[j]? = l[j - k]?) : sameI l k i (j + 1) = 0 := if_neg fun hh => h (hh j (by omega) hj)
theorem sameI_or (l : List St) (k i j : Nat) : sameI l k i j = 1 ∨ sameI l k i j = 0 := by
  unfold sameI
  split
  · exact .inl rfl
  · exact .inr rfl
theorem seg_get (l : List St) (i m y : Nat) : (seg l i m)[y]? = if y < m then l[i + y]? else none := by
  unfold seg
  rw [List.getElem?_take]
  split
  · rw [List.getElem?_drop]
  · rfl
theorem per_same {l : List St} {i m k : Nat} (h : i + m ≤ l.length) (hk : 1 ≤ k) (hkm : k < m) (h0 : m % k = 0) : per (seg l i m) k = decide (sameI l k i (i + m) = 1) := by
  unfold per
  rw [seg_length h, decide_eq_true h0, Bool.true_and]
  refine decide_eq_decide.2 ?_
  unfold sameI
  constructor
  · intro hd
    rw [if_pos]
    intro x h2 h1
    have := congrArg (fun q => q[x - i - k]?) hd
    simp only [List.getElem?_drop, List.getElem?_take, seg_get] at this
    rw [if_pos (by omega), if_pos (by omega), if_pos (by omega)] at this
    rwa [show i + (k + (x - i - k)) = x by omega, show i + (x - i - k) = x - k by omega] at this
  · intro hs
    split at hs
    · rename_i ha
      apply List.ext_getElem?
      intro y
      simp only [List.getElem?_drop, List.getElem?_take, seg_get]
      rcases Nat.lt_or_ge y (m - k) with hy | hy
      · rw [if_pos (by omega), if_pos hy, if_pos (by omega)]
        have := ha (i + (k + y)) (by omega) (by omega)
        rwa [show i + (k + y) - k = i + y by omega] at this
      · rw [if_neg (by omega), if_neg (by omega)]
    · omega

theorem dg_one {d x : Nat} (h : d < 10) (hx : x = d % 10) : (strOfNums [48 + (x : Int)]).data.toList = Lib.decDigits d := by
  rw [Lib.decDigits_one h, hx, Nat.mod_eq_of_lt h]
  show [UInt8.ofNat (48 + (d : Int)).toNat] = _
  rw [show (48 + (d : Int)).toNat = 48 + d by omega]
theorem dg_two {d x : Nat} (h : 10 ≤ d) (h2 : d < 20) (hx : x = d % 10) : ((⟨#[49]⟩ : ByteArray) ++ strOfNums [48 + (x : Int)]).data.toList = Lib.decDigits d := by
  rw [Lib.decDigits_two (by omega) (by omega), hx, ByteArray.data_append, Array.toList_append]
  show [49] ++ [UInt8.ofNat (48 + ((d % 10 : Nat) : Int)).toNat] = _
  rw [show (48 + ((d % 10 : Nat) : Int)).toNat = 48 + d % 10 by omega, show d / 10 = 1 by omega]
  rfl
theorem decDigits_le {d : Nat} (h : d < 100) : (Lib.decDigits d).length ≤ 2 := by
  rcases Nat.lt_or_ge d 10 with h1 | h1
  · rw [Lib.decDigits_one h1]; simp
  · rw [Lib.decDigits_two (by omega) h]; simp

end Go.Proofs.YtgpkcooipadnpaaDoor
