/-
  Plain facts about words and reduced words; no program here.
-/
import Derived.Test.YtkanbechahhmkaaDoorWordsK
namespace Go.Proofs.YtkanbechahhmkaaDoor
set_option linter.unusedSimpArgs false
set_option linter.unusedVariables false

theorem wordOf_wd {n : Int} (h1 : 1 ≤ n) (xs : List Int) (hx : ∀ x ∈ xs, 0 ≤ x ∧ x ≤ 255) : Wd n (wordOf n xs) := by
  unfold wordOf
  split
  · rename_i hn
    refine ⟨by simp; omega, fun k hk => ?_⟩
    obtain ⟨x, hxm, rfl⟩ := List.mem_map.1 hk
    have := hx x (List.mem_of_mem_take hxm)
    have hq := Int.emod_nonneg (x / 2) (b := n - 1) (by omega)
    have hq2 := Int.emod_lt_of_pos (x / 2) (b := n - 1) (by omega)
    unfold letter
    split <;> omega
  · exact ⟨by simp, by simp⟩
theorem wordOf_length (n : Int) (xs : List Int) : (wordOf n xs).length ≤ 24 := by
  unfold wordOf
  split
  · simp; omega
  · simp

/-- One letter on a stack of letters. -/
def stp : List Int → Int → List Int
  | [], x => [x]
  | y :: s, x => if y = -x then s else x :: y :: s
theorem stp_cons (y : Int) (s : List Int) (x : Int) : stp (y :: s) x = if y = -x then s else x :: y :: s := rfl
def stk (st l : List Int) : List Int := l.foldl stp st
theorem stk_append (st a b : List Int) : stk st (a ++ b) = stk (stk st a) b := by simp [stk]

theorem joinL_one (acc : List Int) (x : Int) : joinL acc [x] = (stp acc.reverse x).reverse := by
  unfold joinL
  generalize hr : acc.reverse = st
  have ha : acc = st.reverse := by rw [← hr, List.reverse_reverse]
  subst ha
  cases st with
  | nil => simp [meets, stp]
  | cons y s =>
    rw [stp_cons]
    unfold meets
    by_cases h : y = -x
    · rw [if_pos h, if_pos h, meets_nil_right]; simp
    · rw [if_neg h, if_neg h]
      have e : (y :: s).reverse.length - 0 = (y :: s).reverse.length := rfl
      rw [e, List.take_length]
      simp
theorem reduceL_eq (l : List Int) : reduceL l = (stk [] l).reverse := by
  have key : ∀ (l acc : List Int), l.foldl (fun acc x => joinL acc [x]) acc = (stk acc.reverse l).reverse := by
    intro l
    induction l with
    | nil => intro acc; simp [stk]
    | cons x l ih =>
      intro acc
      simp only [List.foldl_cons, stk]
      rw [ih, joinL_one, List.reverse_reverse]
      rfl
  exact key l []

/-- No two neighbours of a stack cancel. -/
def Red : List Int → Prop
  | y :: z :: s => z ≠ -y ∧ Red (z :: s)
  | _ => True
theorem Red.tail {y : Int} {s : List Int} (h : Red (y :: s)) : Red s := by
  cases s with
  | nil => trivial
  | cons z s => exact h.2
theorem red_stp {st : List Int} (h : Red st) (x : Int) : Red (stp st x) := by
  cases st with
  | nil => trivial
  | cons y s =>
    rw [stp_cons]
    by_cases hy : y = -x
    · rw [if_pos hy]; exact h.tail
    · rw [if_neg hy]; exact ⟨hy, h⟩
theorem red_stk {st : List Int} (h : Red st) (l : List Int) : Red (stk st l) := by
  induction l generalizing st with
  | nil => exact h
  | cons x l ih => exact ih (red_stp h x)
theorem stp_back {st : List Int} (h : Red st) (x : Int) : stp (stp st x) (-x) = st := by
  cases st with
  | nil => simp [stp]
  | cons y s =>
    by_cases hy : y = -x
    · subst hy
      have e1 : stp (-x :: s) x = s := by simp [stp]
      rw [e1]
      cases s with
      | nil => rfl
      | cons z s =>
        have hz : z ≠ -(-x) := h.1
        rw [stp_cons, if_neg (by omega)]
    · have e1 : stp (y :: s) x = x :: y :: s := by simp [stp, hy]
      rw [e1]
      simp [stp]
theorem inv_cons (x : Int) (l : List Int) : inv (x :: l) = inv l ++ [-x] := by simp [inv]
theorem inv_snoc (x : Int) (l : List Int) : inv (l ++ [x]) = -x :: inv l := by simp [inv]
theorem inv_append (a b : List Int) : inv (a ++ b) = inv b ++ inv a := by simp [inv]
theorem inv_inv (a : List Int) : inv (inv a) = a := by
  unfold inv
  rw [List.map_reverse, List.reverse_reverse, List.map_map]
  conv => rhs; rw [← List.map_id a]
  apply List.map_congr_left
  intro x _
  simp
theorem inv_length (a : List Int) : (inv a).length = a.length := by simp [inv]
theorem stk_back {st : List Int} (h : Red st) (l : List Int) : stk (stk st l) (inv l) = st := by
  induction l generalizing st with
  | nil => rfl
  | cons x l ih =>
    rw [inv_cons, stk_append]
    have e : stk st (x :: l) = stk (stp st x) l := rfl
    rw [e, ih (red_stp h x)]
    exact stp_back h x
theorem reduceL_back (w : List Int) : reduceL (w ++ inv w) = [] := by
  rw [reduceL_eq, stk_append, stk_back (st := []) trivial w]
  rfl

theorem redGo_eq : ∀ (n : Nat) (P : List Int) (a : Int) (r : List Int), P.length + 2 * r.length ≤ n → Red (a :: P) → redGo P (a :: r) = (stk (a :: P) r).reverse := by
  intro n
  induction n with
  | zero =>
    intro P a r hn hr
    have h1 : P = [] := List.eq_nil_of_length_eq_zero (by omega)
    have h2 : r = [] := List.eq_nil_of_length_eq_zero (by omega)
    subst h1; subst h2
    rw [redGo_one]; rfl
  | succ n ih =>
    intro P a r hn hr
    cases r with
    | nil => rw [redGo_one]; simp [stk]
    | cons b r =>
      rw [redGo_two]
      have e : stk (a :: P) (b :: r) = stk (stp (a :: P) b) r := rfl
      rw [e]
      by_cases hab : a = -b
      · rw [if_pos hab]
        have e2 : stp (a :: P) b = P := by simp [stp, hab]
        rw [e2]
        cases P with
        | nil =>
          cases r with
          | nil => rw [redGo_zero]; rfl
          | cons c r =>
            have e3 : stk [] (c :: r) = stk [c] r := rfl
            rw [e3]
            exact ih [] c r (by simp at hn ⊢; omega) trivial
        | cons p P => exact ih P p r (by simp at hn ⊢; omega) hr.tail
      · rw [if_neg hab]
        have e2 : stp (a :: P) b = b :: a :: P := by simp [stp, hab]
        rw [e2]
        exact ih (a :: P) b r (by simp at hn ⊢; omega) ⟨hab, hr⟩
theorem redL_eq (l : List Int) : redL l = reduceL l := by
  rw [reduceL_eq]
  unfold redL
  cases l with
  | nil => rw [redGo_zero]; rfl
  | cons a r =>
    have e3 : stk [] (a :: r) = stk [a] r := rfl
    rw [e3]
    exact redGo_eq _ [] a r (Nat.le_refl _) trivial

end Go.Proofs.YtkanbechahhmkaaDoor
