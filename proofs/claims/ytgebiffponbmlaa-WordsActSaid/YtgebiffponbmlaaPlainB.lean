/-
  Plain facts: words up to cancelling; the images of Act are those of the definition; their product. No program here.
-/
import Derived.Test.YtgebiffponbmlaaPlainA
namespace Go.Proofs.Ytgebiffponbmlaa

/-- Two lists of letters are the same element of the free group. -/
def Eqv (a b : List Int) : Prop := ∀ st, Red st → stk st a = stk st b
theorem Eqv.refl (a : List Int) : Eqv a a := fun _ _ => rfl
theorem Eqv.symm {a b : List Int} (h : Eqv a b) : Eqv b a := fun st hs => (h st hs).symm
theorem Eqv.trans {a b c : List Int} (h : Eqv a b) (k : Eqv b c) : Eqv a c := fun st hs => (h st hs).trans (k st hs)
theorem Eqv.append {a a' b b' : List Int} (h : Eqv a a') (k : Eqv b b') : Eqv (a ++ b) (a' ++ b') := fun st hs => by
  rw [stk_append, stk_append, h st hs]
  exact k _ (red_stk hs a')
theorem eqv_back (a : List Int) : Eqv (a ++ inv a) [] := fun st hs => by rw [stk_append, stk_back hs]; rfl
theorem eqv_front (a : List Int) : Eqv (inv a ++ a) [] := by
  have := eqv_back (inv a)
  rwa [inv_inv] at this
theorem Eqv.inv {a b : List Int} (h : Eqv a b) : Eqv (inv a) (inv b) := by
  -- inv a ~ inv a ++ (b ++ inv b) ~ (inv a ++ a) ++ inv b ~ inv b
  have h1 : Eqv (Proofs.Ytgebiffponbmlaa.inv a) (Proofs.Ytgebiffponbmlaa.inv a ++ (b ++ Proofs.Ytgebiffponbmlaa.inv b)) := by
    have := (Eqv.refl (Proofs.Ytgebiffponbmlaa.inv a)).append (eqv_back b).symm
    simpa using this
  have h2 : Eqv (Proofs.Ytgebiffponbmlaa.inv a ++ (b ++ Proofs.Ytgebiffponbmlaa.inv b)) (Proofs.Ytgebiffponbmlaa.inv a ++ (a ++ Proofs.Ytgebiffponbmlaa.inv b)) := (Eqv.refl _).append (h.symm.append (Eqv.refl _))
  have h3 : Eqv (Proofs.Ytgebiffponbmlaa.inv a ++ (a ++ Proofs.Ytgebiffponbmlaa.inv b)) (Proofs.Ytgebiffponbmlaa.inv b) := by
    have := (eqv_front a).append (Eqv.refl (Proofs.Ytgebiffponbmlaa.inv b))
    simpa using this
  exact (h1.trans h2).trans h3

theorem stk_reverse {l : List Int} (h : Red l.reverse) : stk [] l = l.reverse := by
  have key : ∀ (l st : List Int), Red (l.reverse ++ st) → stk st l = l.reverse ++ st := by
    intro l
    induction l with
    | nil => intro st _; rfl
    | cons x l ih =>
      intro st hr
      have e : (x :: l).reverse ++ st = l.reverse ++ (x :: st) := by simp
      rw [e] at hr ⊢
      have hx : stp st x = x :: st := by
        cases st with
        | nil => rfl
        | cons y s =>
          have h2 : Red (x :: y :: s) := by
            have : ∀ (p q : List Int), Red (p ++ q) → Red q := by
              intro p
              induction p with
              | nil => intro q hq; exact hq
              | cons z p ihp => intro q hq; exact ihp q (Red.tail hq)
            exact this _ _ hr
          rw [stp_cons, if_neg h2.1]
      have e2 : stk st (x :: l) = stk (stp st x) l := rfl
      rw [e2, hx]
      exact ih _ hr
  have := key l [] (by simpa using h)
  simpa using this
/-- A list in which nothing cancels. -/
def Rdc (l : List Int) : Prop := Red l.reverse
theorem rdc_reduceL (l : List Int) : Rdc (reduceL l) := by
  unfold Rdc
  rw [reduceL_eq, List.reverse_reverse]
  exact red_stk (st := []) trivial l
theorem reduceL_self {l : List Int} (h : Rdc l) : reduceL l = l := by rw [reduceL_eq, stk_reverse h, List.reverse_reverse]
theorem Eqv.eq {a b : List Int} (h : Eqv a b) (ha : Rdc a) (hb : Rdc b) : a = b := by
  rw [← reduceL_self ha, ← reduceL_self hb, reduceL_eq, reduceL_eq, h [] trivial]
theorem Eqv.reduceL {a b : List Int} (h : Eqv a b) : reduceL a = reduceL b := by rw [reduceL_eq, reduceL_eq, h [] trivial]
theorem eqv_stp {st : List Int} (x : Int) : Eqv (stp st x).reverse (st.reverse ++ [x]) := by
  cases st with
  | nil => exact Eqv.refl _
  | cons y s =>
    rw [stp_cons]
    by_cases hy : y = -x
    · rw [if_pos hy]
      intro t ht
      simp only [List.reverse_cons, List.append_assoc, stk_append]
      subst hy
      have := stp_back (red_stk ht s.reverse) (-x)
      rw [Int.neg_neg] at this
      exact this.symm
    · rw [if_neg hy]
      simpa using Eqv.refl _
theorem eqv_reduceL (l : List Int) : Eqv (reduceL l) l := by
  rw [reduceL_eq]
  have key : ∀ (l st : List Int), Eqv (stk st l).reverse (st.reverse ++ l) := by
    intro l
    induction l with
    | nil => intro st; simpa [stk] using Eqv.refl _
    | cons x l ih =>
      intro st
      have e : stk st (x :: l) = stk (stp st x) l := rfl
      rw [e]
      have h2 : Eqv ((stp st x).reverse ++ l) (st.reverse ++ [x] ++ l) := (eqv_stp x).append (Eqv.refl l)
      have := (ih (stp st x)).trans h2
      simpa using this
  simpa using key l []
/-- join of reduced lists: reduced, and the product. -/
theorem meets_eqv (ra b : List Int) : Eqv (ra.reverse ++ b) ((ra.drop (meets ra b)).reverse ++ b.drop (meets ra b)) := by
  induction ra generalizing b with
  | nil => rw [meets_nil_left]; exact Eqv.refl _
  | cons x ra ih =>
    cases b with
    | nil => rw [meets_nil_right]; exact Eqv.refl _
    | cons y b =>
      unfold meets
      by_cases hxy : x = -y
      · rw [if_pos hxy]
        have h1 : Eqv ((x :: ra).reverse ++ y :: b) (ra.reverse ++ b) := by
          have h2 : Eqv [x, y] [] := by
            have := eqv_back [x]
            have e : inv [x] = [y] := by simp [inv, hxy]
            rw [e] at this
            exact this
          have := ((Eqv.refl ra.reverse).append h2).append (Eqv.refl b)
          simpa using this
        exact h1.trans (by simpa using ih b)
      · rw [if_neg hxy]; exact Eqv.refl _
theorem eqv_join (a b : List Int) : Eqv (joinL a b) (a ++ b) := by
  have := meets_eqv a.reverse b
  rw [List.reverse_reverse] at this
  have e : (a.reverse.drop (meets a.reverse b)).reverse = a.take (a.length - meets a.reverse b) := by
    rw [List.drop_reverse, List.reverse_reverse]
  rw [e] at this
  exact this.symm
theorem rdc_cons {x : Int} {l : List Int} : Rdc (l ++ [x]) ↔ Red (x :: l.reverse) := by simp [Rdc]
theorem red_append_of (p : List Int) : ∀ (q : List Int), Red p → Red q → (∀ x y, p.getLast? = some x → q.head? = some y → y ≠ -x) → Red (p ++ q) := by
  induction p with
  | nil => intro q _ hq _; exact hq
  | cons x p ih =>
    intro q hp hq hj
    cases p with
    | nil =>
      cases q with
      | nil => trivial
      | cons y q => exact ⟨hj x y rfl rfl, hq⟩
    | cons z p =>
      refine ⟨hp.1, ih q hp.2 hq (fun u v hu hv => hj u v ?_ hv)⟩
      rw [List.getLast?_cons_cons]; exact hu
theorem Red.take : ∀ (l : List Int) (n : Nat), Red l → Red (l.take n)
  | [], n, _ => by simp [Red]
  | [x], n, _ => by cases n <;> simp [Red]
  | x :: y :: l, 0, _ => by simp [Red]
  | x :: y :: l, 1, _ => by simp [Red]
  | x :: y :: l, n + 2, h => by
    have := Red.take (y :: l) (n + 1) h.2
    simp only [List.take_succ_cons] at this ⊢
    exact ⟨h.1, this⟩
theorem Red.drop : ∀ (n : Nat) (l : List Int), Red l → Red (l.drop n)
  | 0, l, h => h
  | n + 1, [], _ => by simp [Red]
  | n + 1, x :: l, h => Red.drop n l h.tail
theorem meets_stop (ra b : List Int) : ∀ x y, (ra.drop (meets ra b)).head? = some x → (b.drop (meets ra b)).head? = some y → x ≠ -y := by
  induction ra generalizing b with
  | nil => intro x y hx; simp at hx
  | cons z ra ih =>
    cases b with
    | nil => intro x y _ hy; simp at hy
    | cons u b =>
      unfold meets
      by_cases h : z = -u
      · rw [if_pos h]; simpa using ih b
      · rw [if_neg h]
        intro x y hx hy
        simp at hx hy
        subst hx; subst hy
        exact h
theorem rdc_join {a b : List Int} (ha : Rdc a) (hb : Rdc b) : Rdc (joinL a b) := by
  unfold Rdc joinL
  rw [List.reverse_append]
  have e1 : (b.drop (meets a.reverse b)).reverse = b.reverse.take (b.length - meets a.reverse b) := by rw [List.reverse_drop]
  have e2 : (a.take (a.length - meets a.reverse b)).reverse = a.reverse.drop (meets a.reverse b) := by
    have hle := (meets_le a.reverse b).1
    rw [List.length_reverse] at hle
    rw [List.reverse_take]
    congr 1
    omega
  refine red_append_of _ _ ?_ ?_ ?_
  · rw [e1]; exact Red.take _ _ hb
  · rw [e2]; exact Red.drop _ _ ha
  · intro x y hx hy
    rw [List.getLast?_reverse] at hx
    rw [e2] at hy
    exact meets_stop a.reverse b y x hy hx
theorem red_neg_reverse : ∀ (l : List Int), Red l → Red ((l.map (fun x => -x)).reverse)
  | [], _ => trivial
  | x :: l, h => by
    rw [List.map_cons, List.reverse_cons]
    refine red_append_of _ _ (red_neg_reverse l h.tail) trivial (fun u v hu hv => ?_)
    rw [List.getLast?_reverse] at hu
    simp at hv
    cases l with
    | nil => simp at hu
    | cons y l =>
      simp at hu
      subst hu; subst hv
      have := h.1
      omega
theorem rdc_inv {a : List Int} (ha : Rdc a) : Rdc (inv a) := by
  unfold Rdc inv at *
  have := red_neg_reverse a.reverse ha
  rw [List.map_reverse] at this
  exact this

end Go.Proofs.Ytgebiffponbmlaa
