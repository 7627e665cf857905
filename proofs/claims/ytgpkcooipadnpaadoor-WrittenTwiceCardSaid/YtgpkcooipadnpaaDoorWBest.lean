/-
  The shortest text of a row in plain Lean: it is the text of a tree with that row, and no tree with that row has a better one. No conditions.
-/
import Derived.Test.YtgpkcooipadnpaaDoorWPlain
namespace Go.Proofs.YtgpkcooipadnpaaDoor
set_option linter.unusedSimpArgs false
set_option linter.unusedVariables false
open Go.Op (bytesLess)

theorem bl_nil (x : List UInt8) : bytesLess x [] = false := by cases x <;> rfl
theorem bl_cons (a b : UInt8) (x y : List UInt8) : bytesLess (a :: x) (b :: y) = (decide (a < b) || (a == b && bytesLess x y)) := rfl
theorem bl_irrefl : ∀ x : List UInt8, bytesLess x x = false
  | [] => rfl
  | a :: x => by rw [bl_cons, bl_irrefl x]; simp
theorem bl_trans : ∀ {x y z : List UInt8}, bytesLess x y = true → bytesLess y z = true → bytesLess x z = true
  | x, [], z, h, _ => by rw [bl_nil] at h; cases h
  | x, b :: y, [], _, h => by rw [bl_nil] at h; cases h
  | [], b :: y, c :: z, _, _ => rfl
  | a :: x, b :: y, c :: z, h1, h2 => by
    rw [bl_cons] at h1 h2 ⊢
    simp only [Bool.or_eq_true, decide_eq_true_eq, Bool.and_eq_true, beq_iff_eq] at h1 h2 ⊢
    rcases h1 with h1 | ⟨rfl, h1⟩ <;> rcases h2 with h2 | ⟨rfl, h2⟩
    · exact .inl (UInt8.lt_trans h1 h2)
    · exact .inl h1
    · exact .inl h2
    · exact .inr ⟨rfl, bl_trans h1 h2⟩
theorem bl_tri : ∀ x y : List UInt8, bytesLess x y = true ∨ x = y ∨ bytesLess y x = true
  | [], [] => .inr (.inl rfl)
  | [], b :: y => .inl rfl
  | a :: x, [] => .inr (.inr rfl)
  | a :: x, b :: y => by
    rw [bl_cons, bl_cons]
    simp only [Bool.or_eq_true, decide_eq_true_eq, Bool.and_eq_true, beq_iff_eq, List.cons.injEq]
    by_cases h1 : a < b
    · exact .inl (.inl h1)
    · by_cases h2 : b < a
      · exact .inr (.inr (.inl h2))
      · have e : a = b := UInt8.le_antisymm (UInt8.not_lt.1 h2) (UInt8.not_lt.1 h1)
        subst e
        rcases bl_tri x y with h | rfl | h
        · exact .inl (.inr ⟨rfl, h⟩)
        · exact .inr (.inl ⟨rfl, rfl⟩)
        · exact .inr (.inr (.inr ⟨rfl, h⟩))
theorem bl_append : ∀ {x y : List UInt8} (u v : List UInt8), x.length = y.length → bytesLess (x ++ u) (y ++ v) = (bytesLess x y || (x == y && bytesLess u v))
  | [], [], u, v, _ => by simp [bl_nil]
  | [], b :: y, u, v, h => by simp at h
  | a :: x, [], u, v, h => by simp at h
  | a :: x, b :: y, u, v, h => by
    rw [List.cons_append, List.cons_append, bl_cons, bl_cons, bl_append u v (by simpa using h)]
    by_cases h1 : a < b
    · simp [h1]
    · by_cases h2 : a = b
      · subst h2; simp
      · have hab : (a == b) = false := beq_eq_false_iff_ne.2 h2
        simp [h1, hab]

/-- A text that is no worse. -/
def leT (a b : List UInt8) : Prop := a.length < b.length ∨ (a.length = b.length ∧ bytesLess b a = false)
theorem leT.refl (a : List UInt8) : leT a a := .inr ⟨rfl, bl_irrefl a⟩
theorem leT.trans {a b c : List UInt8} (h : leT a b) (k : leT b c) : leT a c := by
  rcases h with h | ⟨h1, h2⟩ <;> rcases k with k | ⟨k1, k2⟩
  · exact .inl (by omega)
  · exact .inl (by omega)
  · exact .inl (by omega)
  · refine .inr ⟨by omega, ?_⟩
    cases e : bytesLess c a with
    | false => rfl
    | true =>
      rcases bl_tri a b with h | rfl | h
      · rw [bl_trans e h] at k2; cases k2
      · rw [k2] at e; cases e
      · rw [h2] at h; cases h
theorem leT.length {a b : List UInt8} (h : leT a b) : a.length ≤ b.length := by rcases h with h | ⟨h, _⟩ <;> omega
theorem leT.append {a a' b b' : List UInt8} (h : leT a a') (k : leT b b') : leT (a ++ b) (a' ++ b') := by
  rcases h with h | ⟨h1, h2⟩
  · exact .inl (by have := k.length; simp; omega)
  · rcases k with k | ⟨k1, k2⟩
    · exact .inl (by simp; omega)
    · refine .inr ⟨by simp; omega, ?_⟩
      rw [bl_append b' b h1.symm, h2, k2]
      simp
theorem leT.cons {a b : List UInt8} (c : UInt8) (h : leT a b) : leT (c :: a) (c :: b) := (leT.refl [c]).append h
theorem leT.antisymm {a b : List UInt8} (h : leT a b) (k : leT b a) : a = b := by
  rcases h with h | ⟨h1, h2⟩
  · have := k.length; omega
  · rcases k with k | ⟨k1, k2⟩
    · omega
    · rcases bl_tri a b with h | h | h
      · rw [k2] at h; cases h
      · exact h
      · rw [h2] at h; cases h

def betterL (a b : List UInt8) : List UInt8 := if a = [] ∨ b.length < a.length ∨ (b.length = a.length ∧ bytesLess b a = true) then b else a
theorem betterL_nil (b : List UInt8) : betterL [] b = b := by simp [betterL]
theorem betterL_or (a b : List UInt8) : betterL a b = a ∨ betterL a b = b := by unfold betterL; split <;> simp
theorem betterL_right (a b : List UInt8) : leT (betterL a b) b := by
  unfold betterL
  split
  · exact leT.refl b
  · rename_i h
    by_cases h1 : a.length < b.length
    · exact .inl h1
    · refine .inr ⟨?_, ?_⟩
      · by_cases h2 : b.length < a.length
        · exact absurd (.inr (.inl h2)) h
        · omega
      · cases e : bytesLess b a with
        | false => rfl
        | true =>
          by_cases h2 : b.length < a.length
          · exact absurd (.inr (.inl h2)) h
          · exact absurd (.inr (.inr ⟨by omega, e⟩)) h
theorem betterL_left {a : List UInt8} (ha : a ≠ []) (b : List UInt8) : leT (betterL a b) a := by
  unfold betterL
  split
  · rename_i h
    rcases h with h | h | ⟨h1, h2⟩
    · exact absurd h ha
    · exact .inl h
    · refine .inr ⟨h1, ?_⟩
      cases e : bytesLess a b with
      | false => rfl
      | true => have := bl_trans h2 e; rw [bl_irrefl] at this; cases this
  · exact leT.refl a

/-- A row consists of copies of its first k stitches. -/
def per (l : List St) (k : Nat) : Bool := decide (l.length % k = 0) && decide (l.drop k = l.take (l.length - k))
theorem per_rep : ∀ (n : Nat) {l : List St} {k : Nat}, l.length ≤ n → 1 ≤ k → per l k = true → repL (l.length / k) (l.take k) = l
  | 0, l, k, h, hk, _ => by
    have : l = [] := List.eq_nil_of_length_eq_zero (by omega)
    subst this
    simp [repL_zero]
  | n + 1, l, k, h, hk, hp => by
    unfold per at hp
    simp only [Bool.and_eq_true, decide_eq_true_eq] at hp
    obtain ⟨h1, h2⟩ := hp
    have hd := Nat.div_add_mod l.length k
    rcases Nat.lt_or_ge l.length k with hlt | hge
    · have hz : l.length = 0 := by rw [Nat.mod_eq_of_lt hlt] at h1; exact h1
      have : l = [] := List.eq_nil_of_length_eq_zero hz
      subst this
      simp [repL_zero]
    · have hdk : l.length / k = (l.length - k) / k + 1 := by
        rw [← Nat.add_div_right _ (by omega : 0 < k)]; congr 1; omega
      rcases Nat.lt_or_ge (l.length - k) k with hlt2 | hge2
      · have hz : l.length - k = 0 := by
          have : (l.length - k) % k = 0 := by rw [← Nat.mod_eq_sub_mod hge]; exact h1
          rw [Nat.mod_eq_of_lt hlt2] at this; exact this
        rw [hdk, hz, Nat.zero_div, repL_succ, repL_zero, List.append_nil, List.take_of_length_le (by omega)]
      · have hl2 : (l.drop k).length = l.length - k := List.length_drop
        have hp2 : per (l.drop k) k = true := by
          unfold per
          simp only [Bool.and_eq_true, decide_eq_true_eq]
          refine ⟨by rw [hl2, ← Nat.mod_eq_sub_mod hge]; exact h1, ?_⟩
          rw [hl2]
          conv => lhs; rw [h2]
          rw [List.drop_take]
        have ih := per_rep n (by omega) hk hp2
        have htk : (l.drop k).take k = l.take k := by rw [h2, List.take_take, Nat.min_eq_left hge2]
        rw [hl2, htk] at ih
        rw [hdk, repL_succ, ih, List.take_append_drop]
theorem repL_comm (n : Nat) (r : List St) : repL (n + 1) r = repL n r ++ r := by
  induction n with
  | zero => simp [repL_succ, repL_zero]
  | succ n ih => rw [repL_succ, ih, ← List.append_assoc, ← repL_succ, ih]
theorem rep_per {n : Nat} {r : List St} (hr : r ≠ []) (hn : 1 ≤ n) : per (repL n r) r.length = true ∧ (repL n r).take r.length = r ∧ (repL n r).length / r.length = n := by
  have hpos : 0 < r.length := List.length_pos_iff.2 hr
  obtain ⟨m, rfl⟩ : ∃ m, n = m + 1 := ⟨n - 1, by omega⟩
  refine ⟨?_, ?_, ?_⟩
  · unfold per
    simp only [Bool.and_eq_true, decide_eq_true_eq]
    refine ⟨by rw [repL_length]; exact Nat.mul_mod_left _ _, ?_⟩
    have e1 : (repL (m + 1) r).drop r.length = repL m r := by rw [repL_succ, List.drop_left]
    have e2 : (repL (m + 1) r).length - r.length = (repL m r).length := by rw [repL_length, repL_length, Nat.succ_mul]; omega
    rw [e1, e2, repL_comm, List.take_left]
  · rw [repL_succ, List.take_left]
  · rw [repL_length]; exact Nat.mul_div_cancel _ hpos

def twoT (g : List St → List UInt8) (l : List St) (k : Nat) : List UInt8 := g (l.take k) ++ 32 :: g (l.drop k)
def repT (g : List St → List UInt8) (l : List St) (k : Nat) : List UInt8 := 91 :: (g (l.take k) ++ 93 :: 120 :: Lib.itoa ((l.length / k : Nat) : Int))
def stepK (g : List St → List UInt8) (l : List St) (t : List UInt8) (k : Nat) : List UInt8 :=
  if per l k = true then betterL (betterL t (twoT g l k)) (repT g l k) else betterL t (twoT g l k)
def stepsF (g : List St → List UInt8) (l : List St) (m : Nat) : List UInt8 := (List.range m).foldl (fun t j => stepK g l t (j + 1)) []
theorem stepsF_succ (g : List St → List UInt8) (l : List St) (m : Nat) : stepsF g l (m + 1) = stepK g l (stepsF g l m) (m + 1) := by simp [stepsF, List.range_succ]
def headT : List St → List UInt8
  | x :: _ => stText x
  | [] => []
def bestF : Nat → List St → List UInt8
  | 0, _ => []
  | f + 1, l => if l.length = 1 then headT l else stepsF (bestF f) l (l.length - 1)

def Good (l : List St) (t : List UInt8) : Prop := (∃ T : Tr, T.ok ∧ T.text = t ∧ T.row = l) ∧ ∀ T : Tr, T.ok → T.row = l → leT t T.text
theorem Good.ne {l : List St} {t : List UInt8} (h : Good l t) : t ≠ [] := by
  obtain ⟨⟨T, h1, rfl, _⟩, _⟩ := h
  exact T.text_ne h1

theorem steps_good {g : List St → List UInt8} {l : List St} (hl : 2 ≤ l.length) (hl16 : l.length ≤ 16) (hg : ∀ k, 1 ≤ k → k < l.length → Good (l.take k) (g (l.take k)) ∧ Good (l.drop k) (g (l.drop k))) :
    ∀ m, m < l.length → (1 ≤ m → ∃ T : Tr, T.ok ∧ T.text = stepsF g l m ∧ T.row = l) ∧ ∀ k, 1 ≤ k → k ≤ m → leT (stepsF g l m) (twoT g l k) ∧ (per l k = true → leT (stepsF g l m) (repT g l k))
  | 0, _ => ⟨fun h => by omega, fun k h1 h2 => by omega⟩
  | m + 1, hm => by
    obtain ⟨ih1, ih2⟩ := steps_good hl hl16 hg m (by omega)
    obtain ⟨ga, gb⟩ := hg (m + 1) (by omega) hm
    obtain ⟨⟨ta, oa, xa, ra⟩, _⟩ := ga
    obtain ⟨⟨tb, ob, xb, rb⟩, _⟩ := gb
    have h2 : ∃ T : Tr, T.ok ∧ T.text = twoT g l (m + 1) ∧ T.row = l := ⟨.two ta tb, ⟨oa, ob⟩, by simp [Tr.text, xa, xb, twoT], by simp [Tr.row, ra, rb]⟩
    have h3 : per l (m + 1) = true → ∃ T : Tr, T.ok ∧ T.text = repT g l (m + 1) ∧ T.row = l := fun hp => by
      have hp' := hp
      unfold per at hp'
      simp only [Bool.and_eq_true, decide_eq_true_eq] at hp'
      have hdm := Nat.div_add_mod l.length (m + 1)
      rw [hp'.1, Nat.add_zero] at hdm
      have hq2 : 2 ≤ l.length / (m + 1) := by
        generalize l.length / (m + 1) = q at hdm ⊢
        match q, hdm with
        | 0, hdm => omega
        | 1, hdm => omega
        | q + 2, _ => omega
      have hq16 : l.length / (m + 1) ≤ 16 := Nat.le_trans (Nat.div_le_self _ _) hl16
      exact ⟨.rep ta (l.length / (m + 1)), ⟨oa, hq2, hq16⟩, by simp [Tr.text, xa, repT], by simp only [Tr.row, ra]; exact per_rep _ (Nat.le_refl _) (by omega) hp⟩
    have hb1 : ∃ T : Tr, T.ok ∧ T.text = betterL (stepsF g l m) (twoT g l (m + 1)) ∧ T.row = l := by
      rcases betterL_or (stepsF g l m) (twoT g l (m + 1)) with e | e
      · rcases Nat.eq_zero_or_pos m with h0 | h0
        · subst h0
          rw [show stepsF g l 0 = [] from rfl, betterL_nil]; exact h2
        · rw [e]; exact ih1 h0
      · rw [e]; exact h2
    have hne : betterL (stepsF g l m) (twoT g l (m + 1)) ≠ [] := by
      obtain ⟨T, o, x, _⟩ := hb1
      rw [← x]; exact T.text_ne o
    have hle : leT (stepsF g l (m + 1)) (betterL (stepsF g l m) (twoT g l (m + 1))) := by
      rw [stepsF_succ]; unfold stepK
      split
      · exact betterL_left hne _
      · exact leT.refl _
    refine ⟨fun _ => ?_, fun k k1 k2 => ?_⟩
    · rw [stepsF_succ]; unfold stepK
      split
      · rename_i hp
        rcases betterL_or (betterL (stepsF g l m) (twoT g l (m + 1))) (repT g l (m + 1)) with e | e
        · rw [e]; exact hb1
        · rw [e]; exact h3 hp
      · exact hb1
    · rcases Nat.lt_or_ge k (m + 1) with hk | hk
      · have hm1 : 1 ≤ m := by omega
        obtain ⟨T, o, x, _⟩ := ih1 hm1
        have hne2 : stepsF g l m ≠ [] := by rw [← x]; exact T.text_ne o
        have hle2 := hle.trans (betterL_left hne2 _)
        obtain ⟨a1, a2⟩ := ih2 k k1 (by omega)
        exact ⟨hle2.trans a1, fun hp => hle2.trans (a2 hp)⟩
      · obtain rfl : k = m + 1 := by omega
        refine ⟨hle.trans (betterL_right _ _), fun hp => ?_⟩
        rw [stepsF_succ]; unfold stepK
        rw [if_pos hp]
        exact betterL_right _ _

theorem best_good : ∀ (f : Nat) {l : List St}, l ≠ [] → (∀ x ∈ l, x.valid = true) → l.length ≤ f → l.length ≤ 16 → Good l (bestF f l)
  | 0, l, h, _, hf, _ => absurd (List.eq_nil_of_length_eq_zero (by omega)) h
  | f + 1, l, h, hv, hf, h16 => by
    have hpos : 0 < l.length := List.length_pos_iff.2 h
    by_cases h1 : l.length = 1
    · obtain ⟨x, rfl⟩ := List.length_eq_one_iff.1 h1
      have hb : bestF (f + 1) [x] = stText x := by simp [bestF, headT]
      rw [hb]
      refine ⟨⟨.one x, hv x (by simp), rfl, rfl⟩, fun T hT hr => ?_⟩
      cases T with
      | one y =>
        simp only [Tr.row, List.cons.injEq, and_true] at hr
        subst hr
        exact leT.refl _
      | two a b =>
        have e := congrArg List.length hr
        have ha := List.length_pos_iff.2 (a.row_ne hT.1)
        have hb := List.length_pos_iff.2 (b.row_ne hT.2)
        simp [Tr.row] at e
        omega
      | rep a n =>
        have e := congrArg List.length hr
        have ha := List.length_pos_iff.2 (a.row_ne hT.1)
        simp only [Tr.row, repL_length, List.length_singleton] at e
        have := Nat.mul_le_mul hT.2.1 ha
        omega
    · have hb : bestF (f + 1) l = stepsF (bestF f) l (l.length - 1) := by rw [bestF, if_neg h1]
      have hg : ∀ k, 1 ≤ k → k < l.length → Good (l.take k) (bestF f (l.take k)) ∧ Good (l.drop k) (bestF f (l.drop k)) := fun k k1 k2 => by
        have e1 : (l.take k).length = k := by rw [List.length_take]; omega
        have e2 : (l.drop k).length = l.length - k := List.length_drop
        refine ⟨best_good f ?_ (fun x hx => hv x (List.mem_of_mem_take hx)) (by omega) (by omega), best_good f ?_ (fun x hx => hv x (List.mem_of_mem_drop hx)) (by omega) (by omega)⟩
        · exact List.length_pos_iff.1 (by omega)
        · exact List.length_pos_iff.1 (by omega)
      obtain ⟨s1, s2⟩ := steps_good (g := bestF f) (by omega) h16 hg (l.length - 1) (by omega)
      rw [hb]
      refine ⟨s1 (by omega), fun T hT hr => ?_⟩
      cases T with
      | one y =>
        simp only [Tr.row] at hr
        subst hr
        exact absurd rfl h1
      | two a b =>
        have ha := List.length_pos_iff.2 (a.row_ne hT.1)
        have hb := List.length_pos_iff.2 (b.row_ne hT.2)
        simp only [Tr.row] at hr
        subst hr
        have hk := s2 a.row.length (by omega) (by simp; omega)
        have hg2 := hg a.row.length (by omega) (by simp; omega)
        rw [List.take_left, List.drop_left] at hg2
        refine hk.1.trans ?_
        unfold twoT
        rw [List.take_left, List.drop_left]
        exact (hg2.1.2 a hT.1 rfl).append ((hg2.2.2 b hT.2 rfl).cons 32)
      | rep a n =>
        have hane := a.row_ne hT.1
        have ha := List.length_pos_iff.2 hane
        simp only [Tr.row] at hr
        subst hr
        obtain ⟨p1, p2, p3⟩ := rep_per hane (by have := hT.2.1; omega : 1 ≤ n)
        have hmul : 2 * a.row.length ≤ n * a.row.length := Nat.mul_le_mul_right _ hT.2.1
        have hlen := repL_length n a.row
        have hk := s2 a.row.length (by omega) (by omega)
        have hg2 := hg a.row.length (by omega) (by omega)
        rw [p2] at hg2
        refine (hk.2 p1).trans ?_
        unfold repT
        rw [p2, p3]
        exact ((hg2.1.2 a hT.1 rfl).append (leT.refl _)).cons 91

theorem best_length : ∀ (f : Nat) {l : List St}, l ≠ [] → (∀ x ∈ l, x.valid = true) → l.length ≤ f → l.length ≤ 16 → (bestF f l).length + 1 ≤ 6 * l.length
  | 0, l, h, _, hf, _ => absurd (List.eq_nil_of_length_eq_zero (by omega)) h
  | f + 1, l, h, hv, hf, h16 => by
    have hpos : 0 < l.length := List.length_pos_iff.2 h
    by_cases h1 : l.length = 1
    · obtain ⟨x, rfl⟩ := List.length_eq_one_iff.1 h1
      have hb : bestF (f + 1) [x] = stText x := by simp [bestF, headT]
      rw [hb]
      have := (stText_good (hv x (by simp))).2.2.2
      simp; omega
    · obtain ⟨T, hT⟩ : ∃ T : Tr, T.ok ∧ T.row = l ∧ T.text.length + 1 ≤ 6 * l.length := by
        obtain ⟨x, r, rfl⟩ : ∃ x r, l = x :: r := by
          cases l with
          | nil => exact absurd rfl h
          | cons x r => exact ⟨x, r, rfl⟩
        have hr : r ≠ [] := by intro e; subst e; exact h1 rfl
        have hv2 : ∀ y ∈ r, y.valid = true := fun y hy => hv y (by simp [hy])
        simp at hf h16
        obtain ⟨⟨T, o, x1, r1⟩, _⟩ := best_good f hr hv2 (by omega) (by omega)
        have hl := best_length f hr hv2 (by omega) (by omega)
        have hx := (stText_good (hv x (by simp))).2.2.2
        refine ⟨.two (.one x) T, ⟨hv x (by simp), o⟩, by simp [Tr.row, r1], ?_⟩
        simp [Tr.text, x1]
        omega
      have := (best_good (f + 1) h hv hf h16).2 T hT.1 hT.2.1
      have := this.length
      omega

/-- The shortest text. -/
def shortL (l : List St) : List UInt8 := bestF l.length l
theorem stepsF_congr {g h : List St → List UInt8} {l : List St} (hgh : ∀ k, 1 ≤ k → k < l.length → g (l.take k) = h (l.take k) ∧ g (l.drop k) = h (l.drop k)) : ∀ m, m < l.length → stepsF g l m = stepsF h l m
  | 0, _ => rfl
  | m + 1, hm => by
    rw [stepsF_succ, stepsF_succ, stepsF_congr hgh m (by omega)]
    obtain ⟨e1, e2⟩ := hgh (m + 1) (by omega) hm
    simp only [stepK, twoT, repT, e1, e2]
theorem bestF_nil (n : Nat) : bestF n [] = [] := by
  cases n with
  | zero => rfl
  | succ n => simp [bestF, stepsF]
theorem bestF_eq : ∀ (f n : Nat) (l : List St), l.length ≤ f → l.length ≤ n → bestF f l = bestF n l
  | 0, n, l, h, _ => by
    have : l = [] := List.eq_nil_of_length_eq_zero (by omega)
    subst this; rw [bestF_nil, bestF_nil]
  | f + 1, 0, l, _, h => by
    have : l = [] := List.eq_nil_of_length_eq_zero (by omega)
    subst this; rw [bestF_nil, bestF_nil]
  | f + 1, n + 1, l, h, k => by
    rcases Nat.eq_zero_or_pos l.length with h0 | hpos
    · have : l = [] := List.eq_nil_of_length_eq_zero h0
      subst this; rw [bestF_nil, bestF_nil]
    · rw [bestF, bestF]
      by_cases h1 : l.length = 1
      · rw [if_pos h1, if_pos h1]
      · rw [if_neg h1, if_neg h1]
        refine stepsF_congr (fun m k1 k2 => ?_) _ (by omega)
        have e1 : (l.take m).length ≤ f ∧ (l.take m).length ≤ n := by rw [List.length_take]; omega
        have e2 : (l.drop m).length ≤ f ∧ (l.drop m).length ≤ n := by rw [List.length_drop]; omega
        exact ⟨bestF_eq f n _ e1.1 e1.2, bestF_eq f n _ e2.1 e2.2⟩
theorem bestF_more (f : Nat) (l : List St) (h : l.length ≤ f) : bestF f l = shortL l := bestF_eq f l.length l h (Nat.le_refl _)
theorem shortL_one (x : St) : shortL [x] = stText x := by simp [shortL, bestF, headT]
theorem shortL_more {l : List St} (h : 2 ≤ l.length) : shortL l = stepsF shortL l (l.length - 1) := by
  unfold shortL
  obtain ⟨n, hn⟩ : ∃ n, l.length = n + 1 := ⟨l.length - 1, by omega⟩
  conv => lhs; rw [hn]
  rw [bestF, if_neg (by omega), hn]
  refine stepsF_congr (fun k k1 k2 => ?_) _ (by omega)
  exact ⟨bestF_more n _ (by rw [List.length_take]; omega), bestF_more n _ (by rw [List.length_drop]; omega)⟩
theorem short_good {l : List St} (h : l ≠ []) (hv : ∀ x ∈ l, x.valid = true) (h16 : l.length ≤ 16) : Good l (shortL l) := best_good _ h hv (Nat.le_refl _) h16
theorem short_length {l : List St} (h : l ≠ []) (hv : ∀ x ∈ l, x.valid = true) (h16 : l.length ≤ 16) : (shortL l).length + 1 ≤ 6 * l.length := best_length _ h hv (Nat.le_refl _) h16

end Go.Proofs.YtgpkcooipadnpaaDoor
