/-
  Plain facts: what a machine over letters (whose steps can be undone, and obey the braid's rules) keeps when a word is changed to another word of the same braid. No conditions.
-/
import Derived.Test.YtgebiffponbmlaaPlainC
import Derived.Test.YtgebiffponbmlaaLawFollow
namespace Go.Proofs.Ytgebiffponbmlaa
open Go.RowKit

def InR (n : Nat) (k : Int) : Prop := k ≠ 0 ∧ -(n : Int) < k ∧ k < n
theorem InR.neg {n : Nat} {k : Int} (h : InR n k) : InR n (-k) := ⟨by have := h.1; omega, by have := h.2.2; omega, by have := h.2.1; omega⟩

/-- A machine whose steps are letters. -/
structure Machine {σ : Type} (n : Nat) (st : σ → Int → σ) (I : σ → Prop) : Prop where
  keep : ∀ s k, I s → InR n k → I (st s k)
  back : ∀ s k, I s → InR n k → st (st s k) (-k) = s
  far : ∀ s (i j : Nat), I s → j + 1 < n → i + 1 < j → st (st s ((i : Int) + 1)) ((j : Int) + 1) = st (st s ((j : Int) + 1)) ((i : Int) + 1)
  braid : ∀ s (i : Nat), I s → i + 2 < n → st (st (st s ((i : Int) + 1)) ((i : Int) + 2)) ((i : Int) + 1) = st (st (st s ((i : Int) + 2)) ((i : Int) + 1)) ((i : Int) + 2)

section
variable {σ : Type} {n : Nat} {st : σ → Int → σ} {I : σ → Prop}
def Com (st : σ → Int → σ) (I : σ → Prop) (a b : Int) : Prop := ∀ s, I s → st (st s a) b = st (st s b) a
def Brd (st : σ → Int → σ) (I : σ → Prop) (a b : Int) : Prop := ∀ s, I s → st (st (st s a) b) a = st (st (st s b) a) b
theorem Com.symm {a b : Int} (h : Com st I a b) : Com st I b a := fun s hs => (h s hs).symm
theorem Brd.symm {a b : Int} (h : Brd st I a b) : Brd st I b a := fun s hs => (h s hs).symm
theorem Machine.back' (M : Machine n st I) {s : σ} {k : Int} (hs : I s) (hk : InR n k) : st (st s (-k)) k = s := by
  have := M.back s (-k) hs hk.neg
  rwa [Int.neg_neg] at this
theorem Com.neg (M : Machine n st I) {a b : Int} (ha : InR n a) (hb : InR n b) (h : Com st I a b) : Com st I (-a) b := by
  intro s hs
  have ht := M.keep s (-a) hs ha.neg
  have h1 := h _ ht
  rw [M.back' hs ha] at h1
  rw [h1]
  rw [M.back _ a (M.keep _ _ ht hb) ha]
theorem Brd.neg (M : Machine n st I) {a b : Int} (ha : InR n a) (hb : InR n b) (h : Brd st I a b) : Brd st I (-a) (-b) := by
  intro s hs
  have h1 := M.keep s (-a) hs ha.neg
  have h2 := M.keep _ (-b) h1 hb.neg
  have h3 := M.keep _ (-a) h2 ha.neg
  generalize ht : st (st (st s (-a)) (-b)) (-a) = t at h3
  have e1 : st (st (st t a) b) a = s := by rw [← ht, M.back' h2 ha, M.back' h1 hb, M.back' hs ha]
  rw [h t h3] at e1
  have k1 := M.keep t b h3 hb
  have k2 := M.keep _ a k1 ha
  rw [← e1, M.back _ b k2 hb, M.back _ a k1 ha, M.back t b h3 hb]

theorem Machine.com (M : Machine n st I) {a b : Int} (ha : InR n a) (hb : InR n b) (h : a.natAbs + 1 < b.natAbs ∨ b.natAbs + 1 < a.natAbs) : Com st I a b := by
  have pos : ∀ {i j : Nat}, i + 1 < n → j + 1 < n → (i + 1 < j ∨ j + 1 < i) → Com st I ((i : Int) + 1) ((j : Int) + 1) := by
    intro i j hi hj hij
    rcases hij with h1 | h1
    · exact fun s hs => M.far s i j hs hj h1
    · exact Com.symm fun s hs => M.far s j i hs hi h1
  obtain ⟨i, hi, hia⟩ := letter_cases ha
  obtain ⟨j, hj, hjb⟩ := letter_cases hb
  have hi' : InR n ((i : Int) + 1) := ⟨by omega, by omega, by omega⟩
  have hj' : InR n ((j : Int) + 1) := ⟨by omega, by omega, by omega⟩
  have hp := pos (i := i) (j := j) (by omega) (by omega) (by omega)
  have h1 := hp.neg M hi' hj'
  have h2 := (hp.symm.neg M hj' hi').symm
  have h3 := (h1.symm.neg M hj' hi'.neg).symm
  rcases hia with rfl | rfl <;> rcases hjb with rfl | rfl <;> assumption
theorem Machine.brd (M : Machine n st I) {a b : Int} (ha : InR n a) (hb : InR n b) (h : a.natAbs + 1 = b.natAbs ∨ b.natAbs + 1 = a.natAbs) (hsg : 0 < a ↔ 0 < b) : Brd st I a b := by
  have pos : ∀ {i : Nat}, i + 2 < n → Brd st I ((i : Int) + 1) ((i : Int) + 2) := fun {i} hi s hs => M.braid s i hs hi
  obtain ⟨i, hi, hia⟩ := letter_cases ha
  obtain ⟨j, hj, hjb⟩ := letter_cases hb
  have hi' : InR n ((i : Int) + 1) := ⟨by omega, by omega, by omega⟩
  have hj' : InR n ((j : Int) + 1) := ⟨by omega, by omega, by omega⟩
  have hp : Brd st I ((i : Int) + 1) ((j : Int) + 1) := by
    rcases (show j = i + 1 ∨ i = j + 1 by omega) with rfl | rfl
    · have := pos (i := i) (by omega)
      rwa [show (((i + 1 : Nat) : Int) + 1) = (i : Int) + 2 by omega]
    · have := (pos (i := j) (by omega)).symm
      rwa [show (((j + 1 : Nat) : Int) + 1) = (j : Int) + 2 by omega]
  have hn := hp.neg M hi' hj'
  rcases hia with rfl | rfl <;> rcases hjb with rfl | rfl
  · exact hp
  · omega
  · omega
  · exact hn

theorem Machine.run_keep (M : Machine n st I) : ∀ (l : List Int) {s : σ}, I s → (∀ k ∈ l, InR n k) → I (l.foldl st s)
  | [], _, hs, _ => hs
  | k :: l, _, hs, h => M.run_keep l (M.keep _ k hs (h k List.mem_cons_self)) (fun x hx => h x (List.mem_cons_of_mem _ hx))
theorem Machine.run_inv (M : Machine n st I) : ∀ (l : List Int) {s : σ}, I s → (∀ k ∈ l, InR n k) → (inv l).foldl st (l.foldl st s) = s
  | [], _, _, _ => rfl
  | k :: l, s, hs, h => by
    have hk := h k List.mem_cons_self
    have hl := fun x hx => h x (List.mem_cons_of_mem _ hx)
    rw [inv_cons, List.foldl_append, show (k :: l).foldl st s = l.foldl st (st s k) from rfl, M.run_inv l (M.keep _ k hs hk) hl]
    exact M.back s k hs hk
theorem Machine.run_stp (M : Machine n st I) {s : σ} (hs : I s) {q : List Int} {x : Int} (hq : ∀ k ∈ q, InR n k) (hx : InR n x) : (stp q x).reverse.foldl st s = st (q.reverse.foldl st s) x := by
  cases q with
  | nil => rfl
  | cons y q =>
    rw [stp_cons]
    split
    · rename_i hy
      subst hy
      have h1 := M.run_keep q.reverse hs (fun k hk => hq k (List.mem_cons_of_mem _ (List.mem_reverse.1 hk)))
      rw [List.reverse_cons, List.foldl_append]
      have := M.back' h1 hx
      exact this.symm
    · simp
theorem stp_mem {q : List Int} {x y : Int} (h : y ∈ stp q x) : y ∈ q ∨ y = x := by
  cases q with
  | nil => simp [stp] at h; exact .inr h
  | cons z q =>
    rw [stp_cons] at h
    split at h
    · exact .inl (List.mem_cons_of_mem _ h)
    · simp only [List.mem_cons] at h ⊢
      rcases h with h | h | h
      · exact .inr h
      · exact .inl (.inl h)
      · exact .inl (.inr h)
theorem Machine.run_stk (M : Machine n st I) : ∀ (l q : List Int) {s : σ}, I s → (∀ k ∈ q, InR n k) → (∀ k ∈ l, InR n k) → (stk q l).reverse.foldl st s = l.foldl st (q.reverse.foldl st s)
  | [], _, _, _, _, _ => rfl
  | x :: l, q, s, hs, hq, hl => by
    have hx := hl x List.mem_cons_self
    have h1 := M.run_stk l (stp q x) hs (fun k hk => by rcases stp_mem hk with h | h; exact hq k h; subst h; exact hx) (fun y hy => hl y (List.mem_cons_of_mem _ hy))
    rw [List.foldl_cons, ← M.run_stp hs hq hx]
    exact h1
end

/-- Words that no machine can tell from each other. -/
def BrEq (n : Nat) (a b : List Int) : Prop := ∀ (σ : Type) (st : σ → Int → σ) (I : σ → Prop), Machine n st I → ∀ s, I s → a.foldl st s = b.foldl st s
theorem BrEq.refl {n : Nat} (a : List Int) : BrEq n a a := fun _ _ _ _ _ _ => rfl
theorem BrEq.trans {n : Nat} {a b c : List Int} (h : BrEq n a b) (k : BrEq n b c) : BrEq n a c := fun σ st I M s hs => (h σ st I M s hs).trans (k σ st I M s hs)
theorem breq_red {n : Nat} {l : List Int} (hl : ∀ k ∈ l, InR n k) : BrEq n l (redL l) := by
  intro σ st I M s hs
  rw [redL_eq, reduceL_eq, M.run_stk l [] hs (by simp) hl]
  rfl
theorem breq_ins {n : Nat} {p r : List Int} {k : Int} (hp : ∀ x ∈ p, InR n x) (hk : InR n k) : BrEq n (p ++ r) (p ++ k :: -k :: r) := by
  intro σ st I M s hs
  rw [List.foldl_append, List.foldl_append, List.foldl_cons, List.foldl_cons, M.back _ k (M.run_keep p hs hp) hk]
/-- One exchange of neighbouring letters, or none. -/
def Mv (l l' : List Int) : Prop := l' = l ∨
  (∃ p a b r, l = p ++ a :: b :: r ∧ l' = p ++ b :: a :: r ∧ (a.natAbs + 1 < b.natAbs ∨ b.natAbs + 1 < a.natAbs)) ∨
  (∃ p a b r, l = p ++ a :: b :: a :: r ∧ l' = p ++ b :: a :: b :: r ∧ (a.natAbs + 1 = b.natAbs ∨ b.natAbs + 1 = a.natAbs) ∧ (0 < a ↔ 0 < b))
theorem Mv.breq {n : Nat} {l l' : List Int} (h : Mv l l') (hl : ∀ k ∈ l, InR n k) : BrEq n l l' := by
  intro σ st I M s hs
  rcases h with rfl | ⟨p, a, b, r, rfl, rfl, h⟩ | ⟨p, a, b, r, rfl, rfl, h, hsg⟩
  · rfl
  · have h1 := M.run_keep p hs (fun x hx => hl x (List.mem_append_left _ hx))
    have := M.com (hl a (by simp)) (hl b (by simp)) h _ h1
    rw [List.foldl_append, List.foldl_append, List.foldl_cons, List.foldl_cons, List.foldl_cons, List.foldl_cons, this]
  · have h1 := M.run_keep p hs (fun x hx => hl x (List.mem_append_left _ hx))
    have := M.brd (hl a (by simp)) (hl b (by simp)) h hsg _ h1
    rw [List.foldl_append, List.foldl_append, List.foldl_cons, List.foldl_cons, List.foldl_cons, List.foldl_cons, List.foldl_cons, List.foldl_cons, this]
theorem Mv.length {l l' : List Int} (h : Mv l l') : l'.length = l.length := by
  rcases h with rfl | ⟨p, a, b, r, rfl, rfl, h⟩ | ⟨p, a, b, r, rfl, rfl, h, hsg⟩ <;> simp
theorem Mv.mem {l l' : List Int} (h : Mv l l') {x : Int} (hx : x ∈ l') : x ∈ l := by
  rcases h with rfl | ⟨p, a, b, r, rfl, rfl, h⟩ | ⟨p, a, b, r, rfl, rfl, h, hsg⟩
  · exact hx
  · simp only [List.mem_append, List.mem_cons] at hx ⊢
    rcases hx with h | h | h | h
    · exact .inl h
    · exact .inr (.inr (.inl h))
    · exact .inr (.inl h)
    · exact .inr (.inr (.inr h))
  · simp only [List.mem_append, List.mem_cons] at hx ⊢
    rcases hx with h | h | h | h | h
    · exact .inl h
    · exact .inr (.inr (.inl h))
    · exact .inr (.inl h)
    · exact .inr (.inr (.inl h))
    · exact .inr (.inr (.inr (.inr h)))
theorem redL_length (l : List Int) : (redL l).length ≤ l.length := by rw [redL_eq]; exact reduceL_length l
theorem redL_mem {l : List Int} {x : Int} (h : x ∈ redL l) : x ∈ l := by rw [redL_eq] at h; exact reduceL_mem l x h

/-- The sum. -/
theorem machine_sum (n : Nat) : Machine n (fun (s : Int) k => s + signOf k) (fun _ => True) := by
  refine ⟨fun _ _ _ _ => trivial, fun s k _ hk => ?_, fun s i j _ _ _ => ?_, fun s i _ _ => ?_⟩
  · have := hk.1
    unfold signOf
    split <;> split <;> omega
  · show s + signOf _ + signOf _ = s + signOf _ + signOf _
    omega
  · unfold signOf
    split <;> split <;> omega
theorem sumL_foldl (l : List Int) : sumL l = l.foldl (fun (s : Int) k => s + signOf k) 0 := by
  have key : ∀ (l : List Int) (s : Int), l.foldl (fun (s : Int) k => s + signOf k) s = s + sumL l := by
    intro l
    induction l with
    | nil => intro s; simp [sumL]
    | cons x l ih => intro s; simp only [List.foldl_cons]; rw [ih]; simp [sumL]; omega
  rw [key]; omega
theorem BrEq.sum {n : Nat} {a b : List Int} (h : BrEq n a b) : sumL a = sumL b := by
  rw [sumL_foldl, sumL_foldl]; exact h Int _ _ (machine_sum n) 0 trivial

/-- A place of a list is changed. -/
def upd {α : Type} (d : α) (l : List α) (i : Nat) (g : α → α) : List α := l.set i (g (l.getD i d))
theorem upd_same {α : Type} (d : α) (l : List α) (i : Nat) (g h : α → α) : upd d (upd d l i g) i h = upd d l i (fun x => h (g x)) := by
  unfold upd
  rcases Nat.lt_or_ge i l.length with hi | hi
  · rw [List.set_set, List.getD_eq_getElem?_getD, List.getElem?_set_self hi]; rfl
  · rw [List.set_eq_of_length_le hi, List.set_eq_of_length_le hi, List.set_eq_of_length_le hi]
theorem upd_comm {α : Type} (d : α) (l : List α) {i j : Nat} (hij : i ≠ j) (g h : α → α) : upd d (upd d l i g) j h = upd d (upd d l j h) i g := by
  unfold upd
  rw [List.getD_eq_getElem?_getD (l := l.set i _), List.getElem?_set_ne hij, List.getD_eq_getElem?_getD (l := l.set j _), List.getElem?_set_ne (Ne.symm hij), List.set_comm _ _ hij]
  rfl
theorem upd_id {α : Type} (d : α) (l : List α) (i : Nat) : upd d l i (fun x => x) = l := by
  unfold upd
  rcases Nat.lt_or_ge i l.length with hi | hi
  · have : l.getD i d = l[i] := by simp [List.getD, hi]
    rw [this]; exact List.set_getElem_self hi
  · exact List.set_eq_of_length_le hi
theorem addAt_upd (s : List (List Int)) (a b : Nat) (sg : Int) : addAt s a b sg = upd [] s a (fun r => upd 0 r b (fun x => x + sg)) := rfl
theorem addAt_comm (s : List (List Int)) (a b c d : Nat) (x y : Int) : addAt (addAt s a b x) c d y = addAt (addAt s c d y) a b x := by
  simp only [addAt_upd]
  by_cases h : a = c
  · subst h
    rw [upd_same, upd_same]
    congr 1
    funext r
    by_cases h2 : b = d
    · subst h2
      rw [upd_same, upd_same]
      congr 1
      funext z
      omega
    · rw [upd_comm 0 r h2]
  · rw [upd_comm [] s h]
theorem addAt_back (s : List (List Int)) (a b : Nat) (x y : Int) (h : x + y = 0) : addAt (addAt s a b x) a b y = s := by
  simp only [addAt_upd]
  rw [upd_same]
  have e : (fun r : List Int => upd 0 (upd 0 r b (fun z => z + x)) b (fun z => z + y)) = fun r => r := by
    funext r
    rw [upd_same]
    have e2 : (fun z : Int => z + x + y) = fun z => z := by funext z; omega
    rw [e2, upd_id]
  rw [e, upd_id]
theorem linkStep_comm (s : List (List Int)) (a b c d x y : Int) : linkStep (linkStep s a b x) c d y = linkStep (linkStep s c d y) a b x := by
  unfold linkStep
  rw [addAt_comm _ b.toNat a.toNat c.toNat d.toNat, addAt_comm _ a.toNat b.toNat c.toNat d.toNat, addAt_comm _ b.toNat a.toNat d.toNat c.toNat, addAt_comm _ a.toNat b.toNat d.toNat c.toNat]
theorem linkStep_back (s : List (List Int)) (a b x y : Int) (h : x + y = 0) : linkStep (linkStep s a b x) b a y = s := by
  unfold linkStep
  rw [addAt_back _ b.toNat a.toNat x y h, addAt_back _ a.toNat b.toNat x y h]

theorem ext_getD {α : Type} {d : α} {l m : List α} (hl : l.length = m.length) (h : ∀ q, q < l.length → l.getD q d = m.getD q d) : l = m := by
  apply List.ext_getElem? 
  intro q
  rcases Nat.lt_or_ge q l.length with h1 | h1
  · have := h q h1
    rw [List.getD_eq_getElem?_getD, List.getD_eq_getElem?_getD, List.getElem?_eq_getElem h1, List.getElem?_eq_getElem (by omega : q < m.length)] at this
    rw [List.getElem?_eq_getElem h1, List.getElem?_eq_getElem (by omega : q < m.length)]
    simpa using this
  · rw [List.getElem?_eq_none h1, List.getElem?_eq_none (by omega)]
theorem swapAt_length (s : List Int) (i : Nat) : (swapAt s i).length = s.length := by simp [swapAt]
theorem set2_getD {α : Type} (d : α) (s : List α) {i : Nat} (hi : i + 1 < s.length) (x y : α) (q : Nat) : ((s.set i x).set (i + 1) y).getD q d = if q = i then x else if q = i + 1 then y else s.getD q d := by
  rw [List.getD_eq_getElem?_getD, List.getElem?_set, List.getElem?_set]
  by_cases h1 : q = i
  · subst h1
    rw [if_neg (by omega), if_pos rfl, if_pos (by omega), if_pos rfl]; rfl
  · rw [if_neg h1]
    by_cases h2 : q = i + 1
    · subst h2
      rw [if_pos rfl, if_pos (by simp; omega), if_pos rfl]; rfl
    · rw [if_neg (by omega), if_neg (by omega), if_neg h2, List.getD_eq_getElem?_getD]
theorem swapAt_getD (s : List Int) {i : Nat} (hi : i + 1 < s.length) (q : Nat) : (swapAt s i).getD q 0 = if q = i then s.getD (i + 1) 0 else if q = i + 1 then s.getD i 0 else s.getD q 0 := set2_getD 0 s hi _ _ q
theorem swapAt_back (s : List Int) {i : Nat} (hi : i + 1 < s.length) : swapAt (swapAt s i) i = s := by
  apply ext_getD (d := 0) (by simp [swapAt_length])
  intro q _
  have h1 : i + 1 < (swapAt s i).length := by rw [swapAt_length]; exact hi
  simp only [swapAt_getD _ h1, swapAt_getD _ hi]
  repeat' split
  all_goals first | rfl | exact congrArg (fun z => s.getD z 0) (by omega) | (exfalso; omega) | exact absurd trivial ‹¬ True›
theorem swapAt_far (s : List Int) {i j : Nat} (hj : j + 1 < s.length) (h : i + 1 < j) : swapAt (swapAt s i) j = swapAt (swapAt s j) i := by
  apply ext_getD (d := 0) (by simp [swapAt_length])
  intro q _
  have hi : i + 1 < s.length := by omega
  have h1 : j + 1 < (swapAt s i).length := by rw [swapAt_length]; exact hj
  have h2 : i + 1 < (swapAt s j).length := by rw [swapAt_length]; exact hi
  simp only [swapAt_getD _ h1, swapAt_getD _ h2, swapAt_getD _ hi, swapAt_getD _ hj]
  repeat' split
  all_goals first | rfl | exact congrArg (fun z => s.getD z 0) (by omega) | (exfalso; omega) | exact absurd trivial ‹¬ True›
theorem swapAt_braid (s : List Int) {i : Nat} (hi : i + 2 < s.length) : swapAt (swapAt (swapAt s i) (i + 1)) i = swapAt (swapAt (swapAt s (i + 1)) i) (i + 1) := by
  apply ext_getD (d := 0) (by simp [swapAt_length])
  intro q _
  have hi1 : i + 1 < s.length := by omega
  have hi2 : i + 1 + 1 < s.length := by omega
  have a1 : i + 1 + 1 < (swapAt s i).length := by rw [swapAt_length]; exact hi2
  have a2 : i + 1 < (swapAt (swapAt s i) (i + 1)).length := by rw [swapAt_length, swapAt_length]; exact hi1
  have b1 : i + 1 < (swapAt s (i + 1)).length := by rw [swapAt_length]; exact hi1
  have b2 : i + 1 + 1 < (swapAt (swapAt s (i + 1)) i).length := by rw [swapAt_length, swapAt_length]; exact hi2
  simp only [swapAt_getD _ a2, swapAt_getD _ b2, swapAt_getD _ a1, swapAt_getD _ b1, swapAt_getD _ hi1, swapAt_getD _ hi2]
  repeat' split
  all_goals first | rfl | exact congrArg (fun z => s.getD z 0) (by omega) | (exfalso; omega) | exact absurd trivial ‹¬ True›
theorem placeOf_neg {k : Int} (h : k ≠ 0) : placeOf (-k) = placeOf k := by unfold placeOf; split <;> split <;> omega
theorem placeOf_pos (i : Nat) : placeOf ((i : Int) + 1) = i := by unfold placeOf; split <;> omega
theorem placeOf_pos2 (i : Nat) : placeOf ((i : Int) + 2) = i + 1 := by unfold placeOf; split <;> omega
theorem signOf_pos {k : Int} (h : 0 < k) : signOf k = 1 := by unfold signOf; rw [if_neg (by omega)]

/-- The strands, and the links. -/
theorem machine_follow (n : Nat) : Machine n (followStep linkStep) (fun s => s.2.length = n) := by
  refine ⟨fun s k hs hk => by simp [followStep, swapAt_length, hs], fun s k hs hk => ?_, fun s i j hs hj hij => ?_, fun s i hs hi => ?_⟩
  · have hp := placeOf_lt (n := (n : Int)) (x := k) hk
    obtain ⟨M, s⟩ := s
    simp only at hs
    have hp' : placeOf k + 1 < s.length := by omega
    unfold followStep
    simp only [placeOf_neg hk.1]
    rw [swapAt_back s hp', swapAt_getD s hp', swapAt_getD s hp', if_pos rfl, if_neg (by omega), if_pos rfl, linkStep_back]
    have := hk.1
    unfold signOf
    split <;> split <;> omega
  · obtain ⟨M, s⟩ := s
    simp only at hs
    have hj' : j + 1 < s.length := by omega
    have hi' : i + 1 < s.length := by omega
    unfold followStep
    simp only [placeOf_pos]
    rw [swapAt_far s hj' hij, swapAt_getD s hi', swapAt_getD s hi', swapAt_getD s hj', swapAt_getD s hj']
    rw [if_neg (by omega), if_neg (by omega), if_neg (by omega), if_neg (by omega), if_neg (by omega), if_neg (by omega), if_neg (by omega), if_neg (by omega), linkStep_comm]
  · obtain ⟨M, s⟩ := s
    simp only at hs
    have hi1 : i + 1 < s.length := by omega
    have hi2 : i + 1 + 1 < s.length := by omega
    have a1 : i + 1 + 1 < (swapAt s i).length := by rw [swapAt_length]; exact hi2
    have b1 : i + 1 < (swapAt s (i + 1)).length := by rw [swapAt_length]; exact hi1
    unfold followStep
    simp only [placeOf_pos, placeOf_pos2, signOf_pos (show (0 : Int) < (i : Int) + 1 by omega), signOf_pos (show (0 : Int) < (i : Int) + 2 by omega)]
    rw [swapAt_braid s (by omega)]
    simp only [swapAt_getD _ a1, swapAt_getD _ b1, swapAt_getD _ hi1, swapAt_getD _ hi2]
    simp only [show ¬ (i + 1 = i) by omega, show ¬ (i + 1 + 1 = i) by omega, show ¬ (i + 1 + 1 = i + 1) by omega, show ¬ (i = i + 1) by omega, show ¬ (i = i + 1 + 1) by omega, show ¬ (i + 1 = i + 1 + 1) by omega, if_true, if_false]
    congr 1
    rw [linkStep_comm M, linkStep_comm _ _ _ (s.getD (i + 1) 0 - 1), linkStep_comm M]
theorem BrEq.links {n : Nat} {a b : List Int} (h : BrEq n a b) : linksL n a = linksL n b := by
  unfold linksL followL
  rw [h _ _ _ (machine_follow n) (zeros n, ids n) (ids_length n)]
theorem BrEq.strands {n : Nat} {a b : List Int} (h : BrEq n a b) : strands n a = strands n b := by
  rw [← followL_snd linkStep (zeros n), ← followL_snd linkStep (zeros n)]
  unfold followL
  rw [h _ _ _ (machine_follow n) (zeros n, ids n) (ids_length n)]
theorem BrEq.perm {n : Nat} {a b : List Int} (h : BrEq n a b) : permL n a = permL n b := by
  unfold permL
  rw [followL_snd, followL_snd, h.strands]

/-- The images. -/
theorem turned_getD {ls ms : List (List Int)} {k : Nat} {X Y : List Int} (h : Turned ls ms k X Y) (q : Nat) : ms.getD q [] = if q = k then X else if q = k + 1 then Y else ls.getD q [] := by
  rw [h.eq]; exact set2_getD [] ls h.lt X Y q
def conj (a b : List Int) : List Int := joinL (joinL a b) (inv a)
def conj' (a b : List Int) : List Int := joinL (joinL (inv b) a) b
theorem eqv_conj (a b : List Int) : Eqv (conj a b) (a ++ b ++ inv a) := (eqv_join _ _).trans ((eqv_join a b).append (Eqv.refl _))
theorem eqv_conj' (a b : List Int) : Eqv (conj' a b) (inv b ++ a ++ b) := (eqv_join _ _).trans ((eqv_join (inv b) a).append (Eqv.refl _))
theorem rdc_conj {a b : List Int} (ha : Rdc a) (hb : Rdc b) : Rdc (conj a b) := rdc_join (rdc_join ha hb) (rdc_inv ha)
theorem rdc_conj' {a b : List Int} (ha : Rdc a) (hb : Rdc b) : Rdc (conj' a b) := rdc_join (rdc_join (rdc_inv hb) ha) hb
theorem stk_back' {st : List Int} (h : Red st) (l : List Int) : stk (stk st (inv l)) l = st := by
  have := stk_back h (inv l)
  rwa [inv_inv] at this
theorem conj_back {a b : List Int} (hb : Rdc b) (ha : Rdc a) : conj' (conj a b) a = b := by
  refine Eqv.eq ?_ (rdc_conj' (rdc_conj ha hb) ha) hb
  refine (eqv_conj' _ _).trans ((((Eqv.refl (inv a)).append (eqv_conj a b)).append (Eqv.refl a)).trans ?_)
  intro st hs
  simp only [stk_append]
  rw [stk_back' hs, stk_back' (red_stk hs b)]
theorem conj_back' {a b : List Int} (hb : Rdc b) (ha : Rdc a) : conj b (conj' a b) = a := by
  refine Eqv.eq ?_ (rdc_conj hb (rdc_conj' ha hb)) ha
  refine (eqv_conj _ _).trans ((((Eqv.refl b).append (eqv_conj' a b)).append (Eqv.refl (inv b))).trans ?_)
  intro st hs
  simp only [stk_append]
  rw [stk_back hs, stk_back (red_stk hs a)]
theorem conj_braid3 (x y z : List Int) : Eqv ((x ++ y ++ inv x) ++ (x ++ z ++ inv x) ++ inv (x ++ y ++ inv x)) (x ++ (y ++ z ++ inv y) ++ inv x) := by
  intro st hs
  have h1 := red_stk hs x
  have h2 := red_stk h1 y
  have h3 := red_stk h2 z
  rw [inv_append, inv_append, inv_inv]
  rw [stk_append, stk_append, stk_append, stk_append, stk_append, stk_append, stk_append, stk_append, stk_append, stk_append, stk_append, stk_append]
  rw [stk_back' h2, stk_back' h3]
theorem conj_braid_of (f : List Int → List Int → List Int) (hf : ∀ a b, Eqv (f a b) (a ++ b ++ inv a)) (hr : ∀ a b, Rdc a → Rdc b → Rdc (f a b)) {x y z : List Int} (hx : Rdc x) (hy : Rdc y) (hz : Rdc z) : f (f x y) (f x z) = f x (f y z) := by
  have e1 : Eqv (f (f x y) (f x z)) ((x ++ y ++ inv x) ++ (x ++ z ++ inv x) ++ inv (x ++ y ++ inv x)) := Eqv.trans (hf (f x y) (f x z)) (Eqv.append (Eqv.append (hf x y) (hf x z)) (Eqv.inv (hf x y)))
  have e2 : Eqv (f x (f y z)) (x ++ (y ++ z ++ inv y) ++ inv x) := Eqv.trans (hf x (f y z)) (Eqv.append (Eqv.append (Eqv.refl x) (hf y z)) (Eqv.refl (inv x)))
  have e := Eqv.trans e1 (Eqv.trans (conj_braid3 x y z) (Eqv.symm e2))
  have r1 := hr _ _ (hr _ _ hx hy) (hr _ _ hx hz)
  have r2 := hr _ _ hx (hr _ _ hy hz)
  exact Eqv.eq e r1 r2
theorem conj_braid {x y z : List Int} (hx : Rdc x) (hy : Rdc y) (hz : Rdc z) : conj (conj x y) (conj x z) = conj x (conj y z) := conj_braid_of conj eqv_conj (fun _ _ ha hb => rdc_conj ha hb) hx hy hz
theorem machine_act (n : Nat) : Machine n actStep (fun ls => ls.length = n ∧ ∀ r ∈ ls, Rdc r) := by
  refine ⟨fun s k hs hk => ⟨by rw [actStep_length]; exact hs.1, actStep_rdc hs.2 k⟩, fun s k hs hk => ?_, fun s i j hs hj hij => ?_, fun s i hs hi => ?_⟩
  · obtain ⟨hl, hr⟩ := hs
    obtain ⟨j, hj, hkj⟩ := letter_cases hk
    have hj1 : j + 1 < s.length := by omega
    have r1 := rdc_getD hr j
    have r2 := rdc_getD hr (j + 1)
    rcases hkj with rfl | rfl
    · have t1 := actStep_pos hj1
      have t2 := actStep_neg (ls := actStep s ((j : Int) + 1)) (k := j) (by rw [actStep_length]; exact hj1)
      apply ext_getD (d := []) (by simp [actStep_length])
      intro q _
      rw [turned_getD t2, t1.get1, t1.get2, turned_getD t1]
      by_cases h1 : q = j
      · rw [if_pos h1, h1]
      · rw [if_neg h1, if_neg h1]
        by_cases h2 : q = j + 1
        · rw [if_pos h2, h2]
          exact conj_back r2 r1
        · rw [if_neg h2, if_neg h2]
    · have t1 := actStep_neg hj1
      have t2 := actStep_pos (ls := actStep s (-((j : Int) + 1))) (k := j) (by rw [actStep_length]; exact hj1)
      rw [Int.neg_neg]
      apply ext_getD (d := []) (by simp [actStep_length])
      intro q _
      rw [turned_getD t2, t1.get1, t1.get2, turned_getD t1]
      by_cases h1 : q = j
      · rw [if_pos h1, h1]
        exact conj_back' r2 r1
      · rw [if_neg h1, if_neg h1]
        by_cases h2 : q = j + 1
        · rw [if_pos h2, h2]
        · rw [if_neg h2, if_neg h2]
  · obtain ⟨hl, hr⟩ := hs
    have hi1 : i + 1 < s.length := by omega
    have hj1 : j + 1 < s.length := by omega
    have a1 := actStep_pos hi1
    have a2 := actStep_pos (ls := actStep s ((i : Int) + 1)) (k := j) (by rw [actStep_length]; exact hj1)
    have b1 := actStep_pos hj1
    have b2 := actStep_pos (ls := actStep s ((j : Int) + 1)) (k := i) (by rw [actStep_length]; exact hi1)
    apply ext_getD (d := []) (by simp [actStep_length])
    intro q _
    rw [turned_getD a2, turned_getD b2, turned_getD a1, turned_getD a1, turned_getD a1, turned_getD b1, turned_getD b1, turned_getD b1]
    simp only [show ¬ (j = i) by omega, show ¬ (j = i + 1) by omega, show ¬ (j + 1 = i) by omega, show ¬ (j + 1 = i + 1) by omega, show ¬ (i = j) by omega, show ¬ (i = j + 1) by omega, show ¬ (i + 1 = j) by omega, show ¬ (i + 1 = j + 1) by omega, if_false]
    repeat' split
    all_goals first | rfl | (exfalso; omega)
  · obtain ⟨hl, hr⟩ := hs
    have hi1 : i + 1 < s.length := by omega
    have hi2 : i + 1 + 1 < s.length := by omega
    have rx := rdc_getD hr i
    have ry := rdc_getD hr (i + 1)
    have rz := rdc_getD hr (i + 1 + 1)
    have e2 : (i : Int) + 2 = ((i + 1 : Nat) : Int) + 1 := by omega
    rw [e2]
    have a1 := actStep_pos hi1
    have a2 := actStep_pos (ls := actStep s ((i : Int) + 1)) (k := i + 1) (by rw [actStep_length]; exact hi2)
    have a3 := actStep_pos (ls := actStep (actStep s ((i : Int) + 1)) (((i + 1 : Nat) : Int) + 1)) (k := i) (by rw [actStep_length, actStep_length]; exact hi1)
    have b1 := actStep_pos hi2
    have b2 := actStep_pos (ls := actStep s (((i + 1 : Nat) : Int) + 1)) (k := i) (by rw [actStep_length]; exact hi1)
    have b3 := actStep_pos (ls := actStep (actStep s (((i + 1 : Nat) : Int) + 1)) ((i : Int) + 1)) (k := i + 1) (by rw [actStep_length, actStep_length]; exact hi2)
    apply ext_getD (d := []) (by simp [actStep_length])
    intro q _
    rw [turned_getD a3, turned_getD b3]
    simp only [turned_getD a2, turned_getD b2]
    simp only [turned_getD a1, turned_getD b1]
    simp only [show ¬ (i = i + 1) by omega, show ¬ (i = i + 1 + 1) by omega, show ¬ (i + 1 = i) by omega, show ¬ (i + 1 + 1 = i) by omega, show ¬ (i + 1 + 1 = i + 1) by omega, show ¬ (i + 1 = i + 1 + 1) by omega, if_true, if_false]
    have hb := conj_braid rx ry rz
    unfold conj at hb
    rw [hb]
    repeat' split
    all_goals first | rfl | (exfalso; omega)
theorem BrEq.act {n : Nat} {a b : List Int} (h : BrEq n a b) : actL n a = actL n b := h _ _ _ (machine_act n) (gens n) ⟨gens_length n, rdc_gens n⟩
theorem actL_append (n : Nat) (a b : List Int) : actL n (a ++ b) = b.foldl actStep (actL n a) := by unfold actL; rw [List.foldl_append]
theorem actL_inv (n : Nat) (l s : List Int) (hs : ∀ k ∈ s, InR n k) : (inv s).foldl actStep (actL n (l ++ s)) = actL n l := by
  rw [actL_append]
  exact (machine_act n).run_inv s ⟨actL_length n l, actL_rdc n l⟩ hs
theorem act_undone {n : Nat} {a b : List Int} (h : BrEq n a b) (hb : ∀ k ∈ b, InR n k) : actL n (a ++ inv b) = gens n := by
  rw [actL_append, h.act]
  exact actL_inv n [] b hb
theorem act_16 {n : Nat} (hn : n ≤ 6) {l : List Int} (hl : ∀ k ∈ l, InR n k) (h : l.length ≤ 16) : ∀ r ∈ actL n l, r.length ≤ 262144 := by
  intro r hr
  have h1 := actL_rows n l hl r hr
  have h2 : 2 ^ (l.length - 1) ≤ 2 ^ 15 := Nat.pow_le_pow_right (by omega) (by omega)
  have h3 : (n + 1) * 2 ^ (l.length - 1) ≤ 7 * 2 ^ 15 := Nat.mul_le_mul (by omega) h2
  have h4 : 7 * 2 ^ 15 = 229376 := by decide
  omega
theorem inr_inv {n : Nat} {l : List Int} (h : ∀ k ∈ l, InR n k) : ∀ k ∈ inv l, InR n k := by
  intro k hk
  simp only [inv, List.mem_reverse, List.mem_map] at hk
  obtain ⟨x, hx, rfl⟩ := hk
  exact (h x hx).neg
/-- A word of the same braid as a short one is short enough for Act. -/
theorem actOk_same {n : Nat} (hn : n ≤ 6) {a b : List Int} (h : BrEq n a b) (ha : ∀ k ∈ a, InR n k) (hb : ∀ k ∈ b, InR n k) (hla : a.length ≤ 12) (hlb : b.length ≤ 21) : ActOk n b := by
  intro k hk
  rcases Nat.lt_or_ge 16 k with h16 | h16
  · have e : actL n (b.take k) = actL n (a ++ inv (b.drop k)) := by
      rw [actL_append, h.act]
      have := actL_inv n (b.take k) (b.drop k) (fun x hx => hb x (List.mem_of_mem_drop hx))
      rw [List.take_append_drop] at this
      exact this.symm
    rw [e]
    refine act_16 hn (fun x hx => ?_) ?_
    · rcases List.mem_append.1 hx with h1 | h1
      · exact ha x h1
      · exact inr_inv (fun y hy => hb y (List.mem_of_mem_drop hy)) x h1
    · rw [List.length_append, inv_length, List.length_drop]; omega
  · exact act_16 hn (fun x hx => hb x (List.mem_of_mem_take hx)) (by rw [List.length_take]; omega)
theorem actOk_undo {n : Nat} (hn : n ≤ 6) {a b : List Int} (h : BrEq n a b) (ha : ∀ k ∈ a, InR n k) (hb : ∀ k ∈ b, InR n k) (hla : a.length ≤ 12) (hlb : b.length ≤ 21) : ActOk n (a ++ inv b) := by
  intro k hk
  rcases Nat.lt_or_ge a.length k with h1 | h1
  · obtain ⟨j, rfl⟩ : ∃ j, k = a.length + j := ⟨k - a.length, by omega⟩
    have hjl : j ≤ b.length := by rw [List.length_append, inv_length] at hk; omega
    rw [List.take_length_add_append]
    have e : (inv b).take j = inv (b.drop (b.length - j)) := by
      have h2 : b = b.take (b.length - j) ++ b.drop (b.length - j) := (List.take_append_drop _ b).symm
      have h3 : inv b = inv (b.drop (b.length - j)) ++ inv (b.take (b.length - j)) := by rw [← inv_append, List.take_append_drop]
      rw [h3, List.take_left' (by rw [inv_length, List.length_drop]; omega)]
    rcases Nat.lt_or_ge 4 j with h4 | h4
    · rw [e, actL_append, h.act]
      have := actL_inv n (b.take (b.length - j)) (b.drop (b.length - j)) (fun x hx => hb x (List.mem_of_mem_drop hx))
      rw [List.take_append_drop] at this
      rw [this]
      exact act_16 hn (fun x hx => hb x (List.mem_of_mem_take hx)) (by rw [List.length_take]; omega)
    · refine act_16 hn (fun x hx => ?_) ?_
      · rcases List.mem_append.1 hx with h1 | h1
        · exact ha x h1
        · exact inr_inv hb x (List.mem_of_mem_take h1)
      · rw [List.length_append, List.length_take]; omega
  · rw [List.take_append_of_le_length h1]
    exact act_16 hn (fun x hx => ha x (List.mem_of_mem_take hx)) (by rw [List.length_take]; omega)

end Go.Proofs.Ytgebiffponbmlaa
