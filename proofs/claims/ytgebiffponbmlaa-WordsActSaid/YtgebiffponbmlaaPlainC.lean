/-
  Plain facts: Act's images are reduced, are those of the definition, their product is that of the generators; how long they are. No program here.
-/
import Derived.Test.YtgebiffponbmlaaPlainB
namespace Go.Proofs.Ytgebiffponbmlaa

theorem rdc_nil : Rdc [] := trivial
theorem rdc_getD {ls : List (List Int)} (h : ∀ r ∈ ls, Rdc r) (k : Nat) : Rdc (ls.getD k []) := by
  rw [List.getD_eq_getElem?_getD]
  rcases hk : ls[k]? with _ | l
  · exact rdc_nil
  · exact h l (List.mem_of_getElem? hk)
theorem conj_eq {a b : List Int} (ha : Rdc a) (hb : Rdc b) : redL (a ++ b ++ inv a) = joinL (joinL a b) (inv a) := by
  rw [redL_eq]
  exact ((eqv_reduceL _).trans ((eqv_join _ _).trans ((eqv_join a b).append (Eqv.refl _))).symm).eq (rdc_reduceL _) (rdc_join (rdc_join ha hb) (rdc_inv ha))
theorem conj_eq2 {a b : List Int} (ha : Rdc a) (hb : Rdc b) : redL (inv b ++ a ++ b) = joinL (joinL (inv b) a) b := by
  rw [redL_eq]
  exact ((eqv_reduceL _).trans ((eqv_join _ _).trans ((eqv_join (inv b) a).append (Eqv.refl _))).symm).eq (rdc_reduceL _) (rdc_join (rdc_join (rdc_inv hb) ha) hb)
theorem imageL_eq {ls : List (List Int)} (h : ∀ r ∈ ls, Rdc r) (k : Int) : imageL ls k = actStep ls k := by
  unfold imageL actStep
  split
  · rw [conj_eq (rdc_getD h _) (rdc_getD h _)]
  · rw [conj_eq2 (rdc_getD h _) (rdc_getD h _)]
theorem actStep_rdc {ls : List (List Int)} (h : ∀ r ∈ ls, Rdc r) (k : Int) : ∀ r ∈ actStep ls k, Rdc r := by
  intro l hl
  unfold actStep at hl
  split at hl
  · exact mem_set_of (p := Rdc) (fun z hz => mem_set_of (p := Rdc) h (rdc_join (rdc_join (rdc_getD h _) (rdc_getD h _)) (rdc_inv (rdc_getD h _))) hz) (rdc_getD h _) hl
  · exact mem_set_of (p := Rdc) (fun z hz => mem_set_of (p := Rdc) h (rdc_getD h _) hz) (rdc_join (rdc_join (rdc_inv (rdc_getD h _)) (rdc_getD h _)) (rdc_getD h _)) hl
theorem rdc_gens (n : Nat) : ∀ r ∈ gens n, Rdc r := by
  intro r hr
  simp only [gens, List.mem_map] at hr
  obtain ⟨i, _, rfl⟩ := hr
  trivial
theorem actL_rdc (n : Nat) (l : List Int) : ∀ r ∈ actL n l, Rdc r := by
  have key : ∀ (l : List Int) (g : List (List Int)), (∀ r ∈ g, Rdc r) → ∀ r ∈ l.foldl actStep g, Rdc r := by
    intro l
    induction l with
    | nil => intro g hg; exact hg
    | cons x l ih => intro g hg; exact ih _ (actStep_rdc hg x)
  exact key l _ (rdc_gens n)
def imagesL (n : Nat) (l : List Int) : List (List Int) := l.foldl imageL (gens n)
theorem imagesL_eq (n : Nat) (l : List Int) : imagesL n l = actL n l := by
  have key : ∀ (l : List Int) (g : List (List Int)), (∀ r ∈ g, Rdc r) → l.foldl imageL g = l.foldl actStep g := by
    intro l
    induction l with
    | nil => intro g _; rfl
    | cons x l ih =>
      intro g hg
      simp only [List.foldl_cons]
      rw [imageL_eq hg, ih _ (actStep_rdc hg x)]
  exact key l _ (rdc_gens n)
theorem imagesL_snoc (n : Nat) (l : List Int) (x : Int) : imagesL n (l ++ [x]) = imageL (imagesL n l) x := by simp [imagesL]

/-- A stretch of rows, one behind the other. -/
def seg (ls : List (List Int)) (i j : Nat) : List Int := ((ls.drop i).take (j - i)).flatten
theorem seg_self (ls : List (List Int)) (i : Nat) : seg ls i i = [] := by simp [seg]
theorem seg_split (ls : List (List Int)) {i p j : Nat} (h1 : i ≤ p) (h2 : p ≤ j) : seg ls i j = seg ls i p ++ seg ls p j := by
  unfold seg
  rw [← List.flatten_append]
  congr 1
  have e : (ls.drop i).take (j - i) = (ls.drop i).take (p - i) ++ ((ls.drop i).drop (p - i)).take (j - p) := by
    rw [show j - i = (p - i) + (j - p) by omega, List.take_add]
  rw [e, List.drop_drop, show i + (p - i) = p by omega]
theorem seg_one (ls : List (List Int)) {p : Nat} (hp : p < ls.length) : seg ls p (p + 1) = ls.getD p [] := by
  unfold seg
  rw [show p + 1 - p = 1 by omega, List.drop_eq_getElem_cons hp, List.take_succ_cons, List.take_zero]
  have e : ls.getD p [] = ls[p] := by simp [List.getD, hp]
  rw [e]
  simp only [List.flatten_cons, List.flatten_nil, List.append_nil]
theorem seg_congr {ls ms : List (List Int)} {i j : Nat} (h : ∀ q, i ≤ q → q < j → ls[q]? = ms[q]?) : seg ls i j = seg ms i j := by
  unfold seg
  congr 1
  apply List.ext_getElem?
  intro q
  rw [List.getElem?_take, List.getElem?_take]
  split
  · rw [List.getElem?_drop, List.getElem?_drop]; exact h _ (by omega) (by omega)
  · rfl
theorem reduceL_append (u v : List Int) : reduceL (u ++ v) = joinL (reduceL u) (reduceL v) :=
  ((eqv_reduceL _).trans (((eqv_reduceL u).append (eqv_reduceL v)).symm.trans (eqv_join _ _).symm)).eq (rdc_reduceL _) (rdc_join (rdc_reduceL _) (rdc_reduceL _))
theorem len_append (u v : List Int) : (reduceL (u ++ v)).length ≤ (reduceL u).length + (reduceL v).length := by rw [reduceL_append]; exact joinL_length _ _
theorem reduceL_inv (u : List Int) : reduceL (inv u) = inv (reduceL u) := ((eqv_reduceL _).trans (eqv_reduceL u).symm.inv).eq (rdc_reduceL _) (rdc_inv (rdc_reduceL _))
theorem len_inv (u : List Int) : (reduceL (inv u)).length = (reduceL u).length := by rw [reduceL_inv, inv_length]

/-- Two neighbouring rows become two others with the same product. -/
structure Turned (ls ms : List (List Int)) (k : Nat) (X Y : List Int) : Prop where
  lt : k + 1 < ls.length
  eq : ms = (ls.set k X).set (k + 1) Y
  prod : Eqv (X ++ Y) (ls.getD k [] ++ ls.getD (k + 1) [])
theorem Turned.len {ls ms : List (List Int)} {k : Nat} {X Y : List Int} (h : Turned ls ms k X Y) : ms.length = ls.length := by rw [h.eq]; simp
theorem Turned.get1 {ls ms : List (List Int)} {k : Nat} {X Y : List Int} (h : Turned ls ms k X Y) : ms.getD k [] = X := by
  rw [h.eq, List.getD_eq_getElem?_getD, List.getElem?_set_ne (by omega), List.getElem?_set_self (by have := h.lt; omega)]; rfl
theorem Turned.get2 {ls ms : List (List Int)} {k : Nat} {X Y : List Int} (h : Turned ls ms k X Y) : ms.getD (k + 1) [] = Y := by
  rw [h.eq, List.getD_eq_getElem?_getD, List.getElem?_set_self (by have := h.lt; simp; omega)]; rfl
theorem Turned.other {ls ms : List (List Int)} {k : Nat} {X Y : List Int} (h : Turned ls ms k X Y) {q : Nat} (h1 : q ≠ k) (h2 : q ≠ k + 1) : ms[q]? = ls[q]? := by
  rw [h.eq, List.getElem?_set_ne (by omega), List.getElem?_set_ne (by omega)]
theorem Turned.whole {ls ms : List (List Int)} {k : Nat} {X Y : List Int} (h : Turned ls ms k X Y) {i j : Nat} (h1 : i ≤ k) (h2 : k + 2 ≤ j) (_h3 : j ≤ ls.length) : Eqv (seg ms i j) (seg ls i j) := by
  have hlt := h.lt
  have hl := h.len
  rw [seg_split ms h1 (show k ≤ j by omega), seg_split ms (show k ≤ k + 1 by omega) (show k + 1 ≤ j by omega), seg_split ms (show k + 1 ≤ k + 2 by omega) h2,
    seg_split ls h1 (show k ≤ j by omega), seg_split ls (show k ≤ k + 1 by omega) (show k + 1 ≤ j by omega), seg_split ls (show k + 1 ≤ k + 2 by omega) h2,
    seg_one ms (by omega), seg_one ms (by omega), seg_one ls (by omega), seg_one ls (by omega), h.get1, h.get2,
    seg_congr (ls := ms) (ms := ls) (fun q _ hq => h.other (by omega) (by omega)), seg_congr (ls := ms) (ms := ls) (i := k + 2) (fun q hq _ => h.other (by omega) (by omega))]
  refine (Eqv.refl _).append ?_
  rw [← List.append_assoc, ← List.append_assoc]
  exact h.prod.append (Eqv.refl _)
/-- The steps of Act turn two neighbouring rows. -/
theorem actStep_pos {ls : List (List Int)} {k : Nat} (hk : k + 1 < ls.length) : Turned ls (actStep ls ((k : Int) + 1)) k (joinL (joinL (ls.getD k []) (ls.getD (k + 1) [])) (inv (ls.getD k []))) (ls.getD k []) := by
  refine ⟨hk, ?_, ?_⟩
  · unfold actStep
    rw [if_pos (by omega), show ((k : Int) + 1).toNat = k + 1 by omega, Nat.add_sub_cancel]
  · have h1 := (eqv_join (joinL (ls.getD k []) (ls.getD (k + 1) [])) (inv (ls.getD k []))).trans ((eqv_join (ls.getD k []) (ls.getD (k + 1) [])).append (Eqv.refl _))
    have h2 := h1.append (Eqv.refl (ls.getD k []))
    refine h2.trans ?_
    rw [List.append_assoc]
    have := (Eqv.refl (ls.getD k [] ++ ls.getD (k + 1) [])).append (eqv_front (ls.getD k []))
    simpa using this
theorem actStep_neg {ls : List (List Int)} {k : Nat} (hk : k + 1 < ls.length) : Turned ls (actStep ls (-((k : Int) + 1))) k (ls.getD (k + 1) []) (joinL (joinL (inv (ls.getD (k + 1) [])) (ls.getD k [])) (ls.getD (k + 1) [])) := by
  refine ⟨hk, ?_, ?_⟩
  · unfold actStep
    rw [if_neg (by omega), show (-(-((k : Int) + 1))).toNat = k + 1 by omega, Nat.add_sub_cancel]
  · have h1 := (eqv_join (joinL (inv (ls.getD (k + 1) [])) (ls.getD k [])) (ls.getD (k + 1) [])).trans ((eqv_join (inv (ls.getD (k + 1) [])) (ls.getD k [])).append (Eqv.refl _))
    have h2 := (Eqv.refl (ls.getD (k + 1) [])).append h1
    refine h2.trans ?_
    rw [← List.append_assoc, ← List.append_assoc]
    have := ((eqv_back (ls.getD (k + 1) [])).append (Eqv.refl (ls.getD k []))).append (Eqv.refl (ls.getD (k + 1) []))
    simpa using this
/-- Every letter of a word turns two neighbouring rows. -/
theorem letter_cases {n x : Int} (h : x ≠ 0 ∧ -n < x ∧ x < n) : ∃ k : Nat, (k : Int) + 1 < n ∧ (x = (k : Int) + 1 ∨ x = -((k : Int) + 1)) := by
  rcases (show 0 < x ∨ x < 0 by omega) with h0 | h0
  · exact ⟨(x - 1).toNat, by omega, .inl (by omega)⟩
  · exact ⟨(-x - 1).toNat, by omega, .inr (by omega)⟩
theorem seg_all (ls : List (List Int)) : seg ls 0 ls.length = ls.flatten := by unfold seg; simp
theorem actL_product (n : Nat) (l : List Int) (h : ∀ k ∈ l, k ≠ 0 ∧ -(n : Int) < k ∧ k < n) : Eqv (actL n l).flatten (gens n).flatten := by
  have key : ∀ (l : List Int) (g : List (List Int)), g.length = n → (∀ k ∈ l, k ≠ 0 ∧ -(n : Int) < k ∧ k < n) → Eqv (l.foldl actStep g).flatten g.flatten := by
    intro l
    induction l with
    | nil => intro g _ _; exact Eqv.refl _
    | cons x l ih =>
      intro g hg hl
      have h1 := ih (actStep g x) (by rw [actStep_length, hg]) (fun k hk => hl k (by simp [hk]))
      refine h1.trans ?_
      obtain ⟨k, hk, hx⟩ := letter_cases (hl x (by simp))
      rcases hx with rfl | rfl
      · have ht := actStep_pos (ls := g) (k := k) (by omega)
        have := ht.whole (i := 0) (j := g.length) (by omega) (by omega) (Nat.le_refl _)
        rw [seg_all, ← ht.len, seg_all] at this
        exact this
      · have ht := actStep_neg (ls := g) (k := k) (by omega)
        have := ht.whole (i := 0) (j := g.length) (by omega) (by omega) (Nat.le_refl _)
        rw [seg_all, ← ht.len, seg_all] at this
        exact this
  exact key l _ (gens_length n) h
theorem red_pos : ∀ (l : List Int), (∀ x ∈ l, 0 < x) → Red l
  | [], _ => trivial
  | [_], _ => trivial
  | x :: y :: l, h => ⟨by have := h x (by simp); have := h y (by simp); omega, red_pos (y :: l) (fun z hz => h z (by simp [hz]))⟩
theorem gens_flatten (n : Nat) : (gens n).flatten = ids n := by
  unfold gens ids
  induction List.range n with
  | nil => rfl
  | cons i r ih => simp only [List.map_cons, List.flatten_cons, ih]; rfl
theorem rdc_ids (n : Nat) : Rdc (ids n) := by
  refine red_pos _ (fun x hx => ?_)
  rw [List.mem_reverse] at hx
  have := (perm_ids n).2 x hx
  omega
/-- The product of all images is that of the generators. -/
theorem product_eq (n : Nat) (l : List Int) (h : ∀ k ∈ l, k ≠ 0 ∧ -(n : Int) < k ∧ k < n) : redL (actL n l).flatten = ids n := by
  rw [redL_eq, (actL_product n l h).reduceL, gens_flatten, reduceL_self (rdc_ids n)]

/-! ### How long the images are -/
def SegB (ls : List (List Int)) (S : Nat) : Prop := ∀ i j, i ≤ j → j ≤ ls.length → (reduceL (seg ls i j)).length ≤ S
theorem turned_bound {ls ms : List (List Int)} {k : Nat} {X Y : List Int} {S M : Nat} (h : Turned ls ms k X Y) (hS : SegB ls S)
    (h1 : ∀ i, i ≤ k → (reduceL (seg ls i k ++ X)).length ≤ S + M) (h2 : ∀ j, k + 2 ≤ j → j ≤ ls.length → (reduceL (Y ++ seg ls (k + 2) j)).length ≤ S + M) : SegB ms (S + M) := by
  intro i j hij hj
  have hl := h.len
  rw [hl] at hj
  have hlt := h.lt
  have hbase := hS i j hij hj
  rcases (show j ≤ k ∨ k + 2 ≤ i ∨ (i ≤ k ∧ k + 2 ≤ j) ∨ (i ≤ k ∧ j = k + 1) ∨ (i = k + 1 ∧ k + 2 ≤ j) ∨ (i = k + 1 ∧ j = k + 1) by omega) with c | c | c | c | c | c
  · rw [seg_congr (ls := ms) (ms := ls) (fun q _ hq => h.other (by omega) (by omega))]; omega
  · rw [seg_congr (ls := ms) (ms := ls) (fun q hq _ => h.other (by omega) (by omega))]; omega
  · rw [(h.whole c.1 c.2 hj).reduceL]; omega
  · obtain ⟨c1, rfl⟩ := c
    rw [seg_split ms c1 (show k ≤ k + 1 by omega), seg_one ms (by omega), h.get1, seg_congr (ls := ms) (ms := ls) (fun q _ hq => h.other (by omega) (by omega))]
    exact h1 i c1
  · obtain ⟨rfl, c2⟩ := c
    rw [seg_split ms (show k + 1 ≤ k + 2 by omega) c2, seg_one ms (by omega), h.get2, seg_congr (ls := ms) (ms := ls) (i := k + 2) (fun q hq _ => h.other (by omega) (by omega))]
    exact h2 j c2 hj
  · obtain ⟨rfl, rfl⟩ := c
    rw [seg_self]; simp [reduceL]
theorem reduceL_eqv_len {a b : List Int} (h : Eqv a b) : (reduceL a).length = (reduceL b).length := by rw [h.reduceL]
theorem step_bound {ls : List (List Int)} {S M : Nat} {n : Nat} (hn : ls.length = n) (hS : SegB ls S) (hM : ∀ q, q < n → (reduceL (ls.getD q [])).length ≤ M) {x : Int} (hx : x ≠ 0 ∧ -(n : Int) < x ∧ x < n) : SegB (actStep ls x) (S + M) := by
  obtain ⟨k, hk, hx⟩ := letter_cases hx
  have ha := hM k (by omega)
  have hb := hM (k + 1) (by omega)
  rcases hx with rfl | rfl
  · refine turned_bound (actStep_pos (ls := ls) (k := k) (by omega)) hS (fun i hi => ?_) (fun j h1 h2 => ?_)
    · have e : Eqv (seg ls i k ++ joinL (joinL (ls.getD k []) (ls.getD (k + 1) [])) (inv (ls.getD k []))) (seg ls i (k + 2) ++ inv (ls.getD k [])) := by
        rw [seg_split ls hi (show k ≤ k + 2 by omega), seg_split ls (show k ≤ k + 1 by omega) (show k + 1 ≤ k + 2 by omega), seg_one ls (by omega), seg_one ls (by omega), List.append_assoc]
        exact (Eqv.refl _).append ((eqv_join _ _).trans ((eqv_join _ _).append (Eqv.refl _)))
      rw [reduceL_eqv_len e]
      have h1 := len_append (seg ls i (k + 2)) (inv (ls.getD k []))
      have h2 := hS i (k + 2) (by omega) (by omega)
      rw [len_inv] at h1
      omega
    · have h3 := len_append (ls.getD k []) (seg ls (k + 2) j)
      have h4 := hS (k + 2) j h1 h2
      omega
  · refine turned_bound (actStep_neg (ls := ls) (k := k) (by omega)) hS (fun i hi => ?_) (fun j h1 h2 => ?_)
    · have h3 := len_append (seg ls i k) (ls.getD (k + 1) [])
      have h4 := hS i k hi (by omega)
      omega
    · have e : Eqv (joinL (joinL (inv (ls.getD (k + 1) [])) (ls.getD k [])) (ls.getD (k + 1) []) ++ seg ls (k + 2) j) (inv (ls.getD (k + 1) []) ++ seg ls k j) := by
        rw [seg_split ls (show k ≤ k + 1 by omega) (show k + 1 ≤ j by omega), seg_split ls (show k + 1 ≤ k + 2 by omega) h1, seg_one ls (by omega), seg_one ls (by omega)]
        have := ((eqv_join (joinL (inv (ls.getD (k + 1) [])) (ls.getD k [])) (ls.getD (k + 1) [])).trans ((eqv_join (inv (ls.getD (k + 1) [])) (ls.getD k [])).append (Eqv.refl _))).append (Eqv.refl (seg ls (k + 2) j))
        simpa [List.append_assoc] using this
      rw [reduceL_eqv_len e]
      have h3 := len_append (inv (ls.getD (k + 1) [])) (seg ls k j)
      have h4 := hS k j (by omega) h2
      rw [len_inv] at h3
      omega
theorem row_of_seg {ls : List (List Int)} {S : Nat} (hS : SegB ls S) {q : Nat} (hq : q < ls.length) : (reduceL (ls.getD q [])).length ≤ S := by
  have := hS q (q + 1) (by omega) (by omega)
  rwa [seg_one ls hq] at this
/-- Behind t letters, t at least 1, no stretch has more than (n + 1) 2^(t-1) letters. -/
theorem actL_seg (n : Nat) (l : List Int) (h : ∀ k ∈ l, k ≠ 0 ∧ -(n : Int) < k ∧ k < n) : SegB (actL n l) ((n + 1) * 2 ^ (l.length - 1)) := by
  have base : SegB (gens n) n := by
    intro i j hij hj
    have h1 := reduceL_length (seg (gens n) i j)
    have h2 : (seg (gens n) i j).length ≤ n := by
      unfold seg
      have e : ∀ (m : List (List Int)), (∀ r ∈ m, r.length = 1) → m.flatten.length = m.length := by
        intro m
        induction m with
        | nil => intro _; rfl
        | cons r m ih => intro hm; simp only [List.flatten_cons, List.length_append, List.length_cons]; rw [hm r (by simp), ih (fun z hz => hm z (by simp [hz]))]; omega
      rw [e _ (fun r hr => by
        have := List.mem_of_mem_drop (List.mem_of_mem_take hr)
        simp only [gens, List.mem_map] at this
        obtain ⟨q, _, rfl⟩ := this
        rfl)]
      have := gens_length n
      rw [List.length_take, List.length_drop]
      omega
    omega
  have key : ∀ (l : List Int) (g : List (List Int)) (S : Nat), g.length = n → SegB g S → (∀ k ∈ l, k ≠ 0 ∧ -(n : Int) < k ∧ k < n) → SegB (l.foldl actStep g) (S * 2 ^ l.length) := by
    intro l
    induction l with
    | nil => intro g S _ hS _; simpa using hS
    | cons x l ih =>
      intro g S hg hS hl
      have h1 := step_bound hg hS (fun q hq => row_of_seg hS (by omega)) (hl x (by simp))
      have h2 := ih (actStep g x) (S + S) (by rw [actStep_length, hg]) h1 (fun k hk => hl k (by simp [hk]))
      have e : (S + S) * 2 ^ l.length = S * 2 ^ (x :: l).length := by rw [List.length_cons, Nat.pow_succ, ← Nat.mul_two, Nat.mul_assoc, Nat.mul_comm 2]
      rw [e] at h2
      exact h2
  cases l with
  | nil =>
    intro i j hij hj
    have h0 : (reduceL (seg (gens n) i j)).length ≤ n := base i j hij hj
    show (reduceL (seg (gens n) i j)).length ≤ (n + 1) * 2 ^ (0 - 1)
    simp
    omega
  | cons x l =>
    have h1 : SegB (actStep (gens n) x) (n + 1) := step_bound (gens_length n) base (fun q hq => by
      have h3 := reduceL_length ((gens n).getD q [])
      have h4 : ((gens n).getD q []).length ≤ 1 := by
        rw [List.getD_eq_getElem?_getD]
        simp [gens, hq]
      omega) (h x (by simp))
    have := key l _ (n + 1) (by rw [actStep_length, gens_length]) h1 (fun k hk => h k (by simp [hk]))
    simpa [actL] using this
theorem actL_rows (n : Nat) (l : List Int) (h : ∀ k ∈ l, k ≠ 0 ∧ -(n : Int) < k ∧ k < n) : ∀ r ∈ actL n l, r.length ≤ (n + 1) * 2 ^ (l.length - 1) := by
  intro r hr
  obtain ⟨q, hq, rfl⟩ := List.getElem_of_mem hr
  have h1 := row_of_seg (actL_seg n l h) hq
  have e : (actL n l).getD q [] = (actL n l)[q] := by simp [List.getD, hq]
  rw [e, reduceL_self (actL_rdc n l _ (List.getElem_mem _))] at h1
  exact h1
theorem actOk_12 (n : Nat) (hn : n ≤ 8) (l : List Int) (h : ∀ k ∈ l, k ≠ 0 ∧ -(n : Int) < k ∧ k < n) (hl : l.length ≤ 15) : ActOk n l := by
  intro k hk r hr
  have h1 := actL_rows n (l.take k) (fun x hx => h x (List.mem_of_mem_take hx)) r hr
  have h2 : 2 ^ ((l.take k).length - 1) ≤ 2 ^ 14 := Nat.pow_le_pow_right (by omega) (by rw [List.length_take]; omega)
  have h3 : (n + 1) * 2 ^ ((l.take k).length - 1) ≤ 9 * 2 ^ 14 := Nat.mul_le_mul (by omega) h2
  have h4 : 9 * 2 ^ 14 = 147456 := by decide
  omega

end Go.Proofs.Ytgebiffponbmlaa
