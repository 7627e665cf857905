/-
  The reference's stack of open rows in memory: a slice of slices, each of the call's own. No conditions.
-/
import Derived.Test.YtgpkcooipadnpaaDoorWrO
namespace Go.Proofs.YtgpkcooipadnpaaDoor
set_option linter.unusedSimpArgs false
set_option linter.unusedVariables false
open Go.RowKit
set_option maxRecDepth 100000

theorem elemRw : Elem Tryd.prog 22 1 24 := elem_of (z := .slice none 0 0) (by kernel_rfl) rfl (by omega) (by omega)

theorem grownBy_trans {a b c : World} {r r1 : Option Nat} (h : a.grownBy b r) (k : b.grownBy c r1) (hr : r1 = r ∨ r1 = none ∨ ∃ g, r1 = some g ∧ a.heap.size ≤ g) : a.grownBy c r :=
  ⟨k.os.trans h.os, k.tape.trans h.tape, k.output.trans h.output, Nat.le_trans h.size k.size, fun x hx hne => (k.block x (Nat.lt_of_lt_of_le hx h.size) (by
    rcases hr with e | e | ⟨g, e, hg⟩
    · rw [e]; exact hne
    · rw [e]; simp
    · rw [e]; intro e2; injection e2 with e2; omega)).trans (h.block x hx hne)⟩

theorem Sts.grown_far {w w' : World} {A : Option Addr} {n : Nat} {l : List St} {row : Option Nat} (h : Sts w A n l) (hg : w.grownBy w' row) (hne : ∀ ad, A = some ad → row ≠ some ad.block) : Sts w' A n l := by
  have h2 : Reads w' w'.heap.size 5 A n (sc l) := by
    refine ⟨h.1, fun hn => ?_⟩
    obtain ⟨ad, e, hb, hc⟩ := h.2 hn
    refine ⟨ad, e, Nat.lt_of_lt_of_le hb hg.size, fun j u hu => ?_⟩
    rw [← hc j u hu]
    exact World.cell?_of_block (hg.block _ (by rw [block_of_add]; exact hb) (fun e2 => hne ad e (by rw [← e2, block_of_add])))
  exact h2

/-- A value that is a slice of the call's own and reads as a row. -/
def Ent (w : World) (base : Nat) (v : Value) (l : List St) : Prop := ∃ B m k, v = .slice B m k ∧ Own w base 29 5 B m k (sc l)
section
variable {w w' : World} {base : Nat} {v : Value} {l : List St}
theorem Ent.nil_ : Ent w base (.slice none 0 0) [] := ⟨none, 0, 0, rfl, Own.nil_⟩
theorem Ent.kept {row : Option Nat} (h : Ent w base v l) (hg : w.grownBy w' row) (hne : v.ownBlock = none ∨ v.ownBlock ≠ row) : Ent w' base v l := by
  obtain ⟨B, m, k, rfl, ho⟩ := h
  rw [ownB_eq] at hne
  exact ⟨B, m, k, rfl, ho.kept hg hne⟩
theorem Ent.one (h : Ent w base v l) : v.oneCell' = true := by obtain ⟨B, m, k, rfl, _⟩ := h; rfl
theorem Ent.lt (h : Ent w base v l) : ∀ g, v.ownBlock = some g → base ≤ g ∧ g < w.heap.size := by
  obtain ⟨B, m, k, rfl, ho⟩ := h
  rw [ownB_eq]
  exact ho.low
theorem Ent.len {B : Option Addr} {m k : Nat} (h : Own w base 29 5 B m k (sc l)) : l.length = m := by have := h.1; rw [sc_length] at this; omega
end

/-- The stack: n open rows, the last one on top. -/
structure Stk (w : World) (base : Nat) (A : Option Addr) (n c : Nat) (vs : List Value) (L : List (List St)) : Prop where
  own : Own w base 22 1 A n c vs
  len : L.length = n
  ent : ∀ (i : Nat) (v : Value) (l : List St), vs[i]? = some v → L[i]? = some l → Ent w base v l
  far : ∀ (i : Nat) (v : Value), vs[i]? = some v → v.ownBlock = none ∨ v.ownBlock ≠ ownB A
  dis : ∀ (i j : Nat) (v v' : Value), i < j → vs[i]? = some v → vs[j]? = some v' → v.ownBlock = none ∨ v.ownBlock ≠ v'.ownBlock
  short : ∀ l ∈ L, l.length ≤ 17

section
variable {w w' : World} {base n c : Nat} {A : Option Addr} {vs : List Value} {L : List (List St)}
theorem Stk.vlen (h : Stk w base A n c vs L) : vs.length = n := by have := h.own.1; omega
theorem Stk.below (h : Stk w base A n c vs L) (hb : Below w.heap.size w w') : Stk w' base A n c vs L where
  own := h.own.below hb
  len := h.len
  ent := fun i v l h1 h2 => by
    obtain ⟨B, m, k, e, ho⟩ := h.ent i v l h1 h2
    exact ⟨B, m, k, e, ho.below hb⟩
  far := h.far
  dis := h.dis
  short := h.short
theorem Stk.first (w : World) : Stk (w.alloc (.cells #[.slice none 0 0] 22)) w.heap.size (some ⟨w.heap.size, 0, none⟩) 1 1 [.slice none 0 0] [[]] where
  own := (Blk.new w 22 [.slice none 0 0]).own (n := 1) (size := 1) rfl (Nat.le_refl _) (by omega)
  len := rfl
  ent := fun i v l h1 h2 => by
    rcases i with _ | i
    · simp at h1 h2
      subst h1
      subst h2
      exact Ent.nil_
    · simp at h1
  far := fun i v h1 => by
    rcases i with _ | i
    · simp at h1
      subst h1
      exact .inl rfl
    · simp at h1
  dis := fun i j v v' hij h1 h2 => by
    rcases j with _ | j
    · omega
    · simp at h2
  short := fun l hl => by simp at hl; subst hl; simp
theorem Stk.push {A' : Option Addr} {c' B : Nat} (h : Stk w base A n c vs L) (ho : Own w' base 22 1 A' (n + 1) c' (vs ++ [.slice none 0 0])) (hg : w.grownBy w' (ownB A)) (ha : ownB A' = ownB A ∨ ownB A' = some B) (hB : w.heap.size ≤ B) : Stk w' base A' (n + 1) c' (vs ++ [.slice none 0 0]) (L ++ [[]]) where
  own := ho
  len := by simp [h.len]
  ent := fun i v l h1 h2 => by
    have hv := h.vlen
    have hl := h.len
    rcases Nat.lt_or_ge i n with hi | hi
    · rw [List.getElem?_append_left (by omega)] at h1 h2
      exact (h.ent i v l h1 h2).kept hg (h.far i v h1)
    · rw [List.getElem?_append_right (by omega)] at h1 h2
      rcases Nat.eq_zero_or_pos (i - n) with e | e
      · rw [hv, e] at h1
        rw [hl, e] at h2
        simp at h1 h2
        subst h1
        subst h2
        exact Ent.nil_
      · rw [List.getElem?_eq_none (by simp; omega)] at h1
        cases h1
  far := fun i v h1 => by
    have hv := h.vlen
    have hl := h.len
    rcases Nat.lt_or_ge i n with hi | hi
    · rw [List.getElem?_append_left (by omega)] at h1
      have he := h.ent i v L[i] h1 (List.getElem?_eq_getElem (by omega))
      rcases ha with e | e
      · rw [e]; exact h.far i v h1
      · rw [e]
        cases hb : v.ownBlock with
        | none => exact .inl rfl
        | some g =>
          have := he.lt g hb
          exact .inr (fun e2 => by injection e2 with e2; omega)
    · rw [List.getElem?_append_right (by omega)] at h1
      rcases Nat.eq_zero_or_pos (i - n) with e | e
      · rw [hv, e] at h1
        simp at h1
        subst h1
        exact .inl rfl
      · rw [List.getElem?_eq_none (by simp; omega)] at h1
        cases h1
  dis := fun i j v v' hij h1 h2 => by
    have hv := h.vlen
    have hj : j < n + 1 := by
      have := (List.getElem?_eq_some_iff.1 h2).1
      simp at this
      omega
    rw [List.getElem?_append_left (by omega)] at h1
    rcases Nat.lt_or_ge j n with hjn | hjn
    · rw [List.getElem?_append_left (by omega)] at h2
      exact h.dis i j v v' hij h1 h2
    · rw [List.getElem?_append_right (by omega), show j - vs.length = 0 by omega] at h2
      simp at h2
      subst h2
      cases hb : v.ownBlock with
      | none => exact .inl rfl
      | some g => exact .inr (by simp [Value.ownBlock])
  short := fun l hl => by
    rcases List.mem_append.1 hl with hl | hl
    · exact h.short l hl
    · simp at hl; subst hl; simp
theorem Stk.pop (h : Stk w base A (n + 1) c vs L) : Stk w base A n c (vs.take n) (L.take n) where
  own := by
    have := h.own.take (m := n) (by omega)
    rwa [Nat.mul_one] at this
  len := by rw [List.length_take, h.len]; omega
  ent := fun i v l h1 h2 => by
    rw [List.getElem?_take] at h1 h2
    split at h1
    · rename_i hi
      rw [if_pos hi] at h2
      exact h.ent i v l h1 h2
    · cases h1
  far := fun i v h1 => by
    rw [List.getElem?_take] at h1
    split at h1
    · exact h.far i v h1
    · cases h1
  dis := fun i j v v' hij h1 h2 => by
    rw [List.getElem?_take] at h1 h2
    split at h1
    · split at h2
      · exact h.dis i j v v' hij h1 h2
      · cases h2
    · cases h1
  short := fun l hl => h.short l (List.mem_of_mem_take hl)
/-- The top row. -/
theorem Stk.top (h : Stk w base A (n + 1) c vs L) : ∃ g B m k l, A = some ⟨g, 0, none⟩ ∧ base ≤ g ∧ g < w.heap.size ∧ L = L.take n ++ [l] ∧ vs = vs.take n ++ [.slice B m k] ∧ w.cell? ⟨g, n, none⟩ = some (.slice B m k) ∧ w.frozen? ⟨g, n, none⟩ = false ∧
    Own w base 29 5 B m k (sc l) ∧ (ownB B = none ∨ ownB B ≠ some g) ∧ l.length ≤ 17 ∧ l.length = m := by
  have hv := h.vlen
  have hl := h.len
  obtain ⟨g, rfl, hg1, hg2⟩ := h.own.shape (by have := h.own.cap; omega)
  have h1 : vs[n]? = some vs[n] := List.getElem?_eq_getElem (by omega)
  have h2 : L[n]? = some L[n] := List.getElem?_eq_getElem (by omega)
  obtain ⟨B, m, k, e, ho⟩ := h.ent n _ _ h1 h2
  have hf := h.far n _ h1
  rw [e, ownB_eq] at hf
  refine ⟨g, B, m, k, L[n], rfl, hg1, hg2, ?_, ?_, ?_, h.own.frozenAt n, ho, hf, h.short _ (List.getElem_mem _), Ent.len ho⟩
  · rw [← List.take_succ_eq_append_getElem (by omega), List.take_of_length_le (by omega)]
  · rw [← e, ← List.take_succ_eq_append_getElem (by omega), List.take_of_length_le (by omega)]
  · rw [h.own.cellAt (by omega), h1, e]
/-- A new top row is stored. -/
theorem Stk.put {g : Nat} {B B' : Option Addr} {m k m' k' : Nat} {l' : List St} (h : Stk w base (some ⟨g, 0, none⟩) (n + 1) c vs L) (hv : vs = vs.take n ++ [.slice B m k]) (hg : w.grownBy w' (ownB B))
    (ho : Own w' base 29 5 B' m' k' (sc l')) (hb : ownB B' = ownB B ∨ ∃ f, ownB B' = some f ∧ w.heap.size ≤ f) (hl' : l'.length ≤ 17) :
    Stk (w'.setCell ⟨g, n, none⟩ (.slice B' m' k')) base (some ⟨g, 0, none⟩) (n + 1) c (vs.take n ++ [.slice B' m' k']) (L.take n ++ [l']) := by
  have hvl := h.vlen
  have hll := h.len
  have hglt := (h.own.low g rfl).2
  have htop : vs[n]? = some (.slice B m k) := by rw [hv, List.getElem?_append_right (by rw [List.length_take]; omega), List.length_take, show n - min n vs.length = 0 by omega]; rfl
  have hfB := h.far n _ htop
  rw [ownB_eq] at hfB
  have hfB2 : ownB B' = none ∨ ownB B' ≠ some g := by
    rcases hb with e | ⟨f, e, hf⟩
    · rw [e]; exact hfB
    · rw [e]; exact .inr (fun e2 => by injection e2 with e2; omega)
  have hown' : Own w' base 22 1 (some ⟨g, 0, none⟩) (n + 1) c vs := h.own.kept hg (by
    rcases hfB with e | e
    · rw [e]; exact .inr (by simp [ownB])
    · exact .inr (fun e2 => e e2.symm))
  have hset : vs.set n (.slice B' m' k') = vs.take n ++ [.slice B' m' k'] := by
    rw [List.set_eq_take_append_cons_drop, if_pos (by omega), List.drop_of_length_le (by omega)]
  have hgs := hown'.stored_grown n (.slice B' m' k')
  have hdn : ∀ (i : Nat) (v : Value), i < n → vs[i]? = some v → v.ownBlock = none ∨ v.ownBlock ≠ ownB B' := fun i v hi h1 => by
    rcases hb with e | ⟨f, e, hf⟩
    · rw [e]
      have := h.dis i n v _ hi h1 htop
      rwa [ownB_eq] at this
    · have he := h.ent i v L[i] h1 (List.getElem?_eq_getElem (by omega))
      rw [e]
      cases hb : v.ownBlock with
      | none => exact .inl rfl
      | some b =>
        have := he.lt b hb
        exact .inr (fun e2 => by injection e2 with e2; omega)
  have hat : ∀ (i : Nat) (v : Value), (vs.take n ++ [Value.slice B' m' k'])[i]? = some v → (i < n ∧ vs[i]? = some v) ∨ (i = n ∧ v = .slice B' m' k') := fun i v h1 => by
    rcases Nat.lt_or_ge i n with hi | hi
    · rw [List.getElem?_append_left (by rw [List.length_take]; omega), List.getElem?_take, if_pos hi] at h1
      exact .inl ⟨hi, h1⟩
    · have hi2 := (List.getElem?_eq_some_iff.1 h1).1
      simp at hi2
      have hin : i = n := by omega
      rw [List.getElem?_append_right (by rw [List.length_take]; omega), List.length_take, show i - min n vs.length = 0 by omega] at h1
      simp at h1
      exact .inr ⟨hin, h1.symm⟩
  constructor
  · rw [← hset]
    exact hown'.stored n _
  · rw [List.length_append, List.length_take, hll]
    simp
  · intro i v l1 h1 h2
    rcases hat i v h1 with ⟨hi, h1⟩ | ⟨hi, h1⟩
    · rw [List.getElem?_append_left (by rw [List.length_take]; omega), List.getElem?_take, if_pos hi] at h2
      refine ((h.ent i v l1 h1 h2).kept hg ?_).kept hgs (h.far i v h1)
      have := h.dis i n v _ hi h1 htop
      rwa [ownB_eq] at this
    · subst h1
      subst hi
      rw [List.getElem?_append_right (by rw [List.length_take]; omega), List.length_take, show i - min i L.length = 0 by omega] at h2
      simp at h2
      subst h2
      exact ⟨B', m', k', rfl, ho.kept hgs hfB2⟩
  · intro i v h1
    rcases hat i v h1 with ⟨hi, h1⟩ | ⟨hi, h1⟩
    · exact h.far i v h1
    · subst h1
      rw [ownB_eq]
      exact hfB2
  · intro i j v v' hij h1 h2
    rcases hat j v' h2 with ⟨hj, h2⟩ | ⟨hj, h2⟩
    · rcases hat i v h1 with ⟨hi, h1⟩ | ⟨hi, h1⟩
      · exact h.dis i j v v' hij h1 h2
      · omega
    · rcases hat i v h1 with ⟨hi, h1⟩ | ⟨hi, h1⟩
      · subst h2
        rw [ownB_eq]
        exact hdn i v hi h1
      · omega
  · intro l1 h1
    rcases List.mem_append.1 h1 with h1 | h1
    · exact h.short l1 (List.mem_of_mem_take h1)
    · simp at h1; subst h1; exact hl'
/-- The two rows on top. -/
theorem Stk.two (h : Stk w base A (n + 1 + 1) c vs L) : ∃ g R rn rc row B m k up, A = some ⟨g, 0, none⟩ ∧ base ≤ g ∧ g < w.heap.size ∧ L = L.take n ++ [up] ++ [row] ∧ (vs.take (n + 1)) = (vs.take (n + 1)).take n ++ [.slice B m k] ∧ w.cell? ⟨g, n + 1, none⟩ = some (.slice R rn rc) ∧ w.cell? ⟨g, n, none⟩ = some (.slice B m k) ∧ w.frozen? ⟨g, n, none⟩ = false ∧
    Own w base 29 5 R rn rc (sc row) ∧ Own w base 29 5 B m k (sc up) ∧ (ownB R = none ∨ ownB R ≠ ownB B) ∧ row.length = rn ∧ up.length = m ∧ rn ≤ 17 ∧ m ≤ 17 ∧ (ownB B = none ∨ ownB B ≠ some g) := by
  have hv := h.vlen
  obtain ⟨g, R, rn, rc, row, rfl, hg1, hg2, hL1, hV1, c1, f1, o1, n1, s1, e1⟩ := h.top
  have hp := h.pop
  obtain ⟨g', B, m, k, up, hA, _, _, hL2, hV2, c2, f2, o2, n2, s2, e2⟩ := hp.top
  injection hA with hA
  injection hA with hA
  subst hA
  refine ⟨g, R, rn, rc, row, B, m, k, up, rfl, hg1, hg2, ?_, hV2, c1, c2, f2, o1, o2, ?_, e1, e2, by omega, by omega, n2⟩
  · have : L.take n = (L.take (n + 1)).take n := by rw [List.take_take, Nat.min_eq_left (by omega)]
    rw [this, ← hL2]
    exact hL1
  · have t1 : vs[n + 1]? = some (.slice R rn rc) := by rw [hV1, List.getElem?_append_right (by rw [List.length_take]; omega), List.length_take, show n + 1 - min (n + 1) vs.length = 0 by omega]; rfl
    have t2 : vs[n]? = some (.slice B m k) := by
      have : (vs.take (n + 1))[n]? = some (.slice B m k) := by rw [hV2, List.getElem?_append_right (by rw [List.length_take, List.length_take]; omega), List.length_take, List.length_take, show n - min n (min (n + 1) vs.length) = 0 by omega]; rfl
      rwa [List.getElem?_take, if_pos (by omega)] at this
    have := h.dis n (n + 1) _ _ (by omega) t2 t1
    rw [ownB_eq, ownB_eq] at this
    rcases this with e | e
    · cases hR : ownB R with
      | none => exact .inl rfl
      | some r => rw [e]; exact .inr (by simp)
    · exact .inr (fun e3 => e e3.symm)
theorem grown_of_below {w w' : World} {r : Option Nat} (h : Below w.heap.size w w') : w.grownBy w' r := ⟨h.os, h.tape, h.output, h.size, fun k hk _ => h.block k hk⟩
theorem Stk.item {w4 : World} {g m k m4 kk c4 : Nat} {A4 B : Option Addr} {l : List St} {x : St} (h : Stk w base (some ⟨g, 0, none⟩) (k + 1) c vs L) (hv : vs = vs.take k ++ [.slice B m kk]) (hb : Below w.heap.size w w4)
    (ho : Own w4 w.heap.size 29 5 A4 m4 c4 (sc l ++ sc [x])) (hw : base ≤ w.heap.size) (hl : l.length < 17) : Stk (w4.setCell ⟨g, k, none⟩ (.slice A4 m4 c4)) base (some ⟨g, 0, none⟩) (k + 1) c (vs.take k ++ [.slice A4 m4 c4]) (L.take k ++ [l ++ [x]]) := by
  have ho2 : Own w4 w.heap.size 29 5 A4 m4 c4 (sc (l ++ [x])) := by rw [sc_append]; exact ho
  have hm4 := Ent.len ho2
  obtain ⟨g4, rfl, h1, h2⟩ := ho2.shape (by have := ho2.cap; simp at hm4; omega)
  exact h.put hv (grown_of_below hb) (ho2.lower hw) (.inr ⟨g4, rfl, h1⟩) (by simp; omega)
theorem Stk.closed {wr : World} {g m k m2 kk kk2 : Nat} {B2 B : Option Addr} {ul : List St} (h : Stk w base (some ⟨g, 0, none⟩) (k + 1) c vs L) (hv : vs = vs.take k ++ [.slice B m kk]) (hg : w.grownBy wr (ownB B))
    (ho : Own wr base 29 5 B2 m2 kk2 (sc ul)) (hb : ownB B2 = ownB B ∨ ∃ f, ownB B2 = some f ∧ w.heap.size ≤ f) (j : Nat) (hj : j = min m2 17) :
    Stk (wr.setCell ⟨g, k, none⟩ (.slice B2 j kk2)) base (some ⟨g, 0, none⟩) (k + 1) c (vs.take k ++ [.slice B2 j kk2]) (L.take k ++ [ul.take 17]) := by
  have hlen := Ent.len ho
  have ho2 := ho.take (m := j) (by omega)
  rw [sc_take, show ul.take j = ul.take 17 by
    rw [hj]
    rcases Nat.le_total m2 17 with h1 | h1
    · rw [Nat.min_eq_left h1, List.take_of_length_le (by omega), List.take_of_length_le (by omega)]
    · rw [Nat.min_eq_right h1]] at ho2
  exact h.put hv hg ho2 hb (by rw [List.length_take]; omega)
end

end Go.Proofs.YtgpkcooipadnpaaDoor
