/-
  More laws for memory over any program: append of zeros onto nil; the capacity of a cut; lists of slices.
-/
import Derived.Test.YtgpkcooipadnpaaDoorBase
namespace Go.Proofs.YtgpkcooipadnpaaDoor
set_option linter.unusedSimpArgs false
set_option linter.unusedVariables false
open Go.RowKit

/-- A function of the program that is entered when it is called. -/
def Entered (P : Program) (fid : FuncId) : Prop := ∀ args W, (callFunc fid args).run P W = .ok (.enter fid args) W
theorem entered_of {P : Program} {fid : FuncId} {fn : Func} (hf : P.funcs[fid]? = some fn) (hn : (fn.name == "runtime.NumGoroutine") = false) (hb : fn.body.isNone = false) : Entered P fid := by
  intro args W
  have hn' : fn.name ≠ "runtime.NumGoroutine" := by simpa using hn
  have hb' : fn.body ≠ none := by intro h; simp [h] at hb
  simp [callFunc, hf, hn', hb']

section
variable {P : Program}

/-- append(nil, make([]T, n)...). -/
theorem run_append_zeros_nil {size bytes : Nat} (w : World) (t u ty e : TypeId) (k kd : IntKind) (ht : P.underlying t = some (.slice e)) (hu : P.underlying u = some (.int kd)) (he : Elem P e size bytes)
    (n : Nat) (h0 : 0 < n) (hN : n ≤ 1000000000) :
    ∃ c' w', (Builtin.append_ #[t, u] ty #[.slice none 0 0, .int k n]).run P w = .ok (.slice (some ⟨w.heap.size, 0, none⟩) n c') w' ∧ n ≤ c' ∧ Own w' w.heap.size e size (some ⟨w.heap.size, 0, none⟩) 0 c' [] ∧ w.grownBy w' none := by
  obtain ⟨i, z, hi, hz, hsize, hby, hzs, hsz, hbb⟩ := he
  have hn : n ≠ 0 := by omega
  have hw : IntKind.i64.wrap (n : Int) = n := by rw [IntKind.wrap_i64]; omega
  have hneg : ¬ ((n : Int) < 0) := by omega
  have hmul : n * i.bytes ≤ 1000000000 * 100000 := by rw [hby]; exact Nat.mul_le_mul hN hbb
  have h48i : ¬ (281474976710656 < (n : Int) * (i.bytes : Int)) := by
    have h : ((n * i.bytes : Nat) : Int) ≤ 281474976710656 := by omega
    rw [Int.natCast_mul] at h
    omega
  have h63' : ¬ (9223372036854775807 < (n : Int)) := by omega
  have h48' : ¬ (281474976710656 < Builtin.nextslicecap n 0 * i.bytes) := by rw [nextslicecap_zero h0]; omega
  have hns : n * i.size ≠ 0 := by rw [hsize]; exact Nat.mul_ne_zero hn (by omega)
  refine ⟨grownCap w n 0 e, w.drew.alloc (.cells (Builtin.zeroCells z.cells n ++ Builtin.zeroCells z.cells (grownCap w n 0 e - n)) e), ?_, grownCap_ge w n 0 e, ?_, ?_⟩
  · have hi0 : ¬ (i.size = 0) := by omega
    simp [Builtin.append_, run_underlying ht, run_underlying hu, sizeOf, typeInfo, zeroValue, hi, hz, Builtin.lenOf, asInt, asIntOf, hw, hneg, h48i, hi0, hn, h63', h48', Question.forced, run_firstCells_none, newRow, grownCap]
    intro hx
    exact absurd hx hns
  · have := World.ownsRow_made (base := w.heap.size) (e := e) (size := size) w.drew (Builtin.zeroCells z.cells n ++ Builtin.zeroCells z.cells (grownCap w n 0 e - n)) (grownCap w n 0 e) (by simp)
      (grownCap_le_maxLen w n 0 e (by simp only [maxLen]; omega))
      (by
        simp only [Array.size_append, size_zeroCells, hzs, ← Nat.add_mul]
        congr 1
        have := grownCap_ge w n 0 e
        omega)
    simpa [Own] using this
  · exact ⟨rfl, rfl, rfl, by simp, fun k hk _ => Below.heap_alloc w.drew _ k hk⟩

theorem wpList_appz {size bytes : Nat} (w : World) {ops : Array Oper} {rest : List Oper} {o : Oper} {a : Act} {Q : Exit → Act → World → Prop} (hgd : o.guard = none) (s x : Operand) (t u : TypeId)
    (ho : o.op = .call { callee := .builtin .append, args := #[s, x], argTypes := #[t, u] })
    (e : TypeId) (k kd : IntKind) (ht : P.underlying t = some (.slice e)) (hu : P.underlying u = some (.int kd)) (he : Elem P e size bytes)
    (L : Int) (n : Nat) (hs : a.eval s = .slice none 0 0) (hx : a.eval x = .int k L) (hL : L = (n : Int)) (h0 : 0 < n) (hN : n ≤ 1000000000)
    (h : ∀ c' w', n ≤ c' → Own w' w.heap.size e size (some ⟨w.heap.size, 0, none⟩) 0 c' [] → w.grownBy w' none → wpList P ops Q rest (a.put o.dst (.slice (some ⟨w.heap.size, 0, none⟩) n c')) w') : wpList P ops Q (o :: rest) a w := by
  subst hL
  refine wpList_plain hgd fun K hK => ?_
  obtain ⟨c', w', hrun, h1, h2, h3⟩ := run_append_zeros_nil (P := P) w t u o.type e k kd ht hu he n h0 hN
  unfold Oper.wp execOp
  simp only [ho, resolve, invoke, builtin, Sem.run_bind, Sem.run_pure, Result.andThen_ok, List.map_toArray, List.map_cons, List.map_nil, hs, hx, hrun]
  exact hK _ _ (h c' w' h1 h2 h3)
end

/-- A value is a slice of integers that reads as a list. -/
def RowIs (kd : IntKind) (w : World) (v : Value) (l : List Int) : Prop := ∃ r m c, v = .slice r m c ∧ m ≤ c ∧ c ≤ 9223372036854775807 ∧ Ints kd w r m l
theorem RowIs.below {kd : IntKind} {w w' : World} {v : Value} {l : List Int} (h : RowIs kd w v l) (hb : Below w.heap.size w w') : RowIs kd w' v l :=
  let ⟨r, m, c, h1, h2, h3, h4⟩ := h; ⟨r, m, c, h1, h2, h3, h4.below hb⟩
theorem RowIs.one {kd : IntKind} {w : World} {v : Value} {l : List Int} (h : RowIs kd w v l) : v.oneCell' = true := by
  obtain ⟨r, m, c, rfl, _⟩ := h
  rfl
/-- Values are slices of integers that read as lists. -/
def RowsOf (kd : IntKind) (w : World) (vs : List Value) (ls : List (List Int)) : Prop := vs.length = ls.length ∧ ∀ (k : Nat) (v : Value) (l : List Int), vs[k]? = some v → ls[k]? = some l → RowIs kd w v l
section
variable {kd : IntKind} {w w' : World} {vs : List Value} {ls : List (List Int)}
theorem RowsOf.below (h : RowsOf kd w vs ls) (hb : Below w.heap.size w w') : RowsOf kd w' vs ls := ⟨h.1, fun k v l h1 h2 => (h.2 k v l h1 h2).below hb⟩
theorem RowsOf.nil_ : RowsOf kd w [] [] := ⟨rfl, fun k v l h1 _ => by simp at h1⟩
theorem RowsOf.one (h : RowsOf kd w vs ls) : ∀ u ∈ vs, u.oneCell' = true := by
  intro u hu
  obtain ⟨k, hk, rfl⟩ := List.getElem_of_mem hu
  have hk2 : k < ls.length := by have := h.1; omega
  exact (h.2 k _ ls[k] (by simp) (by simp)).one
theorem RowsOf.set_ (h : RowsOf kd w vs ls) (k : Nat) {v : Value} {l : List Int} (hv : RowIs kd w v l) : RowsOf kd w (vs.set k v) (ls.set k l) := by
  refine ⟨by simp [h.1], fun j u m h1 h2 => ?_⟩
  rw [List.getElem?_set] at h1 h2
  by_cases hk : k = j
  · rw [if_pos hk] at h1 h2
    split at h1
    · split at h2
      · cases h1; cases h2; exact hv
      · cases h2
    · cases h1
  · rw [if_neg hk] at h1 h2
    exact h.2 j u m h1 h2
theorem RowsOf.snoc (h : RowsOf kd w vs ls) {v : Value} {l : List Int} (hv : RowIs kd w v l) : RowsOf kd w (vs ++ [v]) (ls ++ [l]) := by
  refine ⟨by simp [h.1], fun j u m h1 h2 => ?_⟩
  rcases Nat.lt_or_ge j vs.length with hj | hj
  · rw [List.getElem?_append_left hj] at h1
    rw [List.getElem?_append_left (by have := h.1; omega)] at h2
    exact h.2 j u m h1 h2
  · rw [List.getElem?_append_right hj] at h1
    rw [List.getElem?_append_right (by have := h.1; omega), ← h.1] at h2
    rcases hz : j - vs.length with _ | q
    · rw [hz] at h1 h2
      simp at h1 h2
      subst h1; subst h2
      exact hv
    · rw [hz] at h1; simp at h1
end

/-- A slice of slices of integers reads as a list of lists. -/
def Grid (kd : IntKind) (w : World) (A : Option Addr) (n : Nat) (ls : List (List Int)) : Prop := ∃ vs, Reads w w.heap.size 1 A n vs ∧ RowsOf kd w vs ls

section
variable {kd : IntKind} {w w' : World} {A : Option Addr} {n : Nat} {ls : List (List Int)}
theorem Grid.len (h : Grid kd w A n ls) : ls.length = n := by obtain ⟨vs, h1, h2⟩ := h; have := h1.1; have := h2.1; omega
theorem Grid.at_ (h : Grid kd w A n ls) {k : Nat} (hk : k < n) : ∃ ad r m c l, A = some ad ∧ ad.block < w.heap.size ∧ w.cell? (ad.add k) = some (.slice r m c) ∧ m ≤ c ∧ c ≤ 9223372036854775807 ∧ ls[k]? = some l ∧ Ints kd w r m l := by
  have hl := h.len
  obtain ⟨vs, h1, h2⟩ := h
  obtain ⟨ad, u, h3, h4, h5, h6⟩ := h1.at_ hk
  have h7 : ls[k]? = some (ls[k]'(by omega)) := by simp
  obtain ⟨r, m, c, rfl, h8, h9, h10⟩ := h2.2 k u _ h5 h7
  exact ⟨ad, r, m, c, _, h3, h4, h6, h8, h9, h7, h10⟩
theorem Grid.below (h : Grid kd w A n ls) (hb : Below w.heap.size w w') : Grid kd w' A n ls :=
  let ⟨vs, h1, h2⟩ := h; ⟨vs, (h1.below hb).more hb.size, h2.below hb⟩
theorem Grid.nil_ : Grid kd w A 0 [] := ⟨[], Reads.none_, RowsOf.nil_⟩
theorem Grid.drewN (h : Grid kd w A n ls) (k : Nat) : Grid kd (w.drewN k) A n ls := h.below (below_drewN (Below.refl _ _) k)
theorem Grid.drew (h : Grid kd w A n ls) : Grid kd w.drew A n ls := h.below (Below.refl _ w).drew
theorem Grid.alloc (h : Grid kd w A n ls) (o : Obj) : Grid kd (w.alloc o) A n ls := h.below ((Below.refl _ _).alloc (Nat.le_refl _) o)
theorem Grid.own {base e c : Nat} {vs : List Value} (h : Own w base e 1 A n c vs) (hr : RowsOf kd w vs ls) : Grid kd w A n ls := ⟨vs, h.reads, hr⟩
end

theorem drop_all {α : Type} (l : List α) {k : Nat} (h : l.length ≤ k) : l.drop k = [] := List.drop_eq_nil_of_le h

theorem sum_take_succ (ls : List (List Int)) (k : Nat) (l : List Int) (h : ls[k]? = some l) : ((ls.take (k + 1)).map List.length).sum = ((ls.take k).map List.length).sum + l.length := by
  rw [List.take_add_one, h]; simp
theorem sum_take_le (ls : List (List Int)) (k : Nat) : ((ls.take k).map List.length).sum ≤ (ls.map List.length).sum := by
  have h : (ls.map List.length).sum = ((ls.take k).map List.length).sum + ((ls.drop k).map List.length).sum := by
    rw [← List.sum_append, ← List.map_append, List.take_append_drop]
  omega
theorem flatten_take_succ (ls : List (List Int)) (k : Nat) (l : List Int) (h : ls[k]? = some l) : (ls.take (k + 1)).flatten = (ls.take k).flatten ++ l := by
  rw [List.take_add_one, h]; simp

theorem Own.empty {w : World} {base e size : Nat} (hb : base ≤ w.heap.size) : Own (w.alloc (.cells #[] e)) base e size (some ⟨w.heap.size, 0, none⟩) 0 0 [] :=
  World.ownsRow_made w #[] 0 hb (by simp [maxLen]) (by simp)

/-- A new block of two slices. -/
theorem Grid.two {kd : IntKind} {w : World} {A1 A2 : Option Addr} {n1 n2 c1 c2 t : Nat} {l1 l2 : List Int} (h1 : Ints kd w A1 n1 l1) (h2 : Ints kd w A2 n2 l2) (hc1 : n1 ≤ c1) (hc2 : n2 ≤ c2) (hd1 : c1 ≤ 9223372036854775807) (hd2 : c2 ≤ 9223372036854775807) :
    Grid kd (w.alloc (.cells #[.slice A1 n1 c1, .slice A2 n2 c2] t)) (some ⟨w.heap.size, 0, none⟩) 2 [l1, l2] := by
  refine ⟨[.slice A1 n1 c1, .slice A2 n2 c2], ?_, ?_⟩
  · have := Reads.box (size := 1) w t #[.slice A1 n1 c1, .slice A2 n2 c2] 2 (by simp)
    simpa using this
  · have e : ([.slice A1 n1 c1, .slice A2 n2 c2] : List Value) = ([] ++ [.slice A1 n1 c1]) ++ [.slice A2 n2 c2] := rfl
    have e2 : [l1, l2] = ([] ++ [l1]) ++ [l2] := rfl
    rw [e, e2]
    exact (RowsOf.nil_.snoc ⟨A1, n1, c1, rfl, hc1, hd1, h1.alloc _⟩).snoc ⟨A2, n2, c2, rfl, hc2, hd2, h2.alloc _⟩

section
variable {P : Program}

/-- append onto a slice without spare room: a new row, or (where nothing is appended) the very slice. -/
theorem run_append_full {size bytes : Nat} (w : World) (t ty e : TypeId) (ht : P.underlying t = some (.slice e)) (he : Elem P e size bytes)
    (B1 : Nat) (A : Option Addr) (n : Nat) (xs : List Value) (hr1 : Reads w B1 size A n xs)
    (B : Nat) (A2 : Option Addr) (m c2 : Nat) (news : List Value) (hr : Reads w B size A2 m news) (hB1 : B1 ≤ w.heap.size) (hN : n + m ≤ 1000000000) :
    ∃ A' c' w', (Builtin.append_ #[t, t] ty #[.slice A n n, .slice A2 m c2]).run P w = .ok (.slice A' (n + m) c') w' ∧ Reads w' w'.heap.size size A' (n + m) (xs ++ news) ∧ Below w.heap.size w w' ∧ n + m ≤ c' ∧ c' ≤ 9223372036854775807 ∧ (A' = A ∨ A' = some ⟨w.heap.size, 0, none⟩) := by
  obtain ⟨i, z, hi, hz, hsize, hby, hzs, hsz, hbb⟩ := he
  subst hsize
  have hcm : ∀ need old, need ≤ 1000000000 → grownCap w need old e ≤ 9223372036854775807 := fun need old h => by
    have := grownCap_le_maxLen w need old e (by simp only [maxLen]; omega)
    simpa [maxLen] using this
  have h48 : (n + m) * i.bytes ≤ 1000000000 * 100000 := by rw [hby]; exact Nat.mul_le_mul hN hbb
  have fin : ∀ (C : Nat), n + m ≤ C → (xs ++ news).length = (n + m) * i.size → Reads (w.drew.alloc (.cells (xs.toArray ++ news.toArray ++ Builtin.zeroCells z.cells (C - (n + m))) e)) (w.drew.alloc (.cells (xs.toArray ++ news.toArray ++ Builtin.zeroCells z.cells (C - (n + m))) e)).heap.size i.size (some ⟨w.heap.size, 0, none⟩) (n + m) (xs ++ news) := by
    intro C hC hl
    refine ⟨hl, fun _ => ⟨_, rfl, by simp, fun j u hu => ?_⟩⟩
    have hadd : (⟨w.heap.size, 0, none⟩ : Addr).add j = ⟨w.heap.size, j, none⟩ := by unfold Addr.add; split <;> simp_all
    have hc := cell_of_row (w.drew.alloc (.cells (xs.toArray ++ news.toArray ++ Builtin.zeroCells z.cells (C - (n + m))) e)) w.heap.size j (xs.toArray ++ news.toArray ++ Builtin.zeroCells z.cells (C - (n + m))) e (0, 0) (heap_alloc_new w.drew _)
    rw [hadd, hc]
    have hj : j < (xs ++ news).length := (List.getElem?_eq_some_iff.1 hu).1
    have e1 : (xs.toArray ++ news.toArray ++ Builtin.zeroCells z.cells (C - (n + m))) = ((xs ++ news) ++ (Builtin.zeroCells z.cells (C - (n + m))).toList).toArray := by
      apply Array.ext'; simp
    rw [e1]
    simp only [List.getElem?_toArray]
    rw [List.getElem?_append_left hj]
    exact hu
  have bel : ∀ o, Below w.heap.size w (w.drew.alloc o) := fun o => (Below.refl _ w).drew.alloc (by simp) o
  have hlen : (xs ++ news).length = (n + m) * i.size := by rw [List.length_append, hr1.1, hr.1, Nat.add_mul]
  rcases Nat.eq_zero_or_pos m with hm | hm
  · subst hm
    have hn : news = [] := List.eq_nil_of_length_eq_zero (by simpa using hr.1)
    subst hn
    refine ⟨A, n, w, ?_, by simpa using hr1.more hB1, Below.refl _ _, Nat.le_refl _, by omega, .inl rfl⟩
    rcases A2 with _ | a2 <;> rcases A with _ | a1 <;> simp [Builtin.append_, run_underlying ht, sizeOf, typeInfo, hi, Builtin.lenOf, Builtin.firstCells, loadCells, loadCellsFrom, storeCells]
  · obtain ⟨a2, rfl, _, hc2⟩ := hr.2 hm
    rcases Nat.eq_zero_or_pos n with hn | hn
    · subst hn
      have hx : xs = [] := List.eq_nil_of_length_eq_zero (by simpa using hr1.1)
      subst hx
      simp only [Nat.zero_add] at hN h48
      rcases A with _ | a1
      · have hrun := run_append_nil (P := P) w t ty e i z ht hi hz a2 m c2 news hr.1 hc2 hm (by omega) (by omega)
        refine ⟨_, grownCap w m 0 e, _, by simpa using hrun, ?_, bel _, by have := grownCap_ge w m 0 e; omega, hcm _ _ hN, .inr rfl⟩
        have := fin (grownCap w m 0 e) (by have := grownCap_ge w m 0 e; omega) hlen
        simpa using this
      · have hg := run_append_grow (P := P) w t ty e i z ht hi hz a1 0 0 [] (by simp) (by simp) a2 m c2 news hr.1 hc2 (by omega) (by omega) (growslice_fits (by omega) (by rw [Nat.zero_add]; omega))
        refine ⟨_, grownCap w (0 + m) 0 e, _, hg, ?_, bel _, grownCap_ge w (0 + m) 0 e, hcm _ _ (by omega), .inr rfl⟩
        exact fin (grownCap w (0 + m) 0 e) (grownCap_ge w (0 + m) 0 e) hlen
    · obtain ⟨a1, rfl, _, hc1⟩ := hr1.2 hn
      have hg := run_append_grow (P := P) w t ty e i z ht hi hz a1 n n xs hr1.1 hc1 a2 m c2 news hr.1 hc2 (by omega) (by omega) (growslice_fits (by omega) (by omega))
      refine ⟨_, grownCap w (n + m) n e, _, hg, ?_, bel _, grownCap_ge w (n + m) n e, hcm _ _ hN, .inr rfl⟩
      exact fin (grownCap w (n + m) n e) (grownCap_ge w (n + m) n e) hlen

theorem wpList_appfull {size bytes : Nat} (w : World) {ops : Array Oper} {rest : List Oper} {o : Oper} {a : Act} {Q : Exit → Act → World → Prop} (hgd : o.guard = none) (s x : Operand) (t : TypeId)
    (ho : o.op = .call { callee := .builtin .append, args := #[s, x], argTypes := #[t, t] })
    (e : TypeId) (ht : P.underlying t = some (.slice e)) (he : Elem P e size bytes)
    (B1 : Nat) (A : Option Addr) (n : Nat) (xs : List Value) (hs : a.eval s = .slice A n n) (hr1 : Reads w B1 size A n xs)
    (B : Nat) (A2 : Option Addr) (m c2 : Nat) (news : List Value) (hx : a.eval x = .slice A2 m c2) (hr : Reads w B size A2 m news) (hB1 : B1 ≤ w.heap.size) (hN : n + m ≤ 1000000000)
    (h : ∀ A' c' w', Reads w' w'.heap.size size A' (n + m) (xs ++ news) → Below w.heap.size w w' → n + m ≤ c' → c' ≤ 9223372036854775807 → (A' = A ∨ A' = some ⟨w.heap.size, 0, none⟩) → wpList P ops Q rest (a.put o.dst (.slice A' (n + m) c')) w') : wpList P ops Q (o :: rest) a w := by
  refine wpList_plain hgd fun K hK => ?_
  obtain ⟨A', c', w', hrun, h1, h2, h3, h4, h5⟩ := run_append_full (P := P) w t o.type e ht he B1 A n xs hr1 B A2 m c2 news hr hB1 hN
  unfold Oper.wp execOp
  simp only [ho, resolve, invoke, builtin, Sem.run_bind, Sem.run_pure, Result.andThen_ok, List.map_toArray, List.map_cons, List.map_nil, hs, hx, hrun]
  exact hK _ _ (h A' c' w' h1 h2 h3 h4 h5)
end

/-- append([]T{}, x...): a copy in a new row. The world is the one behind the making of the empty slice. -/
theorem wpList_app0 {P : Program} {size bytes : Nat} (w : World) {ops : Array Oper} {rest : List Oper} {o : Oper} {a : Act} {Q : Exit → Act → World → Prop} (hgd : o.guard = none) (s x : Operand) (t : TypeId)
    (ho : o.op = .call { callee := .builtin .append, args := #[s, x], argTypes := #[t, t] })
    (e : TypeId) (ht : P.underlying t = some (.slice e)) (he : Elem P e size bytes)
    (hs : a.eval s = .slice (some ⟨w.heap.size, 0, none⟩) 0 0)
    (A2 : Option Addr) (m c2 : Nat) (news : List Value) (hx : a.eval x = .slice A2 m c2) (hr : Reads w w.heap.size size A2 m news) (h1 : ∀ u ∈ news, u.oneCell' = true)
    (hN : m ≤ 1000000000)
    (h : ∀ A' c' w', Own w' w.heap.size e size A' m c' news → Below w.heap.size w w' → wpList P ops Q rest (a.put o.dst (.slice A' m c')) w') : wpList P ops Q (o :: rest) a (w.alloc (.cells #[] e)) := by
  have hown : Own (w.alloc (.cells #[] e)) w.heap.size e size (some ⟨w.heap.size, 0, none⟩) 0 0 [] := Own.empty (Nat.le_refl _)
  refine wpList_app _ hgd s x t ho w.heap.size e ht he _ 0 0 [] hs hown w.heap.size A2 m c2 news hx (hr.alloc (Nat.le_refl _) _) h1 (by omega) (by simp) ?_
  intro A' c' w' h2 h3 _
  rw [Nat.zero_add]
  rw [Nat.zero_add, List.nil_append] at h2
  exact h A' c' w' h2 (((Below.refl _ _).alloc (Nat.le_refl _) _).trans (hown.belowG h3 (by simp)))

/-- append onto a slice of the call's own; what is left below 'base'. -/
theorem wpList_appB {P : Program} {size bytes : Nat} (w : World) {ops : Array Oper} {rest : List Oper} {o : Oper} {a : Act} {Q : Exit → Act → World → Prop} (hgd : o.guard = none) (s x : Operand) (t : TypeId)
    (ho : o.op = .call { callee := .builtin .append, args := #[s, x], argTypes := #[t, t] })
    (base : Nat) (e : TypeId) (ht : P.underlying t = some (.slice e)) (he : Elem P e size bytes)
    (A : Option Addr) (n c : Nat) (xs : List Value) (hs : a.eval s = .slice A n c) (hown : Own w base e size A n c xs)
    (A2 : Option Addr) (m c2 : Nat) (news : List Value) (hx : a.eval x = .slice A2 m c2) (hr : Reads w w.heap.size size A2 m news) (h1 : ∀ u ∈ news, u.oneCell' = true)
    (hN : n + m ≤ 1000000000) (hbase : base ≤ w.heap.size)
    (h : ∀ A' c' w', Own w' base e size A' (n + m) c' (xs ++ news) → Below base w w' → wpList P ops Q rest (a.put o.dst (.slice A' (n + m) c')) w') : wpList P ops Q (o :: rest) a w :=
  wpList_app w hgd s x t ho base e ht he A n c xs hs hown w.heap.size A2 m c2 news hx hr h1 hN hbase fun A' c' w' h2 h3 _ => h A' c' w' h2 (hown.belowG h3 hbase)

/-- If the value is a slice, it lies among the blocks from B on. -/
def FreshV (B : Nat) (v : Value) : Prop := ∀ r m c, v = .slice r m c → Fresh B r
theorem FreshV.mk {B m c : Nat} {r : Option Addr} (h : Fresh B r) : FreshV B (.slice r m c) := fun r' m' c' e => by
  injection e with e1 _ _
  subst e1
  exact h
theorem RowIs.far {kd : IntKind} {w : World} {v : Value} {l : List Int} {B : Nat} (h : RowIs kd w v l) (hf : FreshV B v) {p : Addr} (hp : p.block < B) (u : Value) : RowIs kd (w.setCell p u) v l := by
  obtain ⟨r, m, c, h1, h2, h3, h4⟩ := h
  refine ⟨r, m, c, h1, h2, h3, h4.far (fun ad e => ?_) u⟩
  have := hf r m c h1 ad e
  omega
theorem RowsOf.far {kd : IntKind} {w : World} {vs : List Value} {ls : List (List Int)} {B : Nat} (h : RowsOf kd w vs ls) (hf : ∀ v ∈ vs, FreshV B v) {p : Addr} (hp : p.block < B) (u : Value) : RowsOf kd (w.setCell p u) vs ls :=
  ⟨h.1, fun k v l h1 h2 => (h.2 k v l h1 h2).far (hf v (List.mem_of_getElem? h1)) hp u⟩
theorem mem_set_of {α : Type} {l : List α} {k : Nat} {x y : α} {p : α → Prop} (h : ∀ z ∈ l, p z) (hx : p x) (hy : y ∈ l.set k x) : p y := by
  rcases List.mem_or_eq_of_mem_set hy with h1 | h1
  · exact h y h1
  · subst h1; exact hx

/-- Block g is just these cells of one element type; none is frozen. -/
def Blk (w : World) (g t : Nat) (cs : List Value) : Prop := w.heap[g]? = some (.cells cs.toArray t (0, 0))
section
variable {w w' : World} {g t : Nat} {cs : List Value}
theorem Blk.lt (h : Blk w g t cs) : g < w.heap.size := (Array.getElem?_eq_some_iff.1 h).1
theorem Blk.cell (h : Blk w g t cs) (i : Nat) : w.cell? ⟨g, i, none⟩ = cs[i]? := by
  rw [cell_of_row w g i cs.toArray t (0, 0) h]; simp
theorem Blk.frozen (h : Blk w g t cs) (i : Nat) : w.frozen? ⟨g, i, none⟩ = false := frozen_of_row w g i cs.toArray t h
theorem Blk.new (w : World) (t : Nat) (cs : List Value) : Blk (w.alloc (.cells cs.toArray t)) w.heap.size t cs := heap_alloc_new w _
theorem Blk.of_block (h : Blk w g t cs) (hb : w'.heap[g]? = w.heap[g]?) : Blk w' g t cs := hb.trans h
theorem Blk.alloc (h : Blk w g t cs) (o : Obj) : Blk (w.alloc o) g t cs := h.of_block (Below.heap_alloc w o g h.lt)
theorem Blk.below {B : Nat} (h : Blk w g t cs) (hb : Below B w w') (hg : g < B) : Blk w' g t cs := h.of_block (hb.block g hg)
theorem Blk.set_ (h : Blk w g t cs) (i : Nat) (u : Value) : Blk (w.setCell ⟨g, i, none⟩ u) g t (cs.set i u) := by
  have := heap_setCell_same w g i cs.toArray t u h
  unfold Blk
  rw [this]
  simp
theorem Blk.far (h : Blk w g t cs) {p : Addr} (hp : g ≠ p.block) (u : Value) : Blk (w.setCell p u) g t cs := h.of_block (Below.heap_setCell w p u g hp)
theorem Blk.drew (h : Blk w g t cs) : Blk w.drew g t cs := h
end
theorem Blk.own {w : World} {g t size n base : Nat} {cs : List Value} (h : Blk w g t cs) (hl : cs.length = n * size) (hb : base ≤ g) (hn : n ≤ 9223372036854775807) : Own w base t size (some ⟨g, 0, none⟩) n n cs :=
  ⟨hl, .inr ⟨g, n, cs.toArray, rfl, hb, h, Nat.le_refl _, by simpa [maxLen] using hn, by simpa using hl, by simp [← hl]⟩⟩

theorem run_make_block {P : Program} {bytes : Nat} {z : Value} (t e : TypeId) (ht : P.underlying t = some (.slice e)) (he : ElemZ P e 1 bytes z) (hz1 : z.cells = #[z])
    (kl kc : IntKind) (n : Nat) (hN : n ≤ 1000000000) (w : World) :
    (Instr.makeSlice t (.int kl (n : Int)) (.int kc (n : Int))).run P w = .ok (.slice (some ⟨w.heap.size, 0, none⟩) n n) (w.alloc (.cells (List.replicate n z).toArray e)) := by
  obtain ⟨i, hi, hz, hsize, hby, hzs, hsz, hbb⟩ := he
  have hb : ((i.bytes : Nat) : Int) * (n : Int) ≤ 281474976710656 := by
    have h : i.bytes * n ≤ 100000 * 1000000000 := by rw [hby]; exact Nat.mul_le_mul hbb hN
    have h2 : ((i.bytes * n : Nat) : Int) ≤ 281474976710656 := by omega
    rwa [Int.natCast_mul] at h2
  have hr := run_make (P := P) w t e i z ht hi hz kl kc n n (by omega) (Int.le_refl _) hb (by omega)
  simp only [Int.toNat_natCast] at hr
  rw [hr, hz1, hsize, Nat.mul_one]
  congr 3
  apply Array.ext'
  rw [toList_madeCells_one]

theorem bounds_u8' {x : Int} (h : (Lit.int .u8 x).wf = true) : 0 ≤ x ∧ x ≤ 255 := by
  simp [Lit.wf, IntKind.min, IntKind.max, IntKind.signed, IntKind.bits] at h
  omega
/-- A row that came in reads as the list of its numbers. -/
theorem ints_of_cells {kd : IntKind} {w : World} {a : Addr} {len cap : Nat} {zs : List Int} (hl : len ≤ cap) (hz : zs.length = cap) (hc : ∀ i, i < zs.length → w.cell? (a.add i) = some (.int kd (zs.getD i 0))) :
    Ints kd w (some a) len (zs.take len) := by
  have h : Reads w w.heap.size 1 (some a) len (iv kd (zs.take len)) := by
    refine ⟨by rw [iv_length, List.length_take]; omega, fun hn => ⟨a, rfl, ?_, fun j u hu => ?_⟩⟩
    · have := hc 0 (by omega)
      rw [add_zero] at this
      exact World.block_lt_of_cell? w a this
    · have hj : j < len := by have := (List.getElem?_eq_some_iff.1 hu).1; rw [iv_length, List.length_take] at this; omega
      rw [hc j (by omega)]
      simp [iv, hj] at hu
      obtain ⟨x, hx, rfl⟩ := hu
      simp [hx]
  exact h

end Go.Proofs.YtgpkcooipadnpaaDoor
