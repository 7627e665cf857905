/-
  Small predicates for memory: a slice value that reads as a list, a slice of the call's own, and what append does to it. Over any program; no conditions.
-/
import Derived.WalkKit
import Derived.WalkSpells
import Derived.WalkLawsBesides
import Derived.Deep.AppendLies
import Derived.Deep.Draws
import Derived.Deep.QuietTactic
import Derived.BigQuiet
import Derived.Lib.Hide
import Derived.Maps.AppendAt
import Derived.RegionTactic
import Derived.BigRegion
import Derived.OwnWalk
import Derived.StillTailTactics
import Derived.Deep.RegionHeld3
import Derived.Deep.LoopGhost
import Derived.Deep.DeepMust
import Derived.Deep.DeepFit
import Derived.Deep.DeepCutAuto
namespace Go.Proofs.YtgpkcooipadnpaaDoor
set_option linter.unusedSimpArgs false
set_option linter.unusedVariables false
open Go.RowKit

theorem ret_bool {a b : Bool} (h : a = b) : Ending.returned (.bool a) = .returned (.bool b) := by rw [h]
theorem ret_int {k : IntKind} {a b : Int} (h : a = b) : Ending.returned (.int k a) = .returned (.int k b) := by rw [h]

theorem block_of_add (a : Addr) (n : Nat) : (a.add n).block = a.block := by unfold Addr.add; split <;> rfl
theorem add_of_add (a : Addr) (i j : Nat) : (a.add i).add j = a.add (i + j) := by
  unfold Addr.add
  by_cases hi : i = 0 <;> by_cases hj : j = 0 <;> simp [hi, hj, Nat.add_assoc]

theorem add_succ (a : Addr) (k : Nat) : a.add (k + 1) = ⟨a.block, a.off + (k + 1), none⟩ := by simp [Addr.add]
theorem add_zero (a : Addr) : a.add 0 = a := by simp [Addr.add]
theorem add_pos (a : Addr) (k : Nat) (h : 0 < k) : a.add k = ⟨a.block, a.off + k, none⟩ := by simp [Addr.add]; omega

/-- The slice with address A and n elements of 'size' cells reads as the cells xs, and lies below block B. -/
def Reads (w : World) (B size : Nat) (A : Option Addr) (n : Nat) (xs : List Value) : Prop :=
  xs.length = n * size ∧ (0 < n → ∃ ad, A = some ad ∧ ad.block < B ∧ ∀ j u, xs[j]? = some u → w.cell? (ad.add j) = some u)

section
variable {w w' : World} {B B' size n : Nat} {A : Option Addr} {xs : List Value}
theorem Reads.none_ : Reads w B size A 0 [] := ⟨by simp, fun h => absurd h (by omega)⟩
theorem Reads.at_ {k : Nat} (h : Reads w B 1 A n xs) (hk : k < n) : ∃ ad u, A = some ad ∧ ad.block < B ∧ xs[k]? = some u ∧ w.cell? (ad.add k) = some u := by
  obtain ⟨ad, e, hb, hc⟩ := h.2 (by omega)
  have hl : k < xs.length := by have := h.1; omega
  exact ⟨ad, xs[k], e, hb, List.getElem?_eq_getElem hl, hc k _ (List.getElem?_eq_getElem hl)⟩
theorem Reads.keep (h : Reads w B size A n xs) (hk : ∀ p : Addr, p.block < B → w'.cell? p = w.cell? p) : Reads w' B size A n xs :=
  ⟨h.1, fun hn => by
    obtain ⟨ad, e, hb, hc⟩ := h.2 hn
    exact ⟨ad, e, hb, fun j u hu => (hk _ (by rw [block_of_add]; exact hb)).trans (hc j u hu)⟩⟩
theorem Reads.more (h : Reads w B size A n xs) (hB : B ≤ B') : Reads w B' size A n xs :=
  ⟨h.1, fun hn => by
    obtain ⟨ad, e, hb, hc⟩ := h.2 hn
    exact ⟨ad, e, by omega, hc⟩⟩
theorem Reads.below (h : Reads w B size A n xs) (hb : Below B w w') : Reads w' B size A n xs := h.keep fun _ hp => hb.cell hp
theorem Reads.drew (h : Reads w B size A n xs) : Reads w.drew B size A n xs := h
theorem Reads.drewN (h : Reads w B size A n xs) (k : Nat) : Reads (w.drewN k) B size A n xs := h
theorem Reads.alloc (h : Reads w B size A n xs) (hB : B ≤ w.heap.size) (o : Obj) : Reads (w.alloc o) B size A n xs := h.keep fun p hp => World.cell?_alloc_lt w o p (by omega)
theorem Reads.setCell (h : Reads w B size A n xs) {p : Addr} (hB : B ≤ p.block) (u : Value) : Reads (w.setCell p u) B size A n xs :=
  h.keep fun q hq => World.cell?_setCell_other w p q u (fun e => by subst e; omega)
theorem Reads.grown (h : Reads w B size A n xs) {row : Option Nat} (hg : w.grownBy w' row) (hB : B ≤ w.heap.size) (hr : ∀ g, row = some g → B ≤ g) : Reads w' B size A n xs :=
  h.keep fun p hp => World.cell?_of_block (hg.block p.block (by omega) (fun e => by have := hr _ e.symm; omega))
/-- A cut s[k:m]. -/
theorem Reads.cut (h : Reads w B size A n xs) {k m : Nat} (hk : k ≤ m) (hm : m ≤ n) :
    Reads w B size (A.map (·.add (k * size))) (m - k) ((xs.drop (k * size)).take ((m - k) * size)) := by
  refine ⟨?_, fun hn => ?_⟩
  · rw [List.length_take, List.length_drop, h.1, ← Nat.sub_mul]
    exact Nat.min_eq_left (Nat.mul_le_mul_right _ (by omega))
  · obtain ⟨ad, rfl, hb, hcell⟩ := h.2 (by omega)
    refine ⟨ad.add (k * size), rfl, by rw [block_of_add]; exact hb, fun j u hu => ?_⟩
    rw [add_of_add]
    rw [List.getElem?_take] at hu
    split at hu
    · exact hcell _ u (by rw [← hu, List.getElem?_drop])
    · cases hu
theorem Reads.box (w : World) (e : TypeId) (cs : Array Value) (n : Nat) (hn : cs.size = n * size) :
    Reads (w.alloc (.cells cs e)) (w.heap.size + 1) size (some ⟨w.heap.size, 0, none⟩) n cs.toList := by
  refine ⟨by simpa using hn, fun _ => ⟨_, rfl, by simp, fun j u hu => ?_⟩⟩
  have hadd : (⟨w.heap.size, 0, none⟩ : Addr).add j = ⟨w.heap.size, j, none⟩ := by unfold Addr.add; split <;> simp_all
  rw [hadd, cell_of_row (w.alloc (.cells cs e)) w.heap.size j cs e (0, 0) (heap_alloc_new w _)]
  simpa using hu
end

/-- The cells of a list of integers of one kind. -/
def iv (k : IntKind) (l : List Int) : List Value := l.map (Value.int k)
theorem iv_length (k : IntKind) (l : List Int) : (iv k l).length = l.length := by simp [iv]
theorem iv_at (kd : IntKind) (l : List Int) (k : Nat) (h : k < l.length) : (iv kd l)[k]? = some (.int kd l[k]) := by simp [iv, h]
theorem iv_append (k : IntKind) (l m : List Int) : iv k (l ++ m) = iv k l ++ iv k m := by simp [iv]
theorem iv_one (k : IntKind) (l : List Int) : ∀ u ∈ iv k l, u.oneCell' = true := by
  intro u hu
  simp only [iv, List.mem_map] at hu
  obtain ⟨x, _, rfl⟩ := hu
  rfl
theorem iv_drop (kd : IntKind) (l : List Int) (k : Nat) : (iv kd l).drop k = iv kd (l.drop k) := by simp [iv]
theorem iv_take (kd : IntKind) (l : List Int) (k : Nat) : (iv kd l).take k = iv kd (l.take k) := by simp [iv]

/-- A slice of integers of kind kd at A, n long, reads as the list l; it lies below the heap's end. -/
def Ints (kd : IntKind) (w : World) (A : Option Addr) (n : Nat) (l : List Int) : Prop := Reads w w.heap.size 1 A n (iv kd l)

section
variable {kd : IntKind} {w w' : World} {A : Option Addr} {n : Nat} {l : List Int}
theorem Ints.len (h : Ints kd w A n l) : l.length = n := by have := h.1; rw [iv_length] at this; omega
theorem Ints.at_ (h : Ints kd w A n l) {k : Nat} (hk : k < n) : ∃ ad, A = some ad ∧ ad.block < w.heap.size ∧ ∃ x, l[k]? = some x ∧ w.cell? (ad.add k) = some (.int kd x) := by
  obtain ⟨ad, u, e, hb, hx, hc⟩ := Reads.at_ h hk
  have hk' : k < l.length := by have := h.len; omega
  rw [iv_at kd l k hk'] at hx
  cases hx
  exact ⟨ad, e, hb, l[k], by simp [hk'], hc⟩
theorem Ints.below (h : Ints kd w A n l) (hb : Below w.heap.size w w') : Ints kd w' A n l := (Reads.below h hb).more hb.size
theorem Ints.drewN (h : Ints kd w A n l) (k : Nat) : Ints kd (w.drewN k) A n l := h
theorem Ints.drew (h : Ints kd w A n l) : Ints kd w.drew A n l := h
theorem Ints.alloc (h : Ints kd w A n l) (o : Obj) : Ints kd (w.alloc o) A n l := (Reads.alloc h (Nat.le_refl _) o).more (by simp)
theorem Ints.far (h : Ints kd w A n l) {p : Addr} (hp : ∀ ad, A = some ad → ad.block ≠ p.block) (u : Value) : Ints kd (w.setCell p u) A n l := by
  have h2 : Reads (w.setCell p u) w.heap.size 1 A n (iv kd l) := by
    refine ⟨h.1, fun hn => ?_⟩
    obtain ⟨ad, e, hb, hc⟩ := h.2 hn
    refine ⟨ad, e, hb, fun j v hv => ?_⟩
    exact (World.cell?_setCell_other w p (ad.add j) u (fun e2 => hp ad e (by rw [e2, block_of_add]))).trans (hc j v hv)
  exact h2.more (by simp [World.setCell])
theorem Ints.nil_ : Ints kd w A 0 [] := Reads.none_
theorem Ints.cut (h : Ints kd w A n l) {k m : Nat} (hk : k ≤ m) (hm : m ≤ n) : Ints kd w (A.map (·.add k)) (m - k) ((l.drop k).take (m - k)) := by
  have := Reads.cut h hk hm
  simpa [Ints, iv_drop, iv_take] using this
theorem Ints.take (h : Ints kd w A n l) {k : Nat} (hk : k ≤ n) : Ints kd w A k (l.take k) := by
  have h2 : Reads w w.heap.size 1 A k (iv kd (l.take k)) := by
    refine ⟨by rw [iv_length, List.length_take, h.len]; omega, fun hn => ?_⟩
    obtain ⟨ad, e, hb, hc⟩ := h.2 (by omega)
    refine ⟨ad, e, hb, fun j u hu => ?_⟩
    rw [← iv_take, List.getElem?_take] at hu
    split at hu
    · exact hc j u hu
    · cases hu
  exact h2
theorem Ints.drop (h : Ints kd w A n l) {k : Nat} (hk : k ≤ n) : Ints kd w (A.map (·.add k)) (n - k) (l.drop k) := by
  have := h.cut hk (Nat.le_refl n)
  rwa [List.take_of_length_le (by rw [List.length_drop, h.len]; omega)] at this
end

/-- The address lies among the blocks from B on. -/
def Fresh (B : Nat) (A : Option Addr) : Prop := ∀ ad, A = some ad → B ≤ ad.block
theorem Fresh.none_ {B : Nat} : Fresh B none := fun _ h => by cases h
theorem Fresh.lower {B B' : Nat} {A : Option Addr} (h : Fresh B A) (hb : B' ≤ B) : Fresh B' A := fun ad e => Nat.le_trans hb (h ad e)

/-- What the program's table says of an element type: cells and bytes. -/
def Elem (P : Program) (e size bytes : Nat) : Prop := ∃ i z, P.info? e = some i ∧ i.zero = some z ∧ i.size = size ∧ i.bytes = bytes ∧ z.cells.size = size ∧ 0 < size ∧ bytes ≤ 100000

theorem elem_of {P : Program} {e size bytes : Nat} {z : Value} (h : (P.info? e).map (fun i => (i.zero, i.size, i.bytes)) = some (some z, size, bytes)) (hz : z.cells.size = size) (hs : 0 < size) (hb : bytes ≤ 100000) : Elem P e size bytes := by
  obtain ⟨i0, hi, hz0, hz1, hz2⟩ := info_parts h
  exact ⟨i0, z, hi, hz0, hz1, hz2, hz, hs, hb⟩

/-- A slice of the call's own (blocks from 'base' on): it may be appended to. -/
def Own (w : World) (base e size : Nat) (A : Option Addr) (n c : Nat) (xs : List Value) : Prop := w.ownsRow base e size (.slice A n c) n xs

def ownB (A : Option Addr) : Option Nat := A.map (·.block)
theorem ownB_eq (A : Option Addr) (n c : Nat) : (Value.slice A n c).ownBlock = ownB A := by cases A <;> rfl

section
variable {w w' : World} {base e size n c : Nat} {A : Option Addr} {xs : List Value}
theorem Own.nil_ : Own w base e size none 0 0 [] := World.ownsRow_nil w base e size
theorem Own.reads (h : Own w base e size A n c xs) : Reads w w.heap.size size A n xs := by
  refine ⟨h.1, fun hn => ?_⟩
  obtain ⟨g, cap, hv, _, hlt⟩ := h.form hn
  have hA : A = some ⟨g, 0, none⟩ := by injection hv
  subst hA
  exact ⟨_, rfl, hlt, h.cells (g := g) rfl⟩
theorem Own.cap (h : Own w base e size A n c xs) : n ≤ c ∧ c ≤ 9223372036854775807 := by
  rcases h.2 with ⟨hv, hn⟩ | ⟨g, cap, cur, hv, _, _, h1, h2, _⟩
  · injection hv with _ _ h3; omega
  · injection hv with _ _ h3
    subst h3
    exact ⟨h1, by simpa [maxLen] using h2⟩
theorem Own.ints {kd : IntKind} {l : List Int} (h : Own w base e 1 A n c (iv kd l)) : Ints kd w A n l := h.reads
theorem Own.low (h : Own w base e size A n c xs) : ∀ g, ownB A = some g → base ≤ g ∧ g < w.heap.size := fun g hg => h.lt g (by rw [ownB_eq]; exact hg)
theorem Own.fresh (h : Own w base e size A n c xs) : Fresh base A := fun ad e => (h.low ad.block (by subst e; rfl)).1
theorem Own.kept {row : Option Nat} (h : Own w base e size A n c xs) (hg : w.grownBy w' row) (hne : ownB A = none ∨ ownB A ≠ row) : Own w' base e size A n c xs := World.ownsRow.kept h hg (by rw [ownB_eq]; exact hne)
theorem Own.alloc (h : Own w base e size A n c xs) (o : Obj) : Own (w.alloc o) base e size A n c xs := World.ownsRow.alloc h o
theorem Own.drew (h : Own w base e size A n c xs) : Own w.drew base e size A n c xs := h
theorem Own.drewN (h : Own w base e size A n c xs) (k : Nat) : Own (w.drewN k) base e size A n c xs := h
theorem Own.below (h : Own w base e size A n c xs) (hb : Below w.heap.size w w') : Own w' base e size A n c xs := by
  refine ⟨h.1, ?_⟩
  rcases h.2 with hn | ⟨g, cap, cur, hv, h1, hh, h2⟩
  · exact .inl hn
  · exact .inr ⟨g, cap, cur, hv, h1, by rw [hb.block g (Array.getElem?_eq_some_iff.1 hh).1]; exact hh, h2⟩
theorem Own.lower {base' : Nat} (h : Own w base e size A n c xs) (hb : base' ≤ base) : Own w base' e size A n c xs := by
  refine ⟨h.1, ?_⟩
  rcases h.2 with hn | ⟨g, cap, cur, hv, h1, hh, h2⟩
  · exact .inl hn
  · exact .inr ⟨g, cap, cur, hv, by omega, hh, h2⟩
end

section
variable {P : Program} (w : World)

theorem run_append_of_nil (base : Nat) (t ty e : TypeId) (i : TypeInfo) (size : Nat) (ht : P.underlying t = some (.slice e)) (hi : P.info? e = some i)
    (v : Value) (n : Nat) (xs : List Value) (hown : w.ownsRow base e size v n xs) (c : Nat) : (Builtin.append_ #[t, t] ty #[v, .slice none 0 c]).run P w = .ok v w := by
  rcases hown.2 with ⟨rfl, rfl⟩ | ⟨g, cap, cur, rfl, _, _, hnc, _⟩
  · simp [Builtin.append_, run_underlying ht, sizeOf, typeInfo, hi, Builtin.lenOf, Builtin.firstCells]
  · simp [Builtin.append_, run_underlying ht, sizeOf, typeInfo, hi, Builtin.lenOf, Builtin.firstCells, hnc, storeCells]

/-- append onto a slice of the call's own, whatever is appended. -/
theorem run_append_any {size bytes : Nat} (base : Nat) (t ty e : TypeId) (ht : P.underlying t = some (.slice e)) (he : Elem P e size bytes)
    (A : Option Addr) (n c : Nat) (xs : List Value) (hown : Own w base e size A n c xs)
    (B : Nat) (A2 : Option Addr) (m c2 : Nat) (news : List Value) (hr : Reads w B size A2 m news) (h1 : ∀ u ∈ news, u.oneCell' = true)
    (hN : n + m ≤ 1000000000) (hbase : base ≤ w.heap.size) :
    ∃ A' c' w', (Builtin.append_ #[t, t] ty #[.slice A n c, .slice A2 m c2]).run P w = .ok (.slice A' (n + m) c') w' ∧ Own w' base e size A' (n + m) c' (xs ++ news) ∧ w.grownBy w' (ownB A) ∧
      (ownB A' = ownB A ∨ ownB A' = some w.heap.size) := by
  obtain ⟨i, z, hi, hz, hsize, hby, hzs, hsz, hbb⟩ := he
  have shape : ∀ {v' : Value} {w' : World}, w'.ownsRow base e size v' (n + m) (xs ++ news) → ∃ A' c', v' = .slice A' (n + m) c' := by
    intro v' w' h
    rcases h.2 with ⟨rfl, h0⟩ | ⟨g, cap, cur, rfl, _⟩
    · exact ⟨none, 0, by rw [h0]⟩
    · exact ⟨_, _, rfl⟩
  rcases A2 with _ | ad
  · have hm : m = 0 := by
      rcases Nat.eq_zero_or_pos m with h0 | h0
      · exact h0
      · obtain ⟨ad, h, _⟩ := hr.2 h0
        cases h
    subst hm
    have hn : news = [] := List.eq_nil_of_length_eq_zero (by simpa using hr.1)
    subst hn
    exact ⟨A, c, w, run_append_of_nil w base t ty e i size ht hi _ n xs hown c2, by simpa using hown, World.grownBy.refl w _, .inl rfl⟩
  · have hcells : ∀ j u, news[j]? = some u → w.cell? (ad.add j) = some u := by
      intro j u hu
      rcases Nat.eq_zero_or_pos m with h0 | h0
      · subst h0
        have hn : news = [] := List.eq_nil_of_length_eq_zero (by simpa using hr.1)
        subst hn
        simp at hu
      · obtain ⟨ad', h, _, hc⟩ := hr.2 h0
        injection h with h
        subst h
        exact hc j u hu
    obtain ⟨v', w', hrun, h2, h3, _, h5⟩ := run_append_own_at (P := P) w base t ty e i z size bytes ht hi hz hsize hby hzs hsz _ n xs hown ad m c2 news hr.1 hcells h1 (by simp only [maxLen]; omega)
      (Nat.le_trans (Nat.mul_le_mul hN hbb) (by omega)) hbase
    obtain ⟨A', c', rfl⟩ := shape h2
    rw [ownB_eq] at h3
    simp only [ownB_eq] at h5
    exact ⟨A', c', w', hrun, h2, h3, h5⟩

theorem wp_app {size bytes : Nat} {o : Oper} {a : Act} {K : Act → World → Prop} {Q : Exit → Act → World → Prop} (s x : Operand) (t : TypeId)
    (ho : o.op = .call { callee := .builtin .append, args := #[s, x], argTypes := #[t, t] })
    (base : Nat) (e : TypeId) (ht : P.underlying t = some (.slice e)) (he : Elem P e size bytes)
    (A : Option Addr) (n c : Nat) (xs : List Value) (hs : a.eval s = .slice A n c) (hown : Own w base e size A n c xs)
    (B : Nat) (A2 : Option Addr) (m c2 : Nat) (news : List Value) (hx : a.eval x = .slice A2 m c2) (hr : Reads w B size A2 m news) (h1 : ∀ u ∈ news, u.oneCell' = true)
    (hN : n + m ≤ 1000000000) (hbase : base ≤ w.heap.size)
    (h : ∀ A' c' w', Own w' base e size A' (n + m) c' (xs ++ news) → w.grownBy w' (ownB A) → (ownB A' = ownB A ∨ ownB A' = some w.heap.size) → K (a.put o.dst (.slice A' (n + m) c')) w') : o.wp P a w K Q := by
  obtain ⟨A', c', w', hrun, h2, h3, h4⟩ := run_append_any (P := P) w base t o.type e ht he A n c xs hown B A2 m c2 news hr h1 hN hbase
  unfold Oper.wp execOp
  simp only [ho, resolve, invoke, builtin, Sem.run_bind, Sem.run_pure, Result.andThen_ok, List.map_toArray, List.map_cons, List.map_nil, hs, hx, hrun]
  exact h A' c' w' h2 h3 h4

theorem wpList_app {size bytes : Nat} {ops : Array Oper} {rest : List Oper} {o : Oper} {a : Act} {Q : Exit → Act → World → Prop} (hgd : o.guard = none) (s x : Operand) (t : TypeId)
    (ho : o.op = .call { callee := .builtin .append, args := #[s, x], argTypes := #[t, t] })
    (base : Nat) (e : TypeId) (ht : P.underlying t = some (.slice e)) (he : Elem P e size bytes)
    (A : Option Addr) (n c : Nat) (xs : List Value) (hs : a.eval s = .slice A n c) (hown : Own w base e size A n c xs)
    (B : Nat) (A2 : Option Addr) (m c2 : Nat) (news : List Value) (hx : a.eval x = .slice A2 m c2) (hr : Reads w B size A2 m news) (h1 : ∀ u ∈ news, u.oneCell' = true)
    (hN : n + m ≤ 1000000000) (hbase : base ≤ w.heap.size)
    (h : ∀ A' c' w', Own w' base e size A' (n + m) c' (xs ++ news) → w.grownBy w' (ownB A) → (ownB A' = ownB A ∨ ownB A' = some w.heap.size) → wpList P ops Q rest (a.put o.dst (.slice A' (n + m) c')) w') : wpList P ops Q (o :: rest) a w :=
  wpList_plain hgd fun _ hK => wp_app w s x t ho base e ht he A n c xs hs hown B A2 m c2 news hx hr h1 hN hbase fun v' c' w' h2 h3 h4 => hK _ _ (h v' c' w' h2 h3 h4)

theorem step_app {size bytes : Nat} {ops : Array Oper} {o : Oper} {a : Act} {K : Act → World → Prop} {Q : Exit → Act → World → Prop} {E : Prop} (hgd : o.guard = none) (s x : Operand) (t : TypeId)
    (ho : o.op = .call { callee := .builtin .append, args := #[s, x], argTypes := #[t, t] })
    (base : Nat) (e : TypeId) (ht : P.underlying t = some (.slice e)) (he : Elem P e size bytes)
    (A : Option Addr) (n c : Nat) (xs : List Value) (hs : a.eval s = .slice A n c) (hown : Own w base e size A n c xs)
    (B : Nat) (A2 : Option Addr) (m c2 : Nat) (news : List Value) (hx : a.eval x = .slice A2 m c2) (hr : Reads w B size A2 m news) (h1 : ∀ u ∈ news, u.oneCell' = true)
    (hN : n + m ≤ 1000000000) (hbase : base ≤ w.heap.size)
    (h : ∀ A' c' w', Own w' base e size A' (n + m) c' (xs ++ news) → w.grownBy w' (ownB A) → (ownB A' = ownB A ∨ ownB A' = some w.heap.size) → K (a.put o.dst (.slice A' (n + m) c')) w') :
    if Region.wanted o (yielded ops a.tmps) = true then Oper.wp P o a w K Q else E := by
  have hw : Region.wanted o (yielded ops a.tmps) = true := by simp [Region.wanted, hgd]
  rw [if_pos hw]
  exact wp_app w s x t ho base e ht he A n c xs hs hown B A2 m c2 news hx hr h1 hN hbase h
end

/-- What an append onto a slice of the call's own leaves below 'base'. -/
theorem Own.belowG {w w1 : World} {base e size n c : Nat} {A : Option Addr} {xs : List Value} (h : Own w base e size A n c xs) (hg : w.grownBy w1 (ownB A)) (hB : base ≤ w.heap.size) : Below base w w1 :=
  (Below.refl base w).grown hg hB (fun k hk => (h.low k hk).1)

theorem grownBy_alloc_left {w w1 : World} {o : Obj} {row : Option Nat} (h : (w.alloc o).grownBy w1 row) : w.grownBy w1 row :=
  ⟨h.os, h.tape, h.output, Nat.le_trans (by simp) h.size, fun k hk hne => (h.block k (by simp; omega) hne).trans (Below.heap_alloc w o k hk)⟩

/-- append of one value: the world is the one behind the making of the one-cell slice. -/
theorem wpList_app1 {P : Program} {bytes : Nat} {ops : Array Oper} {rest : List Oper} {o : Oper} {a : Act} {Q : Exit → Act → World → Prop} (wr : World) (hgd : o.guard = none) (s x : Operand) (t : TypeId)
    (ho : o.op = .call { callee := .builtin .append, args := #[s, x], argTypes := #[t, t] })
    (base : Nat) (e : TypeId) (ht : P.underlying t = some (.slice e)) (he : Elem P e 1 bytes)
    (A : Option Addr) (n c : Nat) (xs : List Value) (hs : a.eval s = .slice A n c) (hown : Own wr base e 1 A n c xs)
    (v : Value) (hx : a.eval x = .slice (some ⟨wr.heap.size, 0, none⟩) 1 1) (h1 : v.oneCell' = true)
    (hN : n + 1 ≤ 1000000000) (hbase : base ≤ wr.heap.size)
    (h : ∀ A' c' w', Own w' base e 1 A' (n + 1) c' (xs ++ [v]) → wr.grownBy w' (ownB A) → (ownB A' = ownB A ∨ ownB A' = some (wr.heap.size + 1)) → wpList P ops Q rest (a.put o.dst (.slice A' (n + 1) c')) w') :
    wpList P ops Q (o :: rest) a (wr.alloc (.cells #[v] e)) := by
  refine wpList_app (wr.alloc (.cells #[v] e)) hgd s x t ho base e ht he A n c xs hs (hown.alloc _) (wr.heap.size + 1) _ 1 1 [v] hx (Reads.box wr e #[v] 1 (by simp)) (by simpa using h1) hN (by simp; omega) ?_
  intro A' c' w' h2 h3 h4
  exact h A' c' w' h2 (grownBy_alloc_left h3) (by simpa using h4)

/-- What the table says of an element type, with its zero value. -/
def ElemZ (P : Program) (e size bytes : Nat) (z : Value) : Prop := ∃ i, P.info? e = some i ∧ i.zero = some z ∧ i.size = size ∧ i.bytes = bytes ∧ z.cells.size = size ∧ 0 < size ∧ bytes ≤ 100000
theorem elemZ_of {P : Program} {e size bytes : Nat} {z : Value} (h : (P.info? e).map (fun i => (i.zero, i.size, i.bytes)) = some (some z, size, bytes)) (hz : z.cells.size = size) (hs : 0 < size) (hb : bytes ≤ 100000) : ElemZ P e size bytes z := by
  obtain ⟨i0, hi, hz0, hz1, hz2⟩ := info_parts h
  exact ⟨i0, hi, hz0, hz1, hz2, hz, hs, hb⟩
theorem ElemZ.elem {P : Program} {e size bytes : Nat} {z : Value} (h : ElemZ P e size bytes z) : Elem P e size bytes := let ⟨i, h⟩ := h; ⟨i, z, h⟩

section
variable {w w' : World} {base e size g n c : Nat} {xs : List Value}
theorem Own.cellAt (h : Own w base e size (some ⟨g, 0, none⟩) n c xs) {j : Nat} (hj : j < n * size) : w.cell? ⟨g, j, none⟩ = xs[j]? := World.ownsRow.cellAt h j hj
theorem Own.frozenAt (h : Own w base e size (some ⟨g, 0, none⟩) n c xs) (j : Nat) : w.frozen? ⟨g, j, none⟩ = false := World.ownsRow.frozenAt h j
theorem Own.stored (h : Own w base e size (some ⟨g, 0, none⟩) n c xs) (j : Nat) (u : Value) : Own (w.setCell ⟨g, j, none⟩ u) base e size (some ⟨g, 0, none⟩) n c (xs.set j u) := (World.ownsRow.stored h j u).1
theorem Own.stored_grown (h : Own w base e size (some ⟨g, 0, none⟩) n c xs) (j : Nat) (u : Value) : w.grownBy (w.setCell ⟨g, j, none⟩ u) (some g) := (World.ownsRow.stored h j u).2
theorem Own.stored_below (h : Own w base e size (some ⟨g, 0, none⟩) n c xs) (j : Nat) (u : Value) : Below base w (w.setCell ⟨g, j, none⟩ u) :=
  (Below.refl base w).setCell (by have := (h.low g rfl).1; exact this) u
/-- The address of an owned slice with room is the head of a block. -/
theorem Own.shape {A : Option Addr} (h : Own w base e size A n c xs) (hc : 0 < c) : ∃ g, A = some ⟨g, 0, none⟩ ∧ base ≤ g ∧ g < w.heap.size := by
  rcases h.2 with ⟨hv, _⟩ | ⟨g, cap, cur, hv, h1, hh, _⟩
  · injection hv with _ _ h3; omega
  · injection hv with h2 _ _
    exact ⟨g, h2, h1, (Array.getElem?_eq_some_iff.1 hh).1⟩
end

/-- make([]T, n), T of one cell. -/
theorem wpList_mk {P : Program} {bytes : Nat} {z : Value} (w : World) {ops : Array Oper} {rest : List Oper} {o : Oper} {a : Act} {Q : Exit → Act → World → Prop} (hgd : o.guard = none) (l c : Operand) (t : TypeId) (hop : o.op = Op.makeSlice t l c)
    (base : Nat) (e : TypeId) (ht : P.underlying t = some (.slice e)) (he : ElemZ P e 1 bytes z) (hz1 : z.cells = #[z])
    (kl kc : IntKind) (L C : Int) (n : Nat) (hl : a.eval l = .int kl L) (hc : a.eval c = .int kc C) (hL : L = (n : Int)) (hC : C = (n : Int)) (hN : n ≤ 1000000000) (hB : base ≤ w.heap.size)
    (hK : ∀ w', Own w' base e 1 (some ⟨w.heap.size, 0, none⟩) n n (List.replicate n z) → w.grownBy w' none → wpList P ops Q rest (a.put o.dst (.slice (some ⟨w.heap.size, 0, none⟩) n n)) w') :
    wpList P ops Q (o :: rest) a w := by
  obtain ⟨i, hi, hz, hsize, hby, hzs, hsz, hbb⟩ := he
  refine wpList_make_full w hgd l c t hop base e i z 1 ht hi hz hsize kl kc L C n hl hc hL hC (by rw [hby]; exact Nat.le_trans (Nat.mul_le_mul hbb hN) (by omega)) (by simp only [maxLen]; omega) hB ?_
  intro w' h1 h2
  rw [hz1, Nat.mul_one, toList_madeCells_one] at h1
  exact hK w' h1 h2

theorem iv_set (kd : IntKind) (l : List Int) (k : Nat) (x : Int) : iv kd (l.set k x) = (iv kd l).set k (.int kd x) := by simp [iv, List.map_set]
theorem grown_drew {a w : World} {row : Option Nat} (h : a.grownBy w row) : a.grownBy w.drew row := ⟨h.os, h.tape, h.output, h.size, h.block⟩
theorem grown_drewN {a w : World} {row : Option Nat} (h : a.grownBy w row) (n : Nat) : a.grownBy (w.drewN n) row := ⟨h.os, h.tape, h.output, h.size, h.block⟩
theorem below_drewN {B : Nat} {a w : World} (h : Below B a w) (n : Nat) : Below B a (w.drewN n) := ⟨h.os, h.tape, h.output, h.size, h.block⟩
theorem below_of_grown_none {B : Nat} {w w' : World} (h : w.grownBy w' none) (hB : B ≤ w.heap.size) : Below B w w' := (Below.refl B w).grown h hB (by simp)

end Go.Proofs.YtgpkcooipadnpaaDoor
