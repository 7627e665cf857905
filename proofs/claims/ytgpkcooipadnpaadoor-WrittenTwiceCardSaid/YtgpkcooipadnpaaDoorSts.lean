/-
  Slices of stitches in memory. No conditions.
-/
import Derived.Test.YtgpkcooipadnpaaDoorKept
import Derived.Test.YtgpkcooipadnpaaDoorStD
namespace Go.Proofs.YtgpkcooipadnpaaDoor
set_option linter.unusedSimpArgs false
set_option linter.unusedVariables false
open Go.RowKit
set_option maxRecDepth 100000

theorem elemStZ : ElemZ Tryd.prog 29 5 32 (.agg #[.int .u8 0, .int .u8 0, .int .i64 0, .int .i64 0, .bool false]) := elemZ_of (by kernel_rfl) rfl (by omega) (by omega)
theorem elemSt : Elem Tryd.prog 29 5 32 := elemStZ.elem

/-- The cells of a list of stitches. -/
def sc (l : List St) : List Value := l.flatMap St.cells
theorem sc_nil : sc [] = [] := rfl
theorem sc_cons (x : St) (l : List St) : sc (x :: l) = x.cells ++ sc l := by simp [sc]
theorem sc_append (l m : List St) : sc (l ++ m) = sc l ++ sc m := by simp [sc]
theorem sc_length (l : List St) : (sc l).length = l.length * 5 := by
  induction l with
  | nil => rfl
  | cons x l ih => rw [sc_cons, List.length_append, ih]; simp [St.cells]; omega
theorem sc_one (l : List St) : ∀ u ∈ sc l, u.oneCell' = true := by
  intro u hu
  simp only [sc, List.mem_flatMap, St.cells] at hu
  obtain ⟨x, _, hx⟩ := hu
  simp at hx
  rcases hx with rfl | rfl | rfl | rfl | rfl <;> rfl
theorem sc_drop : ∀ (l : List St) (k : Nat), (sc l).drop (k * 5) = sc (l.drop k)
  | l, 0 => by simp
  | [], k + 1 => by simp [sc_nil]
  | x :: l, k + 1 => by
    rw [sc_cons, List.drop_succ_cons, ← sc_drop l k, List.drop_append, List.drop_of_length_le (by simp [St.cells]; omega), List.nil_append]
    congr 1
    simp [St.cells]; omega
theorem sc_take : ∀ (l : List St) (k : Nat), (sc l).take (k * 5) = sc (l.take k)
  | l, 0 => by simp [sc_nil]
  | [], k + 1 => by simp [sc_nil]
  | x :: l, k + 1 => by
    rw [sc_cons, List.take_succ_cons, sc_cons, ← sc_take l k, List.take_append, List.take_of_length_le (by simp [St.cells]; omega)]
    congr 2
    simp [St.cells]; omega
theorem sc_at {l : List St} {k : Nat} {x : St} (h : l[k]? = some x) (j : Nat) (hj : j < 5) : (sc l)[k * 5 + j]? = x.cells[j]? := by
  have h1 : (sc l).drop (k * 5) = x.cells ++ sc (l.drop (k + 1)) := by
    rw [sc_drop, List.drop_eq_getElem_cons (List.getElem?_eq_some_iff.1 h).1, (List.getElem?_eq_some_iff.1 h).2, sc_cons]
  rw [← List.getElem?_drop, h1, List.getElem?_append_left (by simpa [St.cells] using hj)]

/-- A slice of stitches at A, n long, reads as the list l; it lies below the heap's end. -/
def Sts (w : World) (A : Option Addr) (n : Nat) (l : List St) : Prop := Reads w w.heap.size 5 A n (sc l)
section
variable {w w' : World} {A : Option Addr} {n : Nat} {l : List St}
theorem Sts.len (h : Sts w A n l) : l.length = n := by have := h.1; rw [sc_length] at this; omega
theorem Sts.below (h : Sts w A n l) (hb : Below w.heap.size w w') : Sts w' A n l := (Reads.below h hb).more hb.size
theorem Sts.drew (h : Sts w A n l) : Sts w.drew A n l := h
theorem Sts.drewN (h : Sts w A n l) (k : Nat) : Sts (w.drewN k) A n l := h
theorem Sts.alloc (h : Sts w A n l) (o : Obj) : Sts (w.alloc o) A n l := (Reads.alloc h (Nat.le_refl _) o).more (by simp)
theorem Sts.nil_ : Sts w A 0 [] := Reads.none_
theorem Sts.take (h : Sts w A n l) {k : Nat} (hk : k ≤ n) : Sts w A k (l.take k) := by
  have := Reads.cut h (Nat.zero_le k) hk
  simp only [Nat.zero_mul, List.drop_zero, Nat.sub_zero, sc_take] at this
  refine ⟨this.1, fun hn => ?_⟩
  obtain ⟨ad, h1, h2, h3⟩ := this.2 hn
  obtain ⟨a0, rfl⟩ : ∃ a0, A = some a0 := by cases A with
    | none => cases h1
    | some a => exact ⟨a, rfl⟩
  simp only [Option.map_some, Option.some.injEq, add_zero] at h1
  subst h1
  exact ⟨a0, rfl, h2, h3⟩
theorem Sts.drop (h : Sts w A n l) {k : Nat} (hk : k ≤ n) : Sts w (A.map (·.add (k * 5))) (n - k) (l.drop k) := by
  have := Reads.cut h hk (Nat.le_refl n)
  rw [sc_drop, sc_take, List.take_of_length_le (by rw [List.length_drop, h.len]; omega)] at this
  exact this
/-- The five cells of an element. -/
theorem Sts.at_ (h : Sts w A n l) {k : Nat} (hk : k < n) : ∃ ad x, A = some ad ∧ ad.block < w.heap.size ∧ l[k]? = some x ∧ w.cell? (ad.add (k * 5)) = some (.int .u8 x.kind) ∧ w.cell? (ad.add (k * 5 + 1)) = some (.int .u8 x.yarn) ∧
    w.cell? (ad.add (k * 5 + 2)) = some (.int .i64 x.a) ∧ w.cell? (ad.add (k * 5 + 3)) = some (.int .i64 x.b) ∧ w.cell? (ad.add (k * 5 + 4)) = some (.bool x.front) := by
  obtain ⟨ad, e, hb, hc⟩ := h.2 (by omega)
  have hl := h.len
  have hx : l[k]? = some l[k] := List.getElem?_eq_getElem (by omega)
  exact ⟨ad, l[k], e, hb, hx, hc (k * 5) _ (by rw [show k * 5 = k * 5 + 0 by omega, sc_at hx 0 (by omega)]; rfl), hc _ _ (by rw [sc_at hx 1 (by omega)]; rfl), hc _ _ (by rw [sc_at hx 2 (by omega)]; rfl), hc _ _ (by rw [sc_at hx 3 (by omega)]; rfl), hc _ _ (by rw [sc_at hx 4 (by omega)]; rfl)⟩
theorem Own.sts {base c : Nat} (h : Own w base 29 5 A n c (sc l)) : Sts w A n l := h.reads
end
theorem Sts.keptK {K : Nat → Prop} {w w' : World} {A : Option Addr} {n : Nat} {l : List St} (h : Sts w A n l) (hk : KeptOut K w w') (hn : ∀ ad, A = some ad → ¬ K ad.block) : Sts w' A n l := by
  refine ⟨h.1, fun h0 => ?_⟩
  obtain ⟨ad, e, hb, hc⟩ := h.2 h0
  refine ⟨ad, e, Nat.lt_of_lt_of_le hb hk.size, fun j u hu => ?_⟩
  rw [hk.cell (by rw [block_of_add]; exact hb) (by rw [block_of_add]; exact hn ad e)]
  exact hc j u hu
theorem Sts.lit (w : World) (e : TypeId) (l : List St) : Sts (w.alloc (.cells (sc l).toArray e)) (some ⟨w.heap.size, 0, none⟩) l.length l := by
  have := Reads.box (size := 5) w e (sc l).toArray l.length (by simp [sc_length])
  exact Reads.more this (by simp)

end Go.Proofs.YtgpkcooipadnpaaDoor
