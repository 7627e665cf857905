/-
  The chapter's examples of written rows, in plain Lean. No conditions.
-/
import Derived.Test.YtgpkcooipadnpaaDoorWRef
namespace Go.Proofs.YtgpkcooipadnpaaDoor
set_option linter.unusedSimpArgs false
set_option linter.unusedVariables false
set_option maxRecDepth 100000

def lv1 : List (List UInt8) := [[91, 107, 32, 112, 93, 120, 50], [91, 91, 107, 93, 120, 50, 32, 112, 93, 120, 50, 32, 111], [91, 107, 93, 120, 49], [91, 107, 93, 120, 48, 50], [107, 93, 120, 50], [91, 32, 107, 93, 120, 50], [107, 32, 32, 112], [91, 107, 93, 120, 49, 54, 32, 107]]
def lv2 : List (List UInt8) := [[107, 32, 112, 32, 107, 32, 112], [107, 32, 107, 32, 112, 32, 107, 32, 107, 32, 112, 32, 111], [], [], [], [], [], []]
def lv3 : List Int := [0, 0, 4, 4, 4, 4, 4, 3]
def lv4 : List (List UInt8) := [[107, 32, 107], [107, 32, 107, 32, 107], [47, 32, 47, 32, 47], [107, 32, 112, 32, 107, 32, 112, 32, 107, 32, 112, 32, 111], [107, 32, 107, 32, 112, 32, 107, 32, 107, 32, 112, 32, 107, 32, 107, 32, 112]]
def lv5 : List (List UInt8) := [[107, 32, 107], [91, 107, 93, 120, 51], [47, 32, 47, 32, 47], [91, 107, 32, 112, 93, 120, 51, 32, 111], [91, 107, 32, 107, 32, 112, 93, 120, 51]]

/-- The texts of the first stitches, with spaces between. -/
def joinK (row : List St) : Nat → List UInt8
  | 0 => []
  | k + 1 => (if 0 < k then joinK row k ++ [32] else joinK row k) ++ stText (row.getD k St.zero)

theorem live_one : ∀ i < 8, (expandL (lv1.getD i [])).1 = lv3.getD i 0 ∧ joinK (expandL (lv1.getD i [])).2 (expandL (lv1.getD i [])).2.length = lv2.getD i [] ∧ (∀ x ∈ (expandL (lv1.getD i [])).2, x.valid = true) := by
  intro i hi
  have h : i = 0 ∨ i = 1 ∨ i = 2 ∨ i = 3 ∨ i = 4 ∨ i = 5 ∨ i = 6 ∨ i = 7 := by omega
  rcases h with rfl | rfl | rfl | rfl | rfl | rfl | rfl | rfl <;> decide +kernel
theorem live_two : ∀ i < 5, (expandL (lv4.getD i [])).1 = 0 ∧ (expandL (lv4.getD i [])).2 ≠ [] ∧ (expandL (lv4.getD i [])).2.length ≤ 16 ∧ (∀ x ∈ (expandL (lv4.getD i [])).2, x.valid = true) ∧ shortL (expandL (lv4.getD i [])).2 = lv5.getD i [] := by
  intro i hi
  have h : i = 0 ∨ i = 1 ∨ i = 2 ∨ i = 3 ∨ i = 4 := by omega
  rcases h with rfl | rfl | rfl | rfl | rfl <;> decide +kernel

theorem live_short : (∀ i < 8, (lv1.getD i []).length ≤ 100) ∧ ∀ i < 5, (lv4.getD i []).length ≤ 100 := by
  constructor
  · intro i hi
    have h : i = 0 ∨ i = 1 ∨ i = 2 ∨ i = 3 ∨ i = 4 ∨ i = 5 ∨ i = 6 ∨ i = 7 := by omega
    rcases h with rfl | rfl | rfl | rfl | rfl | rfl | rfl | rfl <;> decide
  · intro i hi
    have h : i = 0 ∨ i = 1 ∨ i = 2 ∨ i = 3 ∨ i = 4 := by omega
    rcases h with rfl | rfl | rfl | rfl | rfl <;> decide
theorem map_at {α β : Type} (f : α → β) (l : List α) (d : α) {i : Nat} (h : i < l.length) : (l.map f)[i]? = some (f (l.getD i d)) := by
  rw [List.getElem?_map, List.getElem?_eq_getElem h, List.getD_eq_getElem?_getD, List.getElem?_eq_getElem h]
  rfl
theorem joinK_length {row : List St} (hv : ∀ x ∈ row, x.valid = true) : ∀ k, k ≤ row.length → (joinK row k).length ≤ 6 * k
  | 0, _ => by simp [joinK]
  | k + 1, h => by
    have ih := joinK_length hv k (by omega)
    have hx : (row.getD k St.zero) ∈ row := by
      rw [List.getD_eq_getElem?_getD, List.getElem?_eq_getElem (by omega)]
      exact List.getElem_mem _
    have h5 := (stText_good (hv _ hx)).2.2.2
    unfold joinK
    rw [List.length_append]
    split
    · rw [List.length_append, List.length_singleton]; omega
    · omega

end Go.Proofs.YtgpkcooipadnpaaDoor
