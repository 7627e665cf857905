/-
  A block of texts of the call's own: read and written. No conditions.
-/
import Derived.Test.YtgpkcooipadnpaaDoorWrM
namespace Go.Proofs.YtgpkcooipadnpaaDoor
set_option linter.unusedSimpArgs false
set_option linter.unusedVariables false
open Go.RowKit
set_option maxRecDepth 100000

/-- The block g holds the texts T 0 .. T (N - 1). -/
def SB (w : World) (g N : Nat) (T : Nat → List UInt8) : Prop := Blk w g 9 ((List.range N).map fun j => str (T j))
section
variable {w w' : World} {g N : Nat} {T : Nat → List UInt8}
theorem SB.lt (h : SB w g N T) : g < w.heap.size := Blk.lt h
theorem SB.cell (h : SB w g N T) {j : Nat} (hj : j < N) : w.cell? ⟨g, j, none⟩ = some (str (T j)) := by
  rw [Blk.cell h j, List.getElem?_map, List.getElem?_range hj]
  rfl
theorem SB.frozen (h : SB w g N T) (j : Nat) : w.frozen? ⟨g, j, none⟩ = false := Blk.frozen h j
theorem SB.below {B : Nat} (h : SB w g N T) (hb : Below B w w') (hg : g < B) : SB w' g N T := Blk.below h hb hg
theorem SB.drewN (h : SB w g N T) (q : Nat) : SB (w.drewN q) g N T := h
def updS (T : Nat → List UInt8) (i : Nat) (t : List UInt8) : Nat → List UInt8 := fun j => if j = i then t else T j
theorem SB.set_ (h : SB w g N T) (i : Nat) (t : List UInt8) : SB (w.setCell ⟨g, i, none⟩ (str t)) g N (updS T i t) := by
  have := Blk.set_ h i (str t)
  unfold SB
  rwa [show ((List.range N).map fun j => str (updS T i t j)) = ((List.range N).map fun j => str (T j)).set i (str t) from ?_]
  apply List.ext_getElem?
  intro k
  rw [List.getElem?_set, List.getElem?_map]
  simp only [List.length_map, List.length_range]
  rcases Nat.lt_or_ge k N with hk | hk
  · rw [List.getElem?_range hk]
    by_cases e : i = k
    · subst e
      simp [updS, hk]
    · rw [if_neg e, List.getElem?_map, List.getElem?_range hk]
      simp [updS, Ne.symm e]
  · rw [List.getElem?_eq_none (by simpa using hk)]
    by_cases e : i = k
    · subst e
      simp [Nat.not_lt.2 hk]
    · rw [if_neg e, List.getElem?_map, List.getElem?_eq_none (by simpa using hk)]
      rfl
theorem SB.new (w : World) (N : Nat) : SB (w.alloc (.cells (List.replicate N (str [])).toArray 9)) w.heap.size N (fun _ => []) := by
  have := Blk.new w 9 (List.replicate N (str []))
  unfold SB
  rwa [show ((List.range N).map fun _ => str []) = List.replicate N (str []) by simp [List.map_const']]
end

end Go.Proofs.YtgpkcooipadnpaaDoor
