/-
  An argument that is a slice of slices of bytes, opened: it reads as a list of lists. No conditions.
-/
import Derived.Test.YtgpkcooipadnpaaDoorOpenSts
import Derived.ProofKit
import Derived.OpenShut
import Derived.Deep.Slices
import Derived.Lib.SmallJoins
namespace Go.Proofs.YtgpkcooipadnpaaDoor
set_option linter.unusedSimpArgs false
set_option linter.unusedVariables false
open Go.RowKit Go.ChangeShapes Go.WideShapes
set_option maxRecDepth 100000

section
variable {H : Type} {enc : TypeId × Value → H} {W : World} {base : Nat} {held : Bool}

theorem open_byterow {fuel : Nat} {cs : List Value} {x : DataW H × List MemPlace} (h : DataW.trod enc Tryd.prog W base (fun _ => true) held fuel 68 cs = some x) : ∃ v l, cs = [v] ∧ RowIs .u8 W v l ∧ ∀ y ∈ l, 0 ≤ y ∧ y ≤ 255 := by
  rcases open_ints Tryd.underlying68 Tryd.underlying5 (by kernel_rfl) h with ⟨hcs, _⟩ | ⟨a, l, c, zs, hcs, _, hl, hm, hz, _, hcell, hwz⟩
  · exact ⟨_, [], hcs, ⟨none, 0, 0, rfl, by omega, by omega, Ints.nil_⟩, by simp⟩
  · exact ⟨_, zs.take l, hcs, ⟨some a, l, c, rfl, hl, by unfold maxLen at hm; omega, ints_of_cells hl (by simpa using hz) hcell⟩, fun y hy => wf_u8 (hwz y (List.mem_of_mem_take hy))⟩

theorem open_grid {fuel : Nat} {cs : List Value} {x : DataW H × List MemPlace} (h : DataW.trod enc Tryd.prog W base (fun _ => true) held fuel 40 cs = some x) :
    ∃ A n c ls, cs = [.slice A n c] ∧ Grid .u8 W A n ls ∧ n ≤ c ∧ c ≤ 9223372036854775807 ∧ ∀ r ∈ ls, ∀ y ∈ r, 0 ≤ y ∧ y ≤ 255 := by
  rcases Go.Deep.open_slice Tryd.underlying40 h with ⟨hcs, _⟩ | ⟨a, n, c, m, k, D, Pl, hcs, _, hl, hm, hmm, _, hel⟩
  · exact ⟨none, 0, 0, [], hcs, Grid.nil_, by omega, by omega, by simp⟩
  · have hlm : n ≤ m := by rw [hmm]; split <;> omega
    have hC : Tryd.prog.cellsOf 68 = 1 := by kernel_rfl
    have key : ∀ i, i ≤ n → ∃ (vs : List Value) (ls : List (List Int)), vs.length = i ∧ RowsOf .u8 W vs ls ∧ (∀ r ∈ ls, ∀ y ∈ r, 0 ≤ y ∧ y ≤ 255) ∧ ∀ q u, vs[q]? = some u → W.cell? (a.add q) = some u := by
      intro i
      induction i with
      | zero => intro _; exact ⟨[], [], rfl, RowsOf.nil_, by simp, by simp⟩
      | succ i ih =>
        intro hi
        obtain ⟨vs, ls, h1, h2, h3, h4⟩ := ih (by omega)
        obtain ⟨cs', hc', ht'⟩ := hel i (by omega)
        rw [hC, Nat.mul_one] at hc'
        obtain ⟨v, l, rfl, hv, hb⟩ := open_byterow ht'
        obtain ⟨_, hcl, hat⟩ := World.cells?_some hc'
        refine ⟨vs ++ [v], ls ++ [l], by simp [h1], h2.snoc hv, fun r hr => ?_, fun q u hq => ?_⟩
        · rcases List.mem_append.1 hr with hr | hr
          · exact h3 r hr
          · rw [List.mem_singleton.1 hr]; exact hb
        · rcases Nat.lt_or_ge q i with h5 | h5
          · rw [List.getElem?_append_left (by omega)] at hq
            exact h4 q u hq
          · have hq2 := (List.getElem?_eq_some_iff.1 hq).1
            simp [h1] at hq2
            have hqi : q = i := by omega
            subst hqi
            rw [List.getElem?_append_right (by omega), h1, Nat.sub_self] at hq
            simp at hq
            subst hq
            have := hat 0 (by omega)
            rw [add_of_add, Nat.add_zero] at this
            rw [this]
            rfl
    obtain ⟨vs, ls, h1, h2, h3, h4⟩ := key n (Nat.le_refl _)
    refine ⟨some a, n, c, ls, hcs, ⟨vs, ⟨by omega, fun hn => ⟨a, rfl, ?_, h4⟩⟩, h2⟩, hl, by unfold maxLen at hm; omega, h3⟩
    have hq : vs[0]? = some (vs[0]'(by omega)) := List.getElem?_eq_getElem _
    have := h4 0 _ hq
    rw [add_zero] at this
    exact World.block_lt_of_cell? W a this
end

end Go.Proofs.YtgpkcooipadnpaaDoor
