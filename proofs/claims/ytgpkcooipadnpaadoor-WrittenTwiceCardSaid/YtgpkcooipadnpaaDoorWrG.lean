/-
  A map of the call's own whose keys are pairs of numbers and whose elements are texts: made, read, written. No conditions.
-/
import Derived.Test.YtgpkcooipadnpaaDoorWrF
import Derived.WideKeyPair
import Derived.Maps.StringElems
import Derived.Maps.Views
namespace Go.Proofs.YtgpkcooipadnpaaDoor
set_option linter.unusedSimpArgs false
set_option linter.unusedVariables false
open Go.RowKit
open Go.Maps (Keyed IsMap)
set_option maxRecDepth 100000

theorem arrB : Go.WideMaps.ArrKey Tryd.prog 54 3 2 := ⟨Tryd.underlying54, by kernel_rfl, by kernel_rfl, by kernel_rfl⟩
theorem keyedB : Keyed Tryd.prog 54 := Keyed.of_law arrB.law
def kl (i j : Nat) : Lit := .string (keyBytes [.int .i64 i, .int .i64 j])
theorem wf_nat {i : Nat} (h : i ≤ 1000) : (Lit.int .i64 (i : Int)).wf = true := by
  have e1 : IntKind.i64.min = -9223372036854775808 := rfl
  have e2 : IntKind.i64.max = 9223372036854775807 := rfl
  simp [Lit.wf, e1, e2]
  omega
theorem sizeB : ∃ m, Tryd.prog.types.size = m + 1 := by
  refine ⟨Tryd.prog.types.size - 1, ?_⟩
  have h : decide (0 < Tryd.prog.types.size) = true := by kernel_rfl
  have := of_decide_eq_true h
  omega
theorem key_of {i j : Nat} (hi : i ≤ 1000) (hj : j ≤ 1000) : keyOf Tryd.prog 54 (.agg #[.int .i64 i, .int .i64 j]) = some (kl i j) :=
  Go.WideMaps.keyOf_pair arrB Tryd.underlying3 sizeB (wf_nat hi) (wf_nat hj)
theorem kl_inj {i j i' j' : Nat} (hi : i ≤ 1000) (hj : j ≤ 1000) (hi' : i' ≤ 1000) (hj' : j' ≤ 1000) (h : kl i j = kl i' j') : i = i' ∧ j = j' := by
  injection h with h
  have := keyBytes_inj (l := [.int .i64 i, .int .i64 j]) (l' := [.int .i64 i', .int .i64 j']) ?_ ?_ ?_ h
  · injection this with h1 h2
    injection h2 with h2 _
    injection h1 with _ h1
    injection h2 with _ h2
    omega
  · exact ⟨rfl, rfl, trivial⟩
  · intro a ha
    simp at ha
    rcases ha with rfl | rfl
    · exact wf_nat hi
    · exact wf_nat hj
  · intro a ha
    simp at ha
    rcases ha with rfl | rfl
    · exact wf_nat hi'
    · exact wf_nat hj'

/-- The map at b holds the texts that T says. -/
def BMap (w : World) (b n : Nat) (T : Nat → Nat → List UInt8) : Prop :=
  ∃ D : DataW Unit, w.ownsMap Tryd.prog 54 (plainElem Tryd.prog 9) b n D ∧ IsMap D ∧ ∀ i j, i ≤ 1000 → j ≤ 1000 → D.atKey (kl i j) (.lit (.string [])) = .lit (.string (T i j))
section
variable {w w' : World} {b n : Nat} {T : Nat → Nat → List UInt8}
theorem BMap.lt (h : BMap w b n T) : b < w.heap.size := by
  obtain ⟨D, h1, _⟩ := h
  exact h1.lt
theorem BMap.made (w : World) : BMap (w.alloc (.map #[] 0)) w.heap.size 0 (fun _ _ => []) :=
  ⟨.map [], World.ownsMap_made w _ _ _, ⟨[], rfl⟩, fun _ _ _ _ => rfl⟩
theorem BMap.of_block (h : BMap w b n T) (hb : w'.heap[b]? = w.heap[b]?) : BMap w' b n T := by
  obtain ⟨D, ⟨es, clock, h1, F, hs, hD⟩, h2⟩ := h
  exact ⟨D, ⟨es, clock, hb.trans h1, F, hs, hD⟩, h2⟩
theorem BMap.below {B : Nat} (h : BMap w b n T) (hb : Below B w w') (hB : b < B) : BMap w' b n T := h.of_block (hb.block b hB)
theorem BMap.drewN (h : BMap w b n T) (q : Nat) : BMap (w.drewN q) b n T := h
theorem zeroS (w : World) : (zeroValue 9).run Tryd.prog w = .ok (.string ⟨#[]⟩) w := by
  have u := Tryd.underlying9
  have hz : Tryd.t9.zero = some (.string ⟨#[]⟩) := by kernel_rfl
  simp [zeroValue, go_sem, u, hz]
theorem BMap.lookup (h : BMap w b n T) {i j : Nat} (hi : i ≤ 1000) (hj : j ≤ 1000) :
    (Instr.lookup 51 (.map (some b)) (.agg #[.int .i64 i, .int .i64 j]) false).run Tryd.prog w = .ok (str (T i j)) w := by
  obtain ⟨D, h1, _, h2⟩ := h
  obtain ⟨v, ps, hrun, hv⟩ := h1.lookup keyedB Tryd.underlying51 (zeroS w) (plainElem_string Tryd.underlying9 (s := ⟨#[]⟩) (by show 0 ≤ _; omega)) (key_of hi hj)
  obtain ⟨s, rfl, hz, _⟩ := plainElem_string_inv Tryd.underlying9 hv
  injection hz with hz _
  have e := h2 i j hi hj
  rw [hrun]
  have e2 := hz.symm.trans e
  injection e2 with e2
  injection e2 with e2
  rw [st_str, e2]
def updT (T : Nat → Nat → List UInt8) (i j : Nat) (t : List UInt8) : Nat → Nat → List UInt8 := fun i' j' => if i' = i ∧ j' = j then t else T i' j'
theorem BMap.update (h : BMap w b n T) {i j : Nat} (hi : i ≤ 1000) (hj : j ≤ 1000) (hn : n ≤ 1000000) (t : List UInt8) (ht : t.length ≤ 1000000) :
    ∃ w', (Instr.mapUpdate 51 (.map (some b)) (.agg #[.int .i64 i, .int .i64 j]) (str t)).run Tryd.prog w = .ok () w' ∧ BMap w' b (n + 1) (updT T i j t) ∧ w.grownBy w' (some b) := by
  obtain ⟨D, h1, hm, h2⟩ := h
  obtain ⟨w', hrun, ho, hg⟩ := h1.update keyedB Tryd.underlying51 (by unfold maxLen; omega) (key_of hi hj) (plainElem_string Tryd.underlying9 (s := ⟨t.toArray⟩) (by
    show t.toArray.size ≤ maxLen
    unfold maxLen
    simp
    omega))
  refine ⟨w', hrun, ⟨_, ho, hm.put _ _, fun i' j' hi' hj' => ?_⟩, hg⟩
  unfold updT
  by_cases he : i' = i ∧ j' = j
  · rw [if_pos he, he.1, he.2, Maps.atKey_put_same hm (show WideAt.IsKeyLit (kl i j) from trivial)]
  · rw [if_neg he, Maps.atKey_put_other (fun e => he (kl_inj hi' hj' hi hj e))]
    exact h2 i' j' hi' hj'
end

end Go.Proofs.YtgpkcooipadnpaaDoor
