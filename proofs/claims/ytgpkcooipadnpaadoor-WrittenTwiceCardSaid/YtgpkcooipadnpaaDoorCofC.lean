/-
  Contract of ganseylaw12.K.Of at cables. No conditions beyond those stated.
-/
import Derived.Test.YtgpkcooipadnpaaDoorCofB
namespace Go.Proofs.YtgpkcooipadnpaaDoor
set_option linter.unusedSimpArgs false
set_option linter.unusedVariables false
open Go.RowKit
set_option maxRecDepth 100000

/-- A valid cable of the yarn 1. -/
def KOut (e : Ending) : Prop := ∃ x : St, e = .returned x.val ∧ x.valid = true ∧ x.kind = 8

set_option maxHeartbeats 8000000 in
theorem kof_any (a : Int) (f : Bool) (w : World) (ha0 : 0 ≤ a) (ha : a ≤ 15) :
    Calls Tryd.prog 44 #[.agg #[.int .u8 7, .int .u8 0, .int .u8 a, .bool f]] w fun e w' => KOut e ∧ Below w.heap.size w w' := by
  have h6 : a % 6 = 0 ∨ a % 6 = 1 ∨ a % 6 = 2 ∨ a % 6 = 3 ∨ a % 6 = 4 ∨ a % 6 = 5 := by omega
  rcases h6 with h | h | h | h | h | h
  · go_enter Tryd.func44, Tryd.ntmps44
    go_wp2_with fail
    go_region
    go_wp2_with fail
    exact bodyPost_ret (v := St.val ⟨8, 1, 1, 1, f⟩) (by simp [results, Tryd.results44, go_sem]) rfl ⟨⟨⟨8, 1, 1, 1, f⟩, rfl, rfl, rfl⟩, (by repeat (first | exact Below.refl _ _ | refine Below.drew ?_ | refine Below.setCell ?_ (by simp; try omega) _ | refine Below.alloc ?_ (by simp; try omega) _))⟩
  · go_enter Tryd.func44, Tryd.ntmps44
    go_wp2_with fail
    go_region
    go_wp2_with fail
    exact bodyPost_ret (v := St.val ⟨8, 1, 1, 2, f⟩) (by simp [results, Tryd.results44, go_sem]) rfl ⟨⟨⟨8, 1, 1, 2, f⟩, rfl, rfl, rfl⟩, (by repeat (first | exact Below.refl _ _ | refine Below.drew ?_ | refine Below.setCell ?_ (by simp; try omega) _ | refine Below.alloc ?_ (by simp; try omega) _))⟩
  · go_enter Tryd.func44, Tryd.ntmps44
    go_wp2_with fail
    go_region
    go_wp2_with fail
    exact bodyPost_ret (v := St.val ⟨8, 1, 2, 1, f⟩) (by simp [results, Tryd.results44, go_sem]) rfl ⟨⟨⟨8, 1, 2, 1, f⟩, rfl, rfl, rfl⟩, (by repeat (first | exact Below.refl _ _ | refine Below.drew ?_ | refine Below.setCell ?_ (by simp; try omega) _ | refine Below.alloc ?_ (by simp; try omega) _))⟩
  · go_enter Tryd.func44, Tryd.ntmps44
    go_wp2_with fail
    go_region
    go_wp2_with fail
    exact bodyPost_ret (v := St.val ⟨8, 1, 2, 2, f⟩) (by simp [results, Tryd.results44, go_sem]) rfl ⟨⟨⟨8, 1, 2, 2, f⟩, rfl, rfl, rfl⟩, (by repeat (first | exact Below.refl _ _ | refine Below.drew ?_ | refine Below.setCell ?_ (by simp; try omega) _ | refine Below.alloc ?_ (by simp; try omega) _))⟩
  · go_enter Tryd.func44, Tryd.ntmps44
    go_wp2_with fail
    go_region
    go_wp2_with fail
    exact bodyPost_ret (v := St.val ⟨8, 1, 1, 3, f⟩) (by simp [results, Tryd.results44, go_sem]) rfl ⟨⟨⟨8, 1, 1, 3, f⟩, rfl, rfl, rfl⟩, (by repeat (first | exact Below.refl _ _ | refine Below.drew ?_ | refine Below.setCell ?_ (by simp; try omega) _ | refine Below.alloc ?_ (by simp; try omega) _))⟩
  · go_enter Tryd.func44, Tryd.ntmps44
    go_wp2_with fail
    go_region
    go_wp2_with fail
    exact bodyPost_ret (v := St.val ⟨8, 1, 3, 1, f⟩) (by simp [results, Tryd.results44, go_sem]) rfl ⟨⟨⟨8, 1, 3, 1, f⟩, rfl, rfl, rfl⟩, (by repeat (first | exact Below.refl _ _ | refine Below.drew ?_ | refine Below.setCell ?_ (by simp; try omega) _ | refine Below.alloc ?_ (by simp; try omega) _))⟩

end Go.Proofs.YtgpkcooipadnpaaDoor
