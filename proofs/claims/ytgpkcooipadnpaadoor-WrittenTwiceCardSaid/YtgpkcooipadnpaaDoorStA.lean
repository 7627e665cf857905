/-
  Contracts of the package stitches: Check, Text, Parse: every stitch, every text of at most 1000000 bytes. No conditions.
-/
import Derived.Test.YtgpkcooipadnpaaDoorVars
import Derived.Test.YtgpkcooipadnpaaDoorStPlain
namespace Go.Proofs.YtgpkcooipadnpaaDoor
set_option linter.unusedSimpArgs false
set_option linter.unusedVariables false
open Go.RowKit
set_option maxRecDepth 100000

/-- A stitch as a value, and as cells. -/
abbrev St.val (s : St) : Value := .agg #[.int .u8 s.kind, .int .u8 s.yarn, .int .i64 s.a, .int .i64 s.b, .bool s.front]
def St.cells (s : St) : List Value := [.int .u8 s.kind, .int .u8 s.yarn, .int .i64 s.a, .int .i64 s.b, .bool s.front]
def St.wf (s : St) : Prop := 0 ≤ s.kind ∧ s.kind ≤ 255 ∧ 0 ≤ s.yarn ∧ s.yarn ≤ 255 ∧ -9223372036854775808 ≤ s.a ∧ s.a ≤ 9223372036854775807 ∧ -9223372036854775808 ≤ s.b ∧ s.b ≤ 9223372036854775807

/-- What Check returns. -/
def St.err (s : St) : Int := if s.valid then 0 else 1

/-- Which test of Check a stitch fails. -/
theorem st_cases (k y a b : Int) (f : Bool) :
    (k < 1 ∧ (St.mk k y a b f).valid = false) ∨ (1 ≤ k ∧ 8 < k ∧ (St.mk k y a b f).valid = false) ∨ (1 ≤ k ∧ k ≤ 8 ∧ y < 1 ∧ (St.mk k y a b f).valid = false) ∨ (1 ≤ k ∧ k ≤ 8 ∧ 1 ≤ y ∧ 6 < y ∧ (St.mk k y a b f).valid = false) ∨
    (1 ≤ k ∧ k ≤ 8 ∧ 1 ≤ y ∧ y ≤ 6 ∧ (
      ((k == 8) = false ∧ (k != 8) = true ∧ (a != 0) = true ∧ (St.mk k y a b f).valid = false) ∨ ((k == 8) = false ∧ (k != 8) = true ∧ (a != 0) = false ∧ (b != 0) = true ∧ (St.mk k y a b f).valid = false) ∨
      ((k == 8) = false ∧ (k != 8) = true ∧ (a != 0) = false ∧ (b != 0) = false ∧ f = true ∧ (St.mk k y a b f).valid = false) ∨ ((k == 8) = false ∧ (k != 8) = true ∧ (a != 0) = false ∧ (b != 0) = false ∧ f = false ∧ (St.mk k y a b f).valid = true) ∨
      ((k == 8) = true ∧ (k != 8) = false ∧ a < 1 ∧ (St.mk k y a b f).valid = false) ∨ ((k == 8) = true ∧ (k != 8) = false ∧ 1 ≤ a ∧ b < 1 ∧ (St.mk k y a b f).valid = false) ∨ ((k == 8) = true ∧ (k != 8) = false ∧ 1 ≤ a ∧ 1 ≤ b ∧ 4 < a ∧ (St.mk k y a b f).valid = false) ∨
      ((k == 8) = true ∧ (k != 8) = false ∧ 1 ≤ a ∧ 1 ≤ b ∧ a ≤ 4 ∧ 4 < b ∧ (St.mk k y a b f).valid = false) ∨ ((k == 8) = true ∧ (k != 8) = false ∧ 1 ≤ a ∧ 1 ≤ b ∧ a ≤ 4 ∧ b ≤ 4 ∧ 4 < a + b ∧ (St.mk k y a b f).valid = false) ∨
      ((k == 8) = true ∧ (k != 8) = false ∧ 1 ≤ a ∧ 1 ≤ b ∧ a ≤ 4 ∧ b ≤ 4 ∧ a + b ≤ 4 ∧ (St.mk k y a b f).valid = true))) := by
  have hv : (St.mk k y a b f).valid = (decide (1 ≤ k ∧ k ≤ 8 ∧ 1 ≤ y ∧ y ≤ 6) && (if k = 8 then decide (1 ≤ a ∧ 1 ≤ b ∧ a + b ≤ 4) else decide (a = 0 ∧ b = 0) && !f)) := rfl
  rw [hv]
  by_cases c1 : k < 1
  · exact .inl ⟨c1, by rw [decide_eq_false (by omega)]; rfl⟩
  by_cases c2 : 8 < k
  · exact .inr (.inl ⟨by omega, c2, by rw [decide_eq_false (by omega)]; rfl⟩)
  by_cases c3 : y < 1
  · exact .inr (.inr (.inl ⟨by omega, by omega, c3, by rw [decide_eq_false (by omega)]; rfl⟩))
  by_cases c4 : 6 < y
  · exact .inr (.inr (.inr (.inl ⟨by omega, by omega, by omega, c4, by rw [decide_eq_false (by omega)]; rfl⟩)))
  refine .inr (.inr (.inr (.inr ⟨by omega, by omega, by omega, by omega, ?_⟩)))
  rw [decide_eq_true (by omega : 1 ≤ k ∧ k ≤ 8 ∧ 1 ≤ y ∧ y ≤ 6)]
  simp only [Bool.true_and]
  by_cases ck : k = 8
  · have hk : (k == 8) = true := by simp [ck]
    have hk2 : (k != 8) = false := by simp [ck]
    rw [if_pos ck, hk, hk2]
    simp only [Bool.true_eq_false, false_and, false_or, true_and, decide_eq_false_iff_not, decide_eq_true_eq]
    omega
  · have hk : (k == 8) = false := by simp [ck]
    have hk2 : (k != 8) = true := by simp [ck]
    rw [if_neg ck, hk, hk2]
    simp only [Bool.false_eq_true, false_and, or_false, true_and]
    by_cases ca : a = 0
    · subst ca
      by_cases cb : b = 0
      · subst cb
        cases f <;> simp
      · simp [cb]
    · simp [ca]

set_option maxHeartbeats 8000000 in
theorem stCheck_parts (k y a b : Int) (f : Bool) (w : World) (hw : (St.mk k y a b f).wf) :
    Calls Tryd.prog 17 #[.agg #[.int .u8 k, .int .u8 y, .int .i64 a, .int .i64 b, .bool f]] w fun e w' => e = .returned (.int .i64 (St.mk k y a b f).err) ∧ Below w.heap.size w w' := by
  obtain ⟨k0, k1, y0, y1, a0, a1, b0, b1⟩ := hw
  simp only at k0 k1 y0 y1 a0 a1 b0 b1
  rcases st_cases k y a b f with ⟨h1, hv⟩ | ⟨h1, h2, hv⟩ | ⟨h1, h2, h3, hv⟩ | ⟨h1, h2, h3, h4, hv⟩ | ⟨h1, h2, h3, h4, ⟨h5, h5b, h6, hv⟩ | ⟨h5, h5b, h6, h7, hv⟩ | ⟨h5, h5b, h6, h7, rfl, hv⟩ | ⟨h5, h5b, h6, h7, rfl, hv⟩ | ⟨h5, h5b, h6, hv⟩ | ⟨h5, h5b, h6, h7, hv⟩ | ⟨h5, h5b, h6, h7, h8, hv⟩ | ⟨h5, h5b, h6, h7, h8, h9, hv⟩ | ⟨h5, h5b, h6, h7, h8, h9, h10, hv⟩ | ⟨h5, h5b, h6, h7, h8, h9, h10, hv⟩⟩
  all_goals
    have HV := Lib.hid hv
    clear hv
    go_enter Tryd.func17, Tryd.ntmps17
    go_wp2_with fail
    go_ret
    exact ⟨ret_int (by unfold St.err; rw [HV.out]; rfl), (Below.refl _ _).alloc (Nat.le_refl _) _⟩

theorem stCheck_any (s : St) (w : World) (hw : s.wf) :
    Calls Tryd.prog 17 #[s.val] w fun e w' => e = .returned (.int .i64 s.err) ∧ Below w.heap.size w w' := stCheck_parts s.kind s.yarn s.a s.b s.front w hw
theorem stCheck_ok (s : St) (w : World) (hw : s.wf) (hv : s.valid = true) :
    Calls Tryd.prog 17 #[s.val] w fun e w' => e = .returned (.int .i64 0) ∧ Below w.heap.size w w' := (stCheck_any s w hw).mono fun _ _ ⟨h, hb⟩ => ⟨by rw [h, St.err, hv]; rfl, hb⟩
theorem stCheck_bad (s : St) (w : World) (hw : s.wf) (hv : s.valid = false) :
    Calls Tryd.prog 17 #[s.val] w fun e w' => e = .returned (.int .i64 1) ∧ Below w.heap.size w w' := (stCheck_any s w hw).mono fun _ _ ⟨h, hb⟩ => ⟨by rw [h, St.err, hv]; rfl, hb⟩

end Go.Proofs.YtgpkcooipadnpaaDoor
