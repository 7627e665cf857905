/-
  Contracts of the reference's Needs, Makes and Loads, for valid stitches. No conditions beyond those stated.
-/
import Derived.Test.YtgpkcooipadnpaaDoorWrJ
namespace Go.Proofs.YtgpkcooipadnpaaDoor
set_option linter.unusedSimpArgs false
set_option linter.unusedVariables false
open Go.RowKit
set_option maxRecDepth 100000

def needsN (x : St) : Nat := if x.kind = 3 then 0 else if x.kind = 8 then (x.a + x.b).toNat else if x.kind = 4 ∨ x.kind = 5 then 2 else 1
def makesN (x : St) : Nat := if x.kind = 8 then (x.a + x.b).toNat else 1
theorem cable_sum {x : St} (h : x.valid = true) (h8 : x.kind = 8) : 1 ≤ x.a ∧ 1 ≤ x.b ∧ x.a + x.b ≤ 4 := by
  have hb := valid_bounds h
  have := St.eight (x := x) (by omega) h8
  rw [h] at this
  exact of_decide_eq_true this.symm
theorem needs_le {x : St} (h : x.valid = true) : needsN x ≤ 4 ∧ makesN x ≤ 4 ∧ 1 ≤ makesN x ∧ (x.kind ≠ 3 → 1 ≤ needsN x ∧ makesN x ≤ needsN x) := by
  unfold needsN makesN
  by_cases h8 : x.kind = 8
  · have := cable_sum h h8
    rw [if_neg (by omega), if_pos h8, if_pos h8]
    omega
  · rw [if_neg h8, if_neg h8]
    split <;> (try split) <;> omega

set_option maxHeartbeats 4000000 in
theorem needs_any (x : St) (w : World) (hv : x.valid = true) :
    Calls Tryd.prog 45 #[x.val] w fun e w' => e = .returned (.int .i64 (needsN x : Nat)) ∧ Below w.heap.size w w' := by
  have hwf := valid_wf hv
  have hc := fun h8 => cable_sum hv h8
  have HY := Lib.hid (validI_yes hv)
  obtain ⟨k, y, a, b, f⟩ := x
  simp only at hc
  have hbl : Blk (w.alloc (.cells #[.int .u8 k, .int .u8 y, .int .i64 a, .int .i64 b, .bool f] 29)) w.heap.size 29 [.int .u8 k, .int .u8 y, .int .i64 a, .int .i64 b, .bool f] := Blk.new w 29 [.int .u8 k, .int .u8 y, .int .i64 a, .int .i64 b, .bool f]
  have HB := Lib.hid hbl
  have HVV := Lib.hid (valid_any ⟨k, y, a, b, f⟩ (w.alloc (.cells #[.int .u8 k, .int .u8 y, .int .i64 a, .int .i64 b, .bool f] 29)) hwf)
  have hbel0 : Below w.heap.size w (w.alloc (.cells #[.int .u8 k, .int .u8 y, .int .i64 a, .int .i64 b, .bool f] 29)) := (Below.refl _ _).alloc (Nat.le_refl _) _
  clear hbl hv
  by_cases h3 : k = 3
  · have hb3 : (k == 3) = true := by rw [h3]; rfl
    have HX : Hid (needsN ⟨k, y, a, b, f⟩ = 0) := Lib.hid (if_pos h3)
    clear h3 hc hwf
    go_enter Tryd.func45, Tryd.ntmps45
    go_wp2_with fail
    refine HVV.out.mono ?_
    rintro e w1 ⟨rfl, hb1⟩
    rw [HY.out]
    have c0 := (HB.out.below hb1 HB.out.lt).cell 0
    simp only [List.getElem?_cons_zero] at c0
    go_wp2_with fail
    go_ret
    rw [HX.out]
    exact ⟨rfl, hbel0.trans (hb1.mono (by simp))⟩
  have hb3 : (k == 3) = false := by rw [beq_eq_false_iff_ne]; exact h3
  by_cases h8 : k = 8
  · have hb8 : (k == 8) = true := by rw [h8]; rfl
    have hs := hc h8
    have hab : ((a + b).toNat : Int) = a + b := by omega
    have HX : Hid (((needsN ⟨k, y, a, b, f⟩ : Nat) : Int) = a + b) := Lib.hid (by unfold needsN; rw [if_neg h3, if_pos h8]; exact hab)
    obtain ⟨s1, s2, s3⟩ := hs
    clear h8 h3 hc hwf hab
    go_enter Tryd.func45, Tryd.ntmps45
    go_wp2_with fail
    refine HVV.out.mono ?_
    rintro e w1 ⟨rfl, hb1⟩
    rw [HY.out]
    have hB1 := HB.out.below hb1 HB.out.lt
    have c0 := hB1.cell 0
    have c2 := hB1.cell 2
    have c3 := hB1.cell 3
    simp only [List.getElem?_cons_zero, List.getElem?_cons_succ] at c0 c2 c3
    go_wp2_with fail
    go_ret
    rw [HX.out]
    exact ⟨rfl, hbel0.trans (hb1.mono (by simp))⟩
  have hb8 : (k == 8) = false := by rw [beq_eq_false_iff_ne]; exact h8
  by_cases h4 : k = 4
  · have hb4 : (k == 4) = true := by rw [h4]; rfl
    have HX : Hid (needsN ⟨k, y, a, b, f⟩ = 2) := Lib.hid (by unfold needsN; rw [if_neg h3, if_neg h8, if_pos (.inl h4)])
    clear h4 h8 h3 hc hwf
    go_enter Tryd.func45, Tryd.ntmps45
    go_wp2_with fail
    refine HVV.out.mono ?_
    rintro e w1 ⟨rfl, hb1⟩
    rw [HY.out]
    have c0 := (HB.out.below hb1 HB.out.lt).cell 0
    simp only [List.getElem?_cons_zero] at c0
    go_wp2_with fail
    go_ret
    rw [HX.out]
    exact ⟨rfl, hbel0.trans (hb1.mono (by simp))⟩
  have hb4 : (k == 4) = false := by rw [beq_eq_false_iff_ne]; exact h4
  by_cases h5 : k = 5
  · have hb5 : (k == 5) = true := by rw [h5]; rfl
    have HX : Hid (needsN ⟨k, y, a, b, f⟩ = 2) := Lib.hid (by unfold needsN; rw [if_neg h3, if_neg h8, if_pos (.inr h5)])
    clear h5 h4 h8 h3 hc hwf
    go_enter Tryd.func45, Tryd.ntmps45
    go_wp2_with fail
    refine HVV.out.mono ?_
    rintro e w1 ⟨rfl, hb1⟩
    rw [HY.out]
    have c0 := (HB.out.below hb1 HB.out.lt).cell 0
    simp only [List.getElem?_cons_zero] at c0
    go_wp2_with fail
    go_ret
    rw [HX.out]
    exact ⟨rfl, hbel0.trans (hb1.mono (by simp))⟩
  have hb5 : (k == 5) = false := by rw [beq_eq_false_iff_ne]; exact h5
  have HX : Hid (needsN ⟨k, y, a, b, f⟩ = 1) := Lib.hid (by unfold needsN; rw [if_neg h3, if_neg h8, if_neg (by rintro (h | h); exact h4 h; exact h5 h)])
  clear h5 h4 h8 h3 hc hwf
  go_enter Tryd.func45, Tryd.ntmps45
  go_wp2_with fail
  refine HVV.out.mono ?_
  rintro e w1 ⟨rfl, hb1⟩
  rw [HY.out]
  have c0 := (HB.out.below hb1 HB.out.lt).cell 0
  simp only [List.getElem?_cons_zero] at c0
  go_wp2_with fail
  go_ret
  rw [HX.out]
  exact ⟨rfl, hbel0.trans (hb1.mono (by simp))⟩

set_option maxHeartbeats 4000000 in
theorem makes_any (x : St) (w : World) (hv : x.valid = true) :
    Calls Tryd.prog 52 #[x.val] w fun e w' => e = .returned (.int .i64 (makesN x : Nat)) ∧ Below w.heap.size w w' := by
  have hwf := valid_wf hv
  have hc := fun h8 => cable_sum hv h8
  have HY := Lib.hid (validI_yes hv)
  obtain ⟨k, y, a, b, f⟩ := x
  simp only at hc
  have hbl : Blk (w.alloc (.cells #[.int .u8 k, .int .u8 y, .int .i64 a, .int .i64 b, .bool f] 29)) w.heap.size 29 [.int .u8 k, .int .u8 y, .int .i64 a, .int .i64 b, .bool f] := Blk.new w 29 [.int .u8 k, .int .u8 y, .int .i64 a, .int .i64 b, .bool f]
  have HB := Lib.hid hbl
  have HVV := Lib.hid (valid_any ⟨k, y, a, b, f⟩ (w.alloc (.cells #[.int .u8 k, .int .u8 y, .int .i64 a, .int .i64 b, .bool f] 29)) hwf)
  have hbel0 : Below w.heap.size w (w.alloc (.cells #[.int .u8 k, .int .u8 y, .int .i64 a, .int .i64 b, .bool f] 29)) := (Below.refl _ _).alloc (Nat.le_refl _) _
  clear hbl hv
  by_cases h8 : k = 8
  · have hb8 : (k == 8) = true := by rw [h8]; rfl
    have hs := hc h8
    have hab : ((a + b).toNat : Int) = a + b := by omega
    have HX : Hid (((makesN ⟨k, y, a, b, f⟩ : Nat) : Int) = a + b) := Lib.hid (by unfold makesN; rw [if_pos h8]; exact hab)
    obtain ⟨s1, s2, s3⟩ := hs
    clear h8 hc hwf hab
    go_enter Tryd.func52, Tryd.ntmps52
    go_wp2_with fail
    refine HVV.out.mono ?_
    rintro e w1 ⟨rfl, hb1⟩
    rw [HY.out]
    have hB1 := HB.out.below hb1 HB.out.lt
    have c0 := hB1.cell 0
    have c2 := hB1.cell 2
    have c3 := hB1.cell 3
    simp only [List.getElem?_cons_zero, List.getElem?_cons_succ] at c0 c2 c3
    go_wp2_with fail
    go_ret
    rw [HX.out]
    exact ⟨rfl, hbel0.trans (hb1.mono (by simp))⟩
  have hb8 : (k == 8) = false := by rw [beq_eq_false_iff_ne]; exact h8
  have HX : Hid (makesN ⟨k, y, a, b, f⟩ = 1) := Lib.hid (if_neg h8)
  clear h8 hc hwf
  go_enter Tryd.func52, Tryd.ntmps52
  go_wp2_with fail
  refine HVV.out.mono ?_
  rintro e w1 ⟨rfl, hb1⟩
  rw [HY.out]
  have c0 := (HB.out.below hb1 HB.out.lt).cell 0
  simp only [List.getElem?_cons_zero] at c0
  go_wp2_with fail
  go_ret
  rw [HX.out]
  exact ⟨rfl, hbel0.trans (hb1.mono (by simp))⟩

end Go.Proofs.YtgpkcooipadnpaaDoor
