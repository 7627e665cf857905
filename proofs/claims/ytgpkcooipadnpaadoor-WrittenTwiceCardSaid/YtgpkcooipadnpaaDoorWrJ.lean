/-
  The reference's Less and Valid. No conditions beyond the stitch's ranges.
-/
import Derived.Test.YtgpkcooipadnpaaDoorWrI
namespace Go.Proofs.YtgpkcooipadnpaaDoor
set_option linter.unusedSimpArgs false
set_option linter.unusedVariables false
open Go.RowKit
open Go.Op (bytesLess)
set_option maxRecDepth 100000

def lessL (a b : List UInt8) : Int := if a.length < b.length ∨ (a.length = b.length ∧ bytesLess a b = true) then 1 else 0
theorem less_any (a b : ByteArray) (w : World) :
    Calls Tryd.prog 13 #[.string a, .string b] w fun e w' => e = .returned (.int .i64 (lessL a.data.toList b.data.toList)) ∧ w' = w := by
  have HX := Lib.hid (show lessL a.data.toList b.data.toList = if a.data.toList.length < b.data.toList.length ∨ (a.data.toList.length = b.data.toList.length ∧ bytesLess a.data.toList b.data.toList = true) then 1 else 0 from rfl)
  have hla : a.data.toList.length = a.size := by simp
  have hlb : b.data.toList.length = b.size := by simp
  rw [hla, hlb] at HX
  clear hla hlb
  by_cases h2 : a.size < b.size
  · have hb2 : decide ((a.size : Int) < (b.size : Int)) = true := by simp; omega
    rw [if_pos (.inl h2)] at HX
    go_enter Tryd.func13, Tryd.ntmps13
    go_wp2_with fail
    go_ret
    rw [HX.out]
    exact ⟨rfl, rfl⟩
  · have hb2 : decide ((a.size : Int) < (b.size : Int)) = false := by simp; omega
    by_cases h3 : a.size = b.size
    · have hb3 : ((a.size : Int) == (b.size : Int)) = true := by rw [beq_iff_eq]; omega
      by_cases h4 : bytesLess a.data.toList b.data.toList = true
      · have hb4 : bytesLess a.toList b.toList = true := by rw [toL, toL]; exact h4
        rw [if_pos (.inr ⟨h3, h4⟩)] at HX
        clear h3 h4
        go_enter Tryd.func13, Tryd.ntmps13
        go_wp2_with fail
        go_ret
        rw [HX.out]
        exact ⟨rfl, rfl⟩
      · have hb4 : bytesLess a.toList b.toList = false := by rw [toL, toL]; simpa using h4
        rw [if_neg (fun h => h.elim h2 (fun h => h4 h.2))] at HX
        clear h3 h4
        go_enter Tryd.func13, Tryd.ntmps13
        go_wp2_with fail
        go_ret
        rw [HX.out]
        exact ⟨rfl, rfl⟩
    · have hb3 : ((a.size : Int) == (b.size : Int)) = false := by rw [beq_eq_false_iff_ne]; omega
      rw [if_neg (fun h => h.elim h2 (fun h => h3 h.1))] at HX
      clear h3
      go_enter Tryd.func13, Tryd.ntmps13
      go_wp2_with fail
      go_ret
      rw [HX.out]
      exact ⟨rfl, rfl⟩

def validI (x : St) : Int := if x.valid then 1 else 0
theorem validI_no {x : St} (h : x.valid = false) : validI x = 0 := by unfold validI; rw [h]; rfl
theorem validI_yes {x : St} (h : x.valid = true) : validI x = 1 := by unfold validI; rw [h]; rfl
theorem St.no {x : St} (h : ¬ (1 ≤ x.kind ∧ x.kind ≤ 8 ∧ 1 ≤ x.yarn ∧ x.yarn ≤ 6)) : x.valid = false := by
  unfold St.valid
  rw [decide_eq_false h, Bool.false_and]
theorem St.eight {x : St} (h : 1 ≤ x.yarn ∧ x.yarn ≤ 6) (h8 : x.kind = 8) : x.valid = decide (1 ≤ x.a ∧ 1 ≤ x.b ∧ x.a + x.b ≤ 4) := by
  unfold St.valid
  rw [if_pos h8, decide_eq_true (by omega), Bool.true_and]
theorem St.other {x : St} (h : 1 ≤ x.yarn ∧ x.yarn ≤ 6) (h1 : 1 ≤ x.kind) (h8 : x.kind ≤ 7) : x.valid = (decide (x.a = 0 ∧ x.b = 0) && !x.front) := by
  unfold St.valid
  rw [if_neg (by omega), decide_eq_true (by omega), Bool.true_and]

set_option maxHeartbeats 4000000 in
theorem valid_any (x : St) (w : World) (hw : x.wf) :
    Calls Tryd.prog 7 #[x.val] w fun e w' => e = .returned (.int .i64 (validI x)) ∧ Below w.heap.size w w' := by
  obtain ⟨k, y, a, b, f⟩ := x
  obtain ⟨k0, k1, y0, y1, a0, a1, b0, b1⟩ := hw
  simp only at k0 k1 y0 y1 a0 a1 b0 b1
  have hbel0 : Below w.heap.size w (w.alloc (.cells #[.int .u8 k, .int .u8 y, .int .i64 a, .int .i64 b, .bool f] 29)) := (Below.refl _ _).alloc (Nat.le_refl _) _
  by_cases hy0 : y = 0
  · have hb : (y == 0) = true := by rw [hy0]; rfl
    have HX := Lib.hid (validI_no (St.no (x := ⟨k, y, a, b, f⟩) (by simp only; omega)))
    clear hy0
    go_enter Tryd.func7, Tryd.ntmps7
    go_wp2_with fail
    go_ret
    rw [HX.out]
    exact ⟨rfl, hbel0⟩
  have hyb : (y == 0) = false := by rw [beq_eq_false_iff_ne]; exact hy0
  by_cases hy6 : 6 < y
  · have hb : decide (6 < y) = true := decide_eq_true hy6
    have HX := Lib.hid (validI_no (St.no (x := ⟨k, y, a, b, f⟩) (by simp only; omega)))
    go_enter Tryd.func7, Tryd.ntmps7
    go_wp2_with fail
    go_ret
    rw [HX.out]
    exact ⟨rfl, hbel0⟩
  have hyb6 : decide (6 < y) = false := decide_eq_false hy6
  by_cases hk0 : k = 0
  · have hb : (k == 0) = true := by rw [hk0]; rfl
    have HX := Lib.hid (validI_no (St.no (x := ⟨k, y, a, b, f⟩) (by simp only; omega)))
    clear hk0
    go_enter Tryd.func7, Tryd.ntmps7
    go_wp2_with fail
    go_ret
    rw [HX.out]
    exact ⟨rfl, hbel0⟩
  have hkb : (k == 0) = false := by rw [beq_eq_false_iff_ne]; exact hk0
  by_cases hk8 : 8 < k
  · have hb : decide (8 < k) = true := decide_eq_true hk8
    have HX := Lib.hid (validI_no (St.no (x := ⟨k, y, a, b, f⟩) (by simp only; omega)))
    go_enter Tryd.func7, Tryd.ntmps7
    go_wp2_with fail
    go_ret
    rw [HX.out]
    exact ⟨rfl, hbel0⟩
  have hkb8 : decide (8 < k) = false := decide_eq_false hk8
  by_cases hk : k = 8
  · subst hk
    have HX := Lib.hid (St.eight (x := ⟨8, y, a, b, f⟩) (by simp only; omega) rfl)
    simp only at HX
    go_enter Tryd.func7, Tryd.ntmps7
    go_wp2_with fail
    go_loopg [3] 3 (fun r v wr => ∃ a1 : Nat, 1 ≤ a1 ∧ a1 ≤ 4 ∧ v = .int .i64 a1 ∧ r = 4 - a1 ∧ Hid (∀ a' b' : Nat, 1 ≤ a' → a' < a1 → 1 ≤ b' → a' + b' ≤ 4 → ¬ (a = a' ∧ b = b')) ∧ wr = w.alloc (.cells #[.int .u8 8, .int .u8 y, .int .i64 a, .int .i64 b, .bool f] 29))
    case atStart => exact ⟨1, by omega, by omega, rfl, rfl, Lib.hid (fun a' b' h1 h2 => by omega), rfl⟩
    case round =>
      obtain ⟨a1, h1, h4, rfl, hr, HA, rfl⟩ := hrel
      rcases Nat.lt_or_ge a1 4 with hlt | hge
      · have hab : decide ((a1 : Int) < 4) = true := by simp; omega
        go_wp2_with fail
        go_loopg [4] (4 - a1) (fun r v wr => ∃ b1 : Nat, 1 ≤ b1 ∧ b1 ≤ 5 - a1 ∧ v = .int .i64 b1 ∧ r = 5 - a1 - b1 ∧ Hid (∀ b' : Nat, 1 ≤ b' → b' < b1 → ¬ (a = a1 ∧ b = b')) ∧ wr = w.alloc (.cells #[.int .u8 8, .int .u8 y, .int .i64 a, .int .i64 b, .bool f] 29))
        case atStart => exact ⟨1, by omega, by omega, rfl, by omega, Lib.hid (fun b' h1 h2 => by omega), rfl⟩
        case round =>
          obtain ⟨b1, g1, g4, rfl, hr2, HB, rfl⟩ := hrel
          rcases Nat.lt_or_ge 4 (a1 + b1) with hgt | hle
          · have hbb : decide ((a1 : Int) + (b1 : Int) ≤ 4) = false := by simp; omega
            go_wp2_with fail
            go_roundg (4 - a1 - 1)
            case measure => omega
            case rel =>
              refine ⟨a1 + 1, by omega, by omega, by go_num, by omega, Lib.hid (fun a' b' q1 q2 q3 q4 => ?_), rfl⟩
              rcases Nat.lt_or_ge a' a1 with h | h
              · exact HA.out a' b' q1 h q3 q4
              · obtain rfl : a' = a1 := by omega
                exact HB.out b' q3 (by omega)
          · have hbb : decide ((a1 : Int) + (b1 : Int) ≤ 4) = true := by simp; omega
            by_cases hea : a = (a1 : Int)
            · have hea2 : (a == (a1 : Int)) = true := beq_iff_eq.2 hea
              by_cases heb : b = (b1 : Int)
              · have heb2 : (b == (b1 : Int)) = true := beq_iff_eq.2 heb
                have HY := Lib.hid (validI_yes (x := ⟨8, y, a, b, f⟩) (by rw [HX.out]; exact decide_eq_true (by omega)))
                clear hea heb
                go_wp2_with fail
                go_ret
                rw [HY.out]
                exact ⟨rfl, hbel0⟩
              · have heb2 : (b == (b1 : Int)) = false := beq_eq_false_iff_ne.2 heb
                have HE := Lib.hid heb
                clear hea heb
                go_wp2_with fail
                go_roundg (5 - a1 - b1 - 1)
                case measure => omega
                case rel =>
                  refine ⟨b1 + 1, by omega, by omega, by go_num, by omega, Lib.hid (fun b' q1 q2 => ?_), rfl⟩
                  rcases Nat.lt_or_ge b' b1 with h | h
                  · exact HB.out b' q1 h
                  · obtain rfl : b' = b1 := by omega
                    exact fun h => HE.out h.2
            · have hea2 : (a == (a1 : Int)) = false := beq_eq_false_iff_ne.2 hea
              have HE := Lib.hid hea
              clear hea
              go_wp2_with fail
              go_roundg (5 - a1 - b1 - 1)
              case measure => omega
              case rel => exact ⟨b1 + 1, by omega, by omega, by go_num, by omega, Lib.hid (fun b' q1 q2 h => HE.out h.1), rfl⟩
      · have hab : decide ((a1 : Int) < 4) = false := by simp; omega
        have HY := Lib.hid (validI_no (x := ⟨8, y, a, b, f⟩) (by
          rw [HX.out]
          refine decide_eq_false (fun h => ?_)
          exact HA.out a.toNat b.toNat (by omega) (by omega) (by omega) (by omega) ⟨by omega, by omega⟩))
        go_wp2_with fail
        go_ret
        rw [HY.out]
        exact ⟨rfl, hbel0⟩
  · have hke : (k == 8) = false := by rw [beq_eq_false_iff_ne]; exact hk
    have HX := Lib.hid (St.other (x := ⟨k, y, a, b, f⟩) (by simp only; omega) (by simp only; omega) (by simp only; omega))
    simp only at HX
    by_cases ha : a = 0
    · have hab : (a != 0) = false := by rw [ha]; rfl
      by_cases hbz : b = 0
      · have hbb : (b != 0) = false := by rw [hbz]; rfl
        cases f with
        | true =>
          have HY := Lib.hid (validI_no (x := ⟨k, y, a, b, true⟩) (by rw [HX.out]; simp))
          clear ha hbz
          go_enter Tryd.func7, Tryd.ntmps7
          go_wp2_with fail
          go_ret
          rw [HY.out]
          exact ⟨rfl, hbel0⟩
        | false =>
          have HY := Lib.hid (validI_yes (x := ⟨k, y, a, b, false⟩) (by rw [HX.out, ha, hbz]; rfl))
          clear ha hbz
          go_enter Tryd.func7, Tryd.ntmps7
          go_wp2_with fail
          go_ret
          rw [HY.out]
          exact ⟨rfl, hbel0⟩
      · have hbb : (b != 0) = true := by rw [bne_iff_ne]; exact hbz
        have HY := Lib.hid (validI_no (x := ⟨k, y, a, b, f⟩) (by rw [HX.out, decide_eq_false (fun h => hbz h.2)]; rfl))
        clear ha
        go_enter Tryd.func7, Tryd.ntmps7
        go_wp2_with fail
        go_ret
        rw [HY.out]
        exact ⟨rfl, hbel0⟩
    · have hab : (a != 0) = true := by rw [bne_iff_ne]; exact ha
      have HY := Lib.hid (validI_no (x := ⟨k, y, a, b, f⟩) (by rw [HX.out, decide_eq_false (fun h => ha h.1)]; rfl))
      go_enter Tryd.func7, Tryd.ntmps7
      go_wp2_with fail
      go_ret
      rw [HY.out]
      exact ⟨rfl, hbel0⟩

end Go.Proofs.YtgpkcooipadnpaaDoor
