/-
  Contracts of small functions of the words' law: Strands, Of, same, back, place. No conditions beyond bounds on lengths.
-/
import Derived.Test.YtkanbechahhmkaaDoorRows
import Derived.Test.YtkanbechahhmkaaDoorBase2
namespace Go.Proofs.YtkanbechahhmkaaDoor
set_option linter.unusedSimpArgs false
set_option linter.unusedVariables false
open Go.RowKit

theorem elemIntZ : ElemZ Tryd.prog 3 1 8 (.int .i64 0) := elemZ_of (by kernel_rfl) rfl (by omega) (by omega)
theorem elemU8Z : ElemZ Tryd.prog 5 1 1 (.int .u8 0) := elemZ_of (by kernel_rfl) rfl (by omega) (by omega)
theorem elemInt : Elem Tryd.prog 3 1 8 := elemIntZ.elem
theorem elemU8 : Elem Tryd.prog 5 1 1 := elemU8Z.elem

/-- The letter of a number: law.go's W.Of. -/
def letter (n : Int) (x : Int) : Int := if x % 2 = 1 then -(1 + x / 2 % (n - 1)) else 1 + x / 2 % (n - 1)
def wordOf (n : Int) (xs : List Int) : List Int := if 1 < n then (xs.take 24).map (letter n) else []

set_option maxHeartbeats 400000 in
theorem place_any (k : Int) (w : World) (h1 : -100 ≤ k) (h2 : k ≤ 100) :
    Calls Tryd.prog 27 #[.int .i64 k] w fun e w' => e = .returned (.tuple #[.int .i64 (if k < 0 then -k - 1 else k - 1), .int .i64 (if k < 0 then -1 else 1)]) ∧ w = w' := by
  by_cases h : k < 0
  · go_enter Tryd.func27, Tryd.ntmps27
    go_wp2
    go_ret2
    exact ⟨by simp, rfl⟩
  · go_enter Tryd.func27, Tryd.ntmps27
    go_wp2
    go_ret2
    exact ⟨by simp, rfl⟩

set_option maxHeartbeats 400000 in
theorem same_any (A B : Option Addr) (n m c d : Nat) (xs ys : List Int) (w : World) (ha : Ints .i64 w A n xs) (hb : Ints .i64 w B m ys) (hx : n < 1000000000) :
    Calls Tryd.prog 9 #[.slice A n c, .slice B m d] w fun e w' => e = .returned (.bool (decide (xs = ys))) ∧ ∃ n, w' = w.drewN n := by
  by_cases hl : n = m
  · subst hl
    go_enter Tryd.func9, Tryd.ntmps9
    go_wp2
    go_loopw [5] (fun i wr => ∃ k : Nat, k ≤ n ∧ i = .int .i64 k ∧ Hid (xs.take k = ys.take k) ∧ ∃ n, wr = w.drewN n) (fun i _ => n - (intOf i).toNat)
    case atStart => exact ⟨0, by omega, rfl, Lib.hid (by simp), 0, rfl⟩
    case round =>
      obtain ⟨k, hk, rfl, HE, q, rfl⟩ := hrel
      by_cases hlt : k < n
      · obtain ⟨a1, rfl, _, x, hxk, hc1⟩ := ha.at_ hlt
        obtain ⟨b1, rfl, _, y, hyk, hc2⟩ := hb.at_ hlt
        have HX := Lib.hid hxk; clear hxk
        have HY := Lib.hid hyk; clear hyk
        by_cases he : x = y
        · subst he
          have heb : (x != x) = false := by simp
          go_wp2_with fail
          go_quiet (fail)
          go_wp2
          go_roundw
          case rel => exact ⟨k + 1, by omega, by go_num, Lib.hid (by rw [List.take_add_one, List.take_add_one, HE.out, HX.out, HY.out]), _, rfl⟩
          case measure => simp [intOf]; omega
        · have heb : (x != y) = true := by simp [he]
          have HN := Lib.hid he; clear he
          go_wp2_with fail
          go_quiet (fail)
          go_wp2
          go_ret
          refine ⟨ret_bool ?_, (by first | exact ⟨_, rfl⟩ | exact ⟨_, World.drewN_drewN _ _ _⟩)⟩
          rw [eq_comm, decide_eq_false_iff_not]
          intro h
          have h1 := HX.out
          rw [h, HY.out] at h1
          injection h1 with h1
          exact HN.out h1.symm
      · go_wp2
        go_ret
        refine ⟨ret_bool ?_, q, rfl⟩
        rw [eq_comm, decide_eq_true_eq]
        have h1 := HE.out
        rwa [List.take_of_length_le (by have := ha.len; omega), List.take_of_length_le (by have := hb.len; omega)] at h1
  · have hlb : ((n : Int) != (m : Int)) = true := by simp; omega
    go_enter Tryd.func9, Tryd.ntmps9
    go_wp2
    go_ret
    refine ⟨ret_bool ?_, 0, rfl⟩
    rw [eq_comm, decide_eq_false_iff_not]
    intro h
    exact hl (by rw [← ha.len, ← hb.len, h])



set_option maxHeartbeats 400000 in
theorem of_any (A : Option Addr) (m c : Nat) (xs : List Int) (n : Int) (w : World) (h0 : 1 ≤ n) (h1 : n ≤ 255) (hx : Ints .u8 w A m xs) (hm : m ≤ 9223372036854775807) (hr : ∀ x ∈ xs, 0 ≤ x ∧ x ≤ 255) :
    Calls Tryd.prog 6 #[.slice A m c, .int .i64 n] w fun e w' => ∃ A' N c', e = .returned (.slice A' N c') ∧ Own w' w.heap.size 3 1 A' N c' (iv .i64 (wordOf n xs)) ∧ Below w.heap.size w w' := by
  have hlen := hx.len
  have HLEN := Lib.hid hlen; clear hlen
  by_cases hn : 1 < n
  · have HW : Hid (wordOf n xs = (xs.take 24).map (letter n)) := by simp [Hid, wordOf, hn]
    go_enter Tryd.func6, Tryd.ntmps6
    go_wp2
    go_loopw [5, 6] (fun v i wr => ∃ (k : Nat) (A' : Option Addr) (c' : Nat), k ≤ m ∧ k ≤ 24 ∧ i = .int .i64 k ∧ v = .slice A' k c' ∧ Own wr w.heap.size 3 1 A' k c' (iv .i64 ((xs.take k).map (letter n))) ∧ Below w.heap.size w wr) (fun _ i _ => 24 - (intOf i).toNat)
    case atStart => exact ⟨0, none, 0, by omega, by omega, rfl, rfl, Own.nil_, Below.refl _ _⟩
    case round =>
      obtain ⟨k, A', c', hk, hk24, rfl, rfl, hown, hbel⟩ := hrel
      have hB := hbel.size
      rcases Nat.lt_or_ge k m with hlt | hge
      · rcases Nat.lt_or_ge k 24 with hlt2 | hge2
        · obtain ⟨ad, rfl, hadl, x, hxk, hc0⟩ := hx.at_ hlt
          have hc := (hbel.cell (p := ad.add k) (by rw [block_of_add]; exact hadl)).trans hc0
          clear hc0
          have hxr := hr x (List.mem_of_getElem? hxk)
          have e1 : (iv .i64 ((xs.take k).map (letter n))) ++ [.int .i64 (letter n x)] = iv .i64 ((xs.take (k + 1)).map (letter n)) := by
            rw [List.take_add_one, hxk]; simp [iv]
          have H1 := Lib.hid e1; clear e1 hxk
          have hq := Int.emod_nonneg (x / 2) (b := n - 1) (by omega)
          have hq2 := Int.emod_lt_of_pos (x / 2) (b := n - 1) (by omega)
          by_cases hodd : x % 2 = 1
          · have HL : Hid (letter n x = -(1 + x / 2 % (n - 1))) := by simp [Hid, letter, hodd]
            have hob : (x % 2 == 1) = true := by simp [hodd]
            clear hodd
            go_wp2_with (at_builtin; go_must (refine wpList_app1 wr rfl (.tmp 40) (.tmp 42) 25 rfl w.heap.size 3 Tryd.underlying25 elemInt A' k c' _ rfl hown _ rfl rfl (by omega) hB ?_); intro A2 c2 w2 hown2 hg2 _)
            go_roundw
            case rel => exact ⟨k + 1, A2, c2, by omega, by omega, by go_num, rfl, by rw [← H1.out, HL.out]; exact hown2, hbel.trans (hown.belowG hg2 hB)⟩
            case measure => simp [intOf]; omega
          · have HL : Hid (letter n x = 1 + x / 2 % (n - 1)) := by simp [Hid, letter, hodd]
            have hob : (x % 2 == 1) = false := by simp [hodd]
            clear hodd
            go_wp2_with (at_builtin; go_must (refine wpList_app1 wr rfl (.tmp 40) (.tmp 42) 25 rfl w.heap.size 3 Tryd.underlying25 elemInt A' k c' _ rfl hown _ rfl rfl (by omega) hB ?_); intro A2 c2 w2 hown2 hg2 _)
            go_roundw
            case rel => exact ⟨k + 1, A2, c2, by omega, by omega, by go_num, rfl, by rw [← H1.out, HL.out]; exact hown2, hbel.trans (hown.belowG hg2 hB)⟩
            case measure => simp [intOf]; omega
        · go_wp2
          go_ret
          refine ⟨A', k, c', rfl, ?_, hbel⟩
          rw [HW.out, show (24 : Nat) = k by omega]
          exact hown
      · go_wp2
        go_ret
        refine ⟨A', k, c', rfl, ?_, hbel⟩
        rw [HW.out, List.take_of_length_le (by have := HLEN.out; omega)]
        rw [List.take_of_length_le (by have := HLEN.out; omega)] at hown
        exact hown
  · have HW : Hid (wordOf n xs = []) := by simp [Hid, wordOf, hn]
    go_enter Tryd.func6, Tryd.ntmps6
    go_wp2
    go_loopw [5, 6] (fun v i wr => i = .int .i64 0 ∧ v = .slice none 0 0 ∧ wr = w) (fun _ i _ => 0)
    case atStart => exact ⟨rfl, rfl, rfl⟩
    case round =>
      obtain ⟨rfl, rfl, rfl⟩ := hrel
      rcases Nat.eq_zero_or_pos m with h | h
      · have hm0 : decide ((0 : Int) < (m : Int)) = false := by simp [h]
        go_wp2
        go_ret
        exact ⟨none, 0, 0, rfl, by rw [HW.out]; exact Own.nil_, Below.refl _ _⟩
      · have hm0 : decide ((0 : Int) < (m : Int)) = true := by simp [h]
        go_wp2
        go_ret
        exact ⟨none, 0, 0, rfl, by rw [HW.out]; exact Own.nil_, Below.refl _ _⟩

end Go.Proofs.YtkanbechahhmkaaDoor
