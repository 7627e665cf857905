/-
  The walk of the law WordsLong: whatever the two numbers, it returns true. Condition: strconv's variables hold what their initialisers lay (Vars).
-/
import Derived.Test.YtkanbechahhmkaaDoorLawText
namespace Go.Proofs.YtkanbechahhmkaaDoor
set_option linter.unusedSimpArgs false
set_option linter.unusedVariables false
open Go.RowKit
set_option maxRecDepth 100000

theorem stk_rep {X : Int} (h : 0 < X) (k : Nat) : ∀ j : Nat, stk (List.replicate j X) (List.replicate k X) = List.replicate (j + k) X := by
  induction k with
  | zero => intro j; rfl
  | succ k ih =>
    intro j
    have e : stp (List.replicate j X) X = List.replicate (j + 1) X := by
      cases j with
      | zero => rfl
      | succ j => rw [List.replicate_succ, stp_cons, if_neg (by omega)]; rfl
    rw [List.replicate_succ (n := k), stk, List.foldl_cons, e]
    have := ih (j + 1)
    unfold stk at this
    rw [this, Nat.add_assoc, Nat.add_comm 1 k]
theorem reduceL_rep {X : Int} (h : 0 < X) (k : Nat) : reduceL (List.replicate k X) = List.replicate k X := by
  rw [reduceL_eq]
  have := stk_rep h k 0
  rw [List.replicate_zero, Nat.zero_add] at this
  rw [this, List.reverse_replicate]
theorem sumL_rep {X : Int} (h : 0 < X) (k : Nat) : sumL (List.replicate k X) = k := by
  have h2 : ¬ X < 0 := by omega
  induction k with
  | zero => rfl
  | succ k ih => rw [List.replicate_succ', sumL_snoc, ih]; simp [signOf, h2]
theorem join_rep (t : List UInt8) : ∀ k : Nat, 1 ≤ k → Lib.join (List.replicate (k + 1) t) [32] = Lib.join (List.replicate k t) [32] ++ 32 :: t
  | 0, h => by omega
  | 1, _ => by
    show Lib.join [t, t] [32] = Lib.join [t] [32] ++ 32 :: t
    rw [join_cons2, Lib.join_one]
  | k + 2, _ => by
    have ih := join_rep t (k + 1) (by omega)
    have e1 : Lib.join (List.replicate (k + 2 + 1) t) [32] = t ++ 32 :: Lib.join (List.replicate (k + 1 + 1) t) [32] := join_cons2 t t (List.replicate (k + 1) t)
    have e2 : Lib.join (List.replicate (k + 2) t) [32] = t ++ 32 :: Lib.join (List.replicate (k + 1) t) [32] := join_cons2 t t (List.replicate k t)
    have e3 := congrArg (· ++ 32 :: t) (e2.symm.trans ih)
    rw [e1, ih]
    simpa using e3

theorem ba_append (a b : ByteArray) : (a ++ b).data.toList = a.data.toList ++ b.data.toList := by simp [ByteArray.data_append]

theorem reduce_long (n : Int) (A : Option Addr) (m c : Nat) (l : List Int) (w : World) (hl : Ints .i64 w A m l) (hm : m ≤ 1000) (hm2 : 64 < m) (hn : 1 ≤ n) (hn2 : n ≤ 8) :
    Calls Tryd.prog 11 #[.int .i64 n, .slice A m c] w fun e w' => e = .returned (.tuple #[.slice none 0 0, .int .i64 3]) ∧ Below w.heap.size w w' := by
  have hz : checkOf n l = 3 := by
    have := hl.len
    unfold checkOf
    rw [if_pos (by omega)]
  have HC := Lib.hid (hz ▸ check_any n A m c l w hl (by omega) hn hn2)
  clear hz
  go_enter Tryd.func11, Tryd.ntmps11
  go_wp2_with fail
  refine HC.out.mono ?_
  rintro e w1 ⟨rfl, hb⟩
  go_wp2
  go_ret2
  exact ⟨rfl, hb⟩

set_option maxHeartbeats 4000000 in
theorem law_long (n0 L : Int) (w : World) (h0 : 0 ≤ n0) (h1 : n0 ≤ 255) (hL0 : 0 ≤ L) (hL1 : L ≤ 255) (hV : Vars w) :
    Calls Tryd.prog 4 #[.int .u8 n0, .int .u8 L] w fun e w' => e = .returned (.bool true) ∧ Below w.heap.size w w' := by
  have HV := Lib.hid hV
  clear hV
  have hq0 := Int.emod_nonneg n0 (b := 7) (by omega)
  have hq1 := Int.emod_lt_of_pos n0 (b := 7) (by omega)
  obtain ⟨m, hm⟩ : ∃ m : Int, m = 2 + n0 % 7 := ⟨_, rfl⟩
  have hr0 := Int.emod_nonneg L (b := m - 1) (by omega)
  have hr1 := Int.emod_lt_of_pos L (b := m - 1) (by omega)
  have hm2 : 2 ≤ m := by omega
  have hm8 : m ≤ 8 := by omega
  have HM := Lib.hid hm
  clear hm
  obtain ⟨X, hX⟩ : ∃ X : Int, X = 1 + L % (m - 1) := ⟨_, rfl⟩
  have hX1 : 1 ≤ X := by omega
  have hX2 : X < m := by omega
  have HX := Lib.hid hX
  clear hX
  go_enter Tryd.func4, Tryd.ntmps4
  go_wp2_with fail
  rw [← HM.out]
  go_loopw [6] (fun v wr => ∃ (k : Nat) (A : Option Addr) (c : Nat), k ≤ 64 ∧ v = .slice A k c ∧ Own wr w.heap.size 3 1 A k c (iv .i64 (List.replicate k X)) ∧ Below w.heap.size w wr) (fun v _ => match v with | .slice _ k _ => 64 - k | _ => 0)
  case atStart => exact ⟨0, none, 0, by omega, rfl, Own.nil_, Below.refl _ _⟩
  case round =>
    obtain ⟨k, A, c, hk, rfl, hown, hbel⟩ := hrel
    rcases Nat.lt_or_ge k 64 with hlt | hge
    · go_wp2_with (at_builtin; go_must (refine wpList_app1 wr rfl (.tmp 27) (.tmp 34) 25 rfl w.heap.size 3 Tryd.underlying25 elemInt A k c _ rfl hown _ rfl rfl (by omega) hbel.size ?_); intro A2 c2 w2 hown2 hg2 _)
      go_roundw
      case rel => exact ⟨k + 1, A2, c2, by omega, rfl, by rw [List.replicate_succ', iv_append]; rw [← HX.out] at hown2; exact hown2, hbel.trans (hown.belowG hg2 hbel.size)⟩
      case measure => simp; omega
    · obtain rfl : k = 64 := by omega
      have HWD : Hid (Wd m (List.replicate 64 X)) := Lib.hid ⟨by simp, fun x hx => by have := List.eq_of_mem_replicate hx; omega⟩
      have HWD8 : Hid (Wd 8 (List.replicate 64 X)) := Lib.hid ⟨by simp, fun x hx => by have := List.eq_of_mem_replicate hx; omega⟩
      have HWL : Hid ((List.replicate 64 X ++ [1]).length = 65 ∧ ∀ x ∈ List.replicate 64 X ++ [1], x ≠ 0 ∧ -8 < x ∧ x < 8) := Lib.hid ⟨by simp, fun x hx => by
        rcases List.mem_append.1 hx with hx | hx
        · have := List.eq_of_mem_replicate hx; omega
        · simp at hx; omega⟩
      have HR := Lib.hid (reduceL_rep (X := X) (by omega) 64)
      have HS := Lib.hid (sumL_rep (X := X) (by omega) 64)
      have HTX : Hid (textL (List.replicate 64 X) = Lib.join (List.replicate 64 (Lib.itoa X)) [32]) := Lib.hid (by
        unfold textL
        rw [if_neg (by simp [List.replicate_succ]), List.map_replicate])
      have hi := hown.ints
      have hcap := hown.cap
      have hB := hbel
      generalize hl : List.replicate 64 X = l at *
      have HLL := Lib.hid hl
      clear hl hbel hown
      go_wp2_with fail
      refine (reduce_any m A 64 c l wr hi hcap.1 hcap.2 (by omega) hm8 HWD.out).mono ?_
      rintro e w2 ⟨A2, k2, rfl, h2, hq2⟩
      rw [HR.out] at h2
      replace hi := hi.below hq2
      replace hB := hB.trans (hq2.mono hB.size)
      clear hq2
      go_wp2_with fail
      refine (text_any A 64 c l w2 hi (by omega) HWD8.out.r1000 (HV.out.below hB)).mono ?_
      rintro e w3 ⟨rfl, hq3⟩
      replace hi := hi.below hq3
      replace h2 := h2.below hq3
      replace hB := hB.trans (hq3.mono hB.size)
      clear hq3
      have htl := textL_le HWD8.out.1 HWD8.out.r1000
      go_wp2_with fail
      refine (parse_yes ⟨(textL l).toArray⟩ w3 (by rw [size_mk]; omega) (HV.out.below hB) (parse_text HWD8.out.r8 HWD8.out.1)).mono ?_
      rintro e w4 ⟨A4, n4, rfl, h4, HN4, hq4⟩
      replace hi := hi.below hq4
      replace h2 := h2.below hq4
      replace hB := hB.trans (hq4.mono hB.size)
      clear hq4 htl
      go_wp2_with fail
      refine (sum_any m A 64 c l w4 hi (by omega) hm8 HWD.out).mono ?_
      rintro e w5 ⟨rfl, hq5⟩
      rw [HS.out]
      replace hi := hi.below hq5
      replace h2 := h2.below hq5
      replace h4 := h4.below hq5
      replace hB := hB.trans (hq5.mono hB.size)
      clear hq5
      go_wp2_with (first
        | (at_builtin; refine wpList_app0 w5 rfl (.tmp 54) (.tmp 55) 25 rfl 3 Tryd.underlying25 elemInt rfl A 64 c _ rfl hi (iv_one _ _) (by omega) ?_; intro A6 c6 w6 hown6 hq6)
        | (at_builtin; go_must (refine wpList_app1 w6 rfl (.tmp 56) (.tmp 57) 25 rfl w5.heap.size 3 Tryd.underlying25 elemInt A6 64 c6 _ rfl hown6 _ rfl rfl (by omega) hq6.size ?_); intro A7 c7 w7 hown7 hg7 _))
      have hq7 := hown6.belowG hg7 hq6.size
      have hq67 := hq6.trans hq7
      have h7 : Ints .i64 w7 A7 (64 + 1) (l ++ [1]) := by
        have := hown7.reads
        rwa [show iv .i64 l ++ [Value.int .i64 1] = iv .i64 (l ++ [1]) by simp [iv]] at this
      have hcap7 := hown7.cap
      replace hi := hi.below hq67
      replace h2 := h2.below hq67
      replace h4 := h4.below hq67
      replace hB := hB.trans (hq67.mono hB.size)
      clear hq6 hq7 hq67 hg7 hown6 hown7
      refine (reduce_long m A7 65 c7 _ w7 h7 (by omega) (by omega) (by omega) hm8).mono ?_
      rintro e w8 ⟨rfl, hq8⟩
      replace hi := hi.below hq8
      replace h2 := h2.below hq8
      replace h4 := h4.below hq8
      replace h7 := h7.below hq8
      replace hB := hB.trans (hq8.mono hB.size)
      clear hq8
      go_wp2_with fail
      have HW1000 : Hid (∀ x ∈ l ++ [1], -1000 ≤ x ∧ x ≤ 1000) := Lib.hid (fun x hx => by have := HWL.out.2 x hx; omega)
      refine (text_any A7 65 c7 _ w8 h7 (by omega) HW1000.out (HV.out.below hB)).mono ?_
      rintro e w9 ⟨rfl, hq9⟩
      replace hi := hi.below hq9
      replace h2 := h2.below hq9
      replace h4 := h4.below hq9
      replace hB := hB.trans (hq9.mono hB.size)
      clear hq9
      have htl := textL_le (Nat.le_of_eq HWL.out.1) HW1000.out
      go_wp2_with fail
      refine (parse_no ⟨(textL (l ++ [1])).toArray⟩ w9 (by rw [size_mk]; omega) (HV.out.below hB) (parse_long HWL.out.2 (by have := HWL.out.1; omega))).mono ?_
      rintro e w10 ⟨rfl, hq10⟩
      replace hi := hi.below hq10
      replace h2 := h2.below hq10
      replace h4 := h4.below hq10
      replace hB := hB.trans (hq10.mono hB.size)
      clear hq10 htl h7
      go_wp2_with fail
      have HB := Lib.hid hB
      clear hB
      go_loopw [18, 19] (fun p i wr => ∃ k : Nat, k ≤ 64 ∧ i = .int .i64 k ∧ (∃ P : ByteArray, p = .string P ∧ Hid (P.data.toList = Lib.join (List.replicate k (Lib.itoa X)) [32])) ∧ Below w10.heap.size w10 wr) (fun _ i _ => 64 - (intOf i).toNat)
      case atStart => exact ⟨0, by omega, rfl, ⟨_, rfl, Lib.hid rfl⟩, Below.refl _ _⟩
      case round =>
        obtain ⟨k, hk, rfl, ⟨P, rfl, HP⟩, hbel⟩ := hrel
        have hPs : P.size ≤ 22 * k := by
          rw [Lib.size_eq, HP.out]
          have := textL_length (l := List.replicate k X) (N := k) (by simp) (fun y hy => by have := List.eq_of_mem_replicate hy; omega)
          rwa [List.map_replicate] at this
        rcases Nat.lt_or_ge k 64 with hlt | hge
        · obtain ⟨ad, rfl, hadl, x, hxk, hc0⟩ := hi.at_ hlt
          have hxX : x = X := by
            rw [← HLL.out, List.getElem?_replicate_of_lt (by omega)] at hxk
            injection hxk with hxk; exact hxk.symm
          subst hxX
          have hc := (hbel.cell (p := ad.add k) (by rw [block_of_add]; exact hadl)).trans hc0
          clear hc0 hxk
          have hxl : (Lib.itoa x).length ≤ 21 := Lib.itoa_length_le x (by omega) (by omega)
          have hcat : ¬ 9223372036854775807 < P.size + (Lib.itoa x).length := by omega
          have hcat2 : ¬ 9223372036854775807 < P.size + 1 := by omega
          have hcat3 : ¬ 9223372036854775807 < P.size + 1 + (Lib.itoa x).length := by omega
          have HI := Lib.hid (itoa_any x wr (by omega) (by omega) (HV.out.below (HB.out.trans (hbel.mono HB.out.size))))
          rcases Nat.eq_zero_or_pos k with h0 | hpos
          · subst h0
            rw [add_zero] at hc
            go_wp2_with fail
            refine HI.out.mono ?_
            rintro e w12 ⟨rfl, hq12⟩
            go_wp2_with fail
            go_roundw
            case rel => exact ⟨1, by omega, by go_num, ⟨_, rfl, Lib.hid (by rw [ba_append, HP.out]; simp [Lib.join_nil, Lib.join_one])⟩, hbel.trans (hq12.mono hbel.size)⟩
            case measure => simp [intOf]
          · have hkb : decide (0 < (k : Int)) = true := by simp; omega
            go_wp2_with fail
            refine HI.out.mono ?_
            rintro e w12 ⟨rfl, hq12⟩
            go_wp2_with fail
            go_roundw
            case rel => exact ⟨k + 1, by omega, by go_num, ⟨_, rfl, Lib.hid (by rw [join_rep _ k hpos, ba_append, ba_append, HP.out]; simp)⟩, hbel.trans (hq12.mono hbel.size)⟩
            case measure => simp [intOf]; omega
        · obtain rfl : k = 64 := by omega
          have hP : P = ⟨(textL l).toArray⟩ := ba_eq (by rw [HP.out, HTX.out])
          have HPP := Lib.hid hP; clear hP
          have hi' := hi.below hbel
          have h2' := h2.below hbel
          have h4' := h4.below hbel
          replace HB := Lib.hid (HB.out.trans (hbel.mono HB.out.size))
          clear hi h2 h4 hbel
          have hk2 : k2 = 64 := by have := h2'.len; have := hi'.len; omega
          subst hk2
          go_wp2_with fail
          refine (same_eq A2 A 64 64 64 c l l wr h2' hi' (by omega) rfl).mono ?_
          rintro e w11 ⟨rfl, hq11⟩
          replace hi' := hi'.below hq11
          replace h4' := h4'.below hq11
          replace HB := Lib.hid (HB.out.trans (hq11.mono HB.out.size))
          clear hq11 h2'
          go_wp2_with fail
          refine (same_eq A4 A n4 64 n4 c l l w11 h4' hi' (by have := HN4.out; omega) rfl).mono ?_
          rintro e w12 ⟨rfl, hq12⟩
          replace hi' := hi'.below hq12
          replace HB := Lib.hid (HB.out.trans (hq12.mono HB.out.size))
          clear hq12 h4'
          go_wp2_with fail
          refine (text_any A 64 c l w12 hi' (by omega) HWD8.out.r1000 (HV.out.below HB.out)).mono ?_
          rintro e w13 ⟨rfl, hq13⟩
          replace HB := Lib.hid (HB.out.trans (hq13.mono HB.out.size))
          clear hq13
          have hPP : (textL l == P.toList) = true := by rw [HPP.out, toList_eq]; simp
          go_wp2_with fail
          refine (lives_any w13).mono ?_
          rintro e w14 ⟨rfl, hq14⟩
          replace HB := Lib.hid (HB.out.trans (hq14.mono HB.out.size))
          clear hq14
          go_wp2
          go_ret
          exact ⟨rfl, HB.out⟩

end Go.Proofs.YtkanbechahhmkaaDoor
