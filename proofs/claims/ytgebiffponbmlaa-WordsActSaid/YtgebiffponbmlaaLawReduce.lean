/-
  The law WordsReduce, walked: it returns true for every number and every slice of numbers. No conditions beyond what the row's reading gives.
-/
import Derived.Test.YtgebiffponbmlaaPlainA
namespace Go.Proofs.Ytgebiffponbmlaa
open Go.RowKit

theorem bounds_u8' {x : Int} (h : (Lit.int .u8 x).wf = true) : 0 ≤ x ∧ x ≤ 255 := by
  simp [Lit.wf, IntKind.min, IntKind.max, IntKind.signed, IntKind.bits] at h
  omega
/-- A row that came in reads as the list of its numbers. -/
theorem ints_of_cells {kd : IntKind} {w : World} {a : Addr} {len cap : Nat} {zs : List Int} (hl : len ≤ cap) (hz : zs.length = cap) (hc : ∀ i, i < zs.length → w.cell? (a.add i) = some (.int kd (zs.getD i 0))) :
    Ints kd w (some a) len (zs.take len) := by
  have h : Reads w w.heap.size 1 (some a) len (iv kd (zs.take len)) := by
    refine ⟨by rw [iv_length, List.length_take]; omega, fun hn => ⟨a, rfl, ?_, fun j u hu => ?_⟩⟩
    · have := hc 0 (by omega)
      rw [add_zero] at this
      exact World.block_lt_of_cell? w a this
    · have hj : j < len := by have := (List.getElem?_eq_some_iff.1 hu).1; rw [iv_length, List.length_take] at this; omega
      rw [hc j (by omega)]
      simp [iv, hj] at hu
      obtain ⟨x, hx, rfl⟩ := hu
      simp [hx]
  exact h

set_option maxRecDepth 100000 in
set_option maxHeartbeats 4000000 in
theorem law_reduce (n0 : Int) (A : Option Addr) (m c : Nat) (xs : List Int) (w : World) (h0 : 0 ≤ n0) (h1 : n0 ≤ 255) (hx : Ints .u8 w A m xs) (hm : m ≤ 9223372036854775807) (hr : ∀ x ∈ xs, 0 ≤ x ∧ x ≤ 255) :
    Calls Try.prog 3 #[.int .u8 n0, .slice A m c] w fun e w' => e = .returned (.bool true) ∧ Below w.heap.size w w' := by
  obtain ⟨n, hn⟩ : ∃ n : Int, n = 1 + n0 % 6 := ⟨_, rfl⟩
  have hn1 : 1 ≤ n := by omega
  have hn2 : n ≤ 6 := by omega
  have HN := Lib.hid hn
  clear hn
  have HX := Lib.hid hr
  clear hr
  go_enter Try.func3, Try.ntmps3
  go_wp2_with fail
  refine (strands_any n0 w h0 h1).mono ?_
  rintro e wz ⟨rfl, rfl⟩
  rw [← HN.out]
  go_wp2_with fail
  refine (of_any A m c xs n w hn1 (by omega) hx hm HX.out).mono ?_
  rintro e w1 ⟨A1, N, c1, rfl, hown1, hb1⟩
  have hwd := wordOf_wd hn1 xs HX.out
  have hl24 := wordOf_length n xs
  generalize wordOf n xs = l at *
  have hi := hown1.ints
  have hN : N ≤ 24 := by have := hi.len; omega
  have hcap := hown1.cap
  have HWD := Lib.hid hwd
  have hB := hb1
  clear hwd hb1 hown1 hl24
  go_wp2_with fail
  refine (reduce_any n A1 N c1 l w1 hi hcap.1 hcap.2 hn1 (by omega) HWD.out).mono ?_
  rintro e w2 ⟨A2, k2, rfl, h2, hq2⟩
  replace hi := hi.below hq2
  replace hB := hB.trans (hq2.mono hB.size)
  go_wp2_with fail
  refine (inverseW_any n A1 N c1 l w2 hi hn1 (by omega) HWD.out).mono ?_
  rintro e w3 ⟨A3, rfl, ho3, hq3⟩
  have h3 := ho3.ints
  replace hi := hi.below hq3
  replace h2 := h2.below hq3
  replace hB := hB.trans (hq3.mono hB.size)
  clear hq2 hq3 ho3
  have hr3 := h3
  go_wp2_with (first
    | (at_builtin; refine wpList_app0 w3 rfl (.tmp 38) (.tmp 39) 25 rfl 3 Try.underlying25 elemInt rfl A1 N c1 _ rfl hi (iv_one _ _) (by omega) ?_; intro A4 c4 w4 hown4 hq4; have hr4 := hr3.below hq4)
    | (at_builtin; refine wpList_appB _ rfl (.tmp 40) (.tmp 41) 25 rfl w3.heap.size 3 Try.underlying25 elemInt A4 N c4 _ rfl hown4 A3 N N _ rfl hr4 (iv_one _ _) (by omega) hq4.size ?_; intro A5 c5 w5 hown5 hq5))
  have hq35 := hq4.trans hq5
  have h5 : Ints .i64 w5 A5 (N + N) (l ++ inv l) := by
    have := hown5.reads
    rw [← iv_append] at this
    exact this
  have hcap5 := hown5.cap
  have hwd5 : Wd n (l ++ inv l) := by
    refine ⟨by have := HWD.out.1; have := hi.len; rw [List.length_append, inv_length]; omega, fun k hk => ?_⟩
    rcases List.mem_append.1 hk with h | h
    · exact HWD.out.2 k h
    · simp only [inv, List.mem_reverse, List.mem_map] at h
      obtain ⟨y, hy, rfl⟩ := h
      have := HWD.out.2 y hy
      omega
  replace hi := hi.below hq35
  replace h2 := h2.below hq35
  replace h3 := h3.below hq35
  replace hB := hB.trans (hq35.mono hB.size)
  clear hq4 hq5 hq35 hown4 hown5 hr3 hr4
  have HWD5 := Lib.hid hwd5
  clear hwd5
  refine (reduce_any n A5 (N + N) c5 (l ++ inv l) w5 h5 hcap5.1 hcap5.2 hn1 (by omega) HWD5.out).mono ?_
  rintro e w6 ⟨A6, k6, rfl, h6, hq6⟩
  have hk6 : k6 = 0 := by
    have := h6.len
    rw [reduceL_back] at this
    simpa using this.symm
  subst hk6
  replace hi := hi.below hq6
  replace h2 := h2.below hq6
  replace h3 := h3.below hq6
  replace hB := hB.trans (hq6.mono hB.size)
  clear hq6 h5 h6
  go_wp2_with fail
  refine (mirrorW_any n A1 N c1 l w6 hi hn1 (by omega) HWD.out).mono ?_
  rintro e w7 ⟨A7, rfl, ho7, hq7⟩
  have h7 := ho7.ints
  replace hi := hi.below hq7
  replace h2 := h2.below hq7
  replace h3 := h3.below hq7
  replace hB := hB.trans (hq7.mono hB.size)
  clear hq7 ho7
  go_wp2_with fail
  refine (flipW_any n A1 N c1 l w7 hi hn1 (by omega) HWD.out).mono ?_
  rintro e w8 ⟨A8, rfl, ho8, hq8⟩
  have h8 := ho8.ints
  replace hi := hi.below hq8
  replace h2 := h2.below hq8
  replace h3 := h3.below hq8
  replace h7 := h7.below hq8
  replace hB := hB.trans (hq8.mono hB.size)
  clear hq8 ho8
  go_wp2_with fail
  refine (reduced_any A1 N c1 l w8 hi (by omega) (HWD.out.small (by omega))).mono ?_
  rintro e w9 ⟨A9, k9, c9, rfl, h9, hc9, hd9, -, hq9⟩
  rw [redL_eq] at h9
  replace hi := hi.below hq9
  replace h2 := h2.below hq9
  replace h3 := h3.below hq9
  replace h7 := h7.below hq9
  replace h8 := h8.below hq9
  replace hB := hB.trans (hq9.mono hB.size)
  clear hq9
  have hk2 : k2 ≤ 24 := by have := h2.len; have := reduceL_length l; have := hi.len; omega
  go_wp2_with fail
  refine (same_eq A2 A9 k2 k9 _ _ _ _ w9 h2 h9 (by omega) rfl).mono ?_
  rintro e w10 ⟨rfl, hq10⟩
  replace hi := hi.below hq10
  replace h3 := h3.below hq10
  replace h7 := h7.below hq10
  replace h8 := h8.below hq10
  replace hB := hB.trans (hq10.mono hB.size)
  clear hq10 h2 h9
  have hmul : ((N : Int) + N + N != 3 * N) = false := by simp; omega
  have hlen := Lib.hid hi.len
  go_wp2_with fail
  go_loopw [17] (fun i wr => ∃ (k q : Nat), k ≤ N ∧ i = .int .i64 k ∧ Hid (wr = w10.drewN q)) (fun i _ => N - (intOf i).toNat)
  case atStart => exact ⟨0, 0, by omega, rfl, Lib.hid rfl⟩
  case round =>
    obtain ⟨k, q, hk, rfl, HQ⟩ := hrel
    rcases Nat.lt_or_ge k N with hlt | hge
    · have i1 : Ints .i64 wr A1 N l := by rw [HQ.out]; exact hi.drewN q
      have i3 : Ints .i64 wr A3 N (inv l) := by rw [HQ.out]; exact h3.drewN q
      have i7 : Ints .i64 wr A7 N (l.map (fun x => -x)) := by rw [HQ.out]; exact h7.drewN q
      have i8 : Ints .i64 wr A8 N (l.map (flipOf n)) := by rw [HQ.out]; exact h8.drewN q
      obtain ⟨a1, rfl, _, x, hx1, c1'⟩ := i1.at_ hlt
      obtain ⟨a3, rfl, _, y3, hx3, c3'⟩ := i3.at_ (k := N - 1 - k) (by omega)
      obtain ⟨a7, rfl, _, y7, hx7, c7'⟩ := i7.at_ hlt
      obtain ⟨a8, rfl, _, y8, hx8, c8'⟩ := i8.at_ hlt
      have e3 : y3 = -x := by
        have h : (inv l)[N - 1 - k]? = some (-x) := by
          unfold inv
          rw [List.getElem?_reverse (by simp; have := hlen.out; omega)]
          rw [List.length_map, hlen.out, show N - 1 - (N - 1 - k) = k by omega]
          simp [hx1]
        rw [h] at hx3
        injection hx3 with hx3
        exact hx3.symm
      have e7 : y7 = -x := by simp [hx1] at hx7; exact hx7.symm
      have e8 : y8 = flipOf n x := by simp [hx1] at hx8; exact hx8.symm
      have hxw := HWD.out.2 x (List.mem_of_getElem? hx1)
      have hnb : (-x != -x) = false := by simp
      subst e3
      subst e7
      clear hx1 hx3 hx7 hx8 i1 i3 i7 i8
      have hNk : (N : Int) - 1 - (k : Int) < (N : Int) := by omega
      have hNk2 : (0 : Int) ≤ (N : Int) - 1 - (k : Int) := by omega
      rcases (show 0 < x ∨ x < 0 by omega) with hx0 | hx0
      · have e9 : flipOf n x = n - x := by unfold flipOf; rw [if_neg (by omega)]
        rw [e8, e9] at c8'
        clear e8 e9
        have hnu : (n - x != n - x) = false := by simp
        go_wp2_with fail
        go_quiet (fail)
        go_wp2_with fail
        go_roundw
        case rel => exact ⟨k + 1, q + nq, by omega, by go_num, Lib.hid (by rw [HQ.out]; exact World.drewN_drewN _ _ _)⟩
        case measure => simp [intOf]; omega
      · have e9 : flipOf n x = -(n + x) := by unfold flipOf; rw [if_pos hx0]; omega
        rw [e8, e9] at c8'
        clear e8 e9
        have hnu : (-(n + x) != -(n + x)) = false := by simp
        go_wp2_with fail
        go_quiet (fail)
        go_wp2_with fail
        go_roundw
        case rel => exact ⟨k + 1, q + nq, by omega, by go_num, Lib.hid (by rw [HQ.out]; exact World.drewN_drewN _ _ _)⟩
        case measure => simp [intOf]; omega
    · have hbq : Below w.heap.size w wr := by rw [HQ.out]; exact below_drewN hB q
      go_wp2_with fail
      refine (lives_any wr).mono ?_
      rintro e w11 ⟨rfl, hq11⟩
      have hB2 := hbq.trans (hq11.mono hbq.size)
      go_wp2
      go_ret
      exact ⟨rfl, hB2⟩

end Go.Proofs.Ytgebiffponbmlaa
