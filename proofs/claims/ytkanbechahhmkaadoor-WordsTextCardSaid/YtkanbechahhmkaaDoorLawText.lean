/-
  The walk of the law WordsText: whatever the word and the text, it returns true. Condition: strconv's variables hold what their initialisers lay (Vars).
-/
import Derived.Test.YtkanbechahhmkaaDoorTextC
import Derived.Test.YtkanbechahhmkaaDoorPlainA
namespace Go.Proofs.YtkanbechahhmkaaDoor
set_option linter.unusedSimpArgs false
set_option linter.unusedVariables false
open Go.RowKit
set_option maxRecDepth 100000

theorem parse_yes {l : List Int} (s : ByteArray) (w : World) (hs : s.size ≤ 100000) (hV : Vars w) (h : parseL s.data.toList = some l) :
    Calls Tryd.prog 7 #[.string s] w fun e w' => ∃ A n, e = .returned (.tuple #[.slice A n n, .int .i64 0]) ∧ Ints .i64 w' A n l ∧ Hid (n ≤ 64) ∧ Below w.heap.size w w' := by
  refine (parse_any s w hs hV).mono ?_
  rintro e w' ⟨hb, h1⟩
  rw [h] at h1
  obtain ⟨A, he, ho⟩ := h1
  exact ⟨A, _, he, ho.ints, Lib.hid (parse_range h).2, hb⟩
theorem parse_no (s : ByteArray) (w : World) (hs : s.size ≤ 100000) (hV : Vars w) (h : parseL s.data.toList = none) :
    Calls Tryd.prog 7 #[.string s] w fun e w' => e = .returned (.tuple #[.slice none 0 0, .int .i64 4]) ∧ Below w.heap.size w w' := by
  refine (parse_any s w hs hV).mono ?_
  rintro e w' ⟨hb, h1⟩
  rw [h] at h1
  exact ⟨h1, hb⟩
theorem parsed_yes {l : List Int} (s : ByteArray) (w : World) (hs : s.size ≤ 1000) (h : parseL s.data.toList = some l) :
    Calls Tryd.prog 10 #[.string s] w fun e w' => ∃ A n c, e = .returned (.tuple #[.slice A n c, .bool true]) ∧ Ints .i64 w' A n l ∧ Hid (n ≤ 64) ∧ Below w.heap.size w w' := by
  have h2 : parsedL s.data.toList = some l := by
    unfold parseL at h; unfold parsedL
    split at h
    · rw [if_pos ‹_›]; exact h
    · rw [if_neg ‹_›]
      split at h
      · cases h
      · exact h
  refine (parsed_any s w hs).mono ?_
  rintro e w' ⟨hb, h1⟩
  rw [h2] at h1
  obtain ⟨A, c, he, ho⟩ := h1
  have h3 := (parse_range h).2
  rw [decide_eq_true h3] at he
  exact ⟨A, _, c, he, ho.ints, Lib.hid h3, hb⟩
theorem parsed_no (s : ByteArray) (w : World) (hs : s.size ≤ 1000) (h : parseL s.data.toList = none) :
    Calls Tryd.prog 10 #[.string s] w fun e w' => ∃ v, e = .returned (.tuple #[v, .bool false]) ∧ Below w.heap.size w w' := by
  refine (parsed_any s w hs).mono ?_
  rintro e w' ⟨hb, h1⟩
  cases h2 : parsedL s.data.toList with
  | none => rw [h2] at h1; exact ⟨_, h1, hb⟩
  | some l =>
    rw [h2] at h1
    obtain ⟨A, c, he, ho⟩ := h1
    have h3 : ¬ l.length ≤ 64 := by
      intro hl
      unfold parseL at h; unfold parsedL at h2
      split at h
      · cases h
      · rw [if_neg ‹_›] at h2
        split at h
        · have := toks_length h2; omega
        · rw [h] at h2; cases h2
    rw [decide_eq_false h3] at he
    exact ⟨_, he, hb⟩

theorem Wd.r8 {l : List Int} (h : Wd 8 l) : ∀ k ∈ l, k ≠ 0 ∧ -8 < k ∧ k < 8 := fun k hk => h.2 k hk
theorem Wd.r1000 {l : List Int} (h : Wd 8 l) : ∀ k ∈ l, -1000 ≤ k ∧ k ≤ 1000 := fun k hk => by have := h.2 k hk; omega
theorem textL_le {l : List Int} {N : Nat} (hl : l.length ≤ N) (hr : ∀ k ∈ l, -1000 ≤ k ∧ k ≤ 1000) : (textL l).length ≤ 22 * N + 1 := by
  unfold textL
  split
  · simp
  · have := textL_length hl hr; omega
theorem size_mk (l : List UInt8) : (⟨l.toArray⟩ : ByteArray).size = l.length := by simp [ByteArray.size]

set_option maxHeartbeats 4000000 in
theorem law_text (A : Option Addr) (m c : Nat) (xs : List Int) (s : ByteArray) (w : World) (hx : Ints .u8 w A m xs) (hm : m ≤ 9223372036854775807) (hr : ∀ x ∈ xs, 0 ≤ x ∧ x ≤ 255) (hs : s.size ≤ 9223372036854775807) (hV : Vars w) :
    Calls Tryd.prog 3 #[.slice A m c, .string s] w fun e w' => e = .returned (.bool true) ∧ Below w.heap.size w w' := by
  have HX := Lib.hid hr
  clear hr
  have HV := Lib.hid hV
  clear hV
  rcases Nat.lt_or_ge 300 s.size with h300 | h300
  · have hb : decide (300 < (s.size : Int)) = true := by simp; omega
    go_enter Tryd.func3, Tryd.ntmps3
    go_wp2_with fail
    refine (lives_any w).mono ?_
    rintro e w1 ⟨rfl, hb1⟩
    go_wp2
    go_ret
    exact ⟨rfl, hb1⟩
  · have hb : decide (300 < (s.size : Int)) = false := by simp; omega
    go_enter Tryd.func3, Tryd.ntmps3
    go_wp2_with fail
    refine (of_any A m c xs 8 w (by omega) (by omega) hx hm HX.out).mono ?_
    rintro e w1 ⟨A1, N, c1, rfl, hown1, hb1⟩
    have hwd := wordOf_wd (n := 8) (by omega) xs HX.out
    have hl24 := wordOf_length 8 xs
    generalize wordOf 8 xs = l at *
    have hi := hown1.ints
    have hN : N ≤ 24 := by have := hi.len; omega
    have HWD := Lib.hid hwd
    have HL := Lib.hid hl24
    have hB := hb1
    clear hwd hb1 hown1 hl24
    go_wp2_with fail
    refine (text_any A1 N c1 l w1 hi (by omega) HWD.out.r1000 (HV.out.below hB)).mono ?_
    rintro e w2 ⟨rfl, hq2⟩
    replace hi := hi.below hq2
    replace hB := hB.trans (hq2.mono hB.size)
    clear hq2
    have htl := textL_le HL.out HWD.out.r1000
    go_wp2_with fail
    refine (parse_yes ⟨(textL l).toArray⟩ w2 (by rw [size_mk]; omega) (HV.out.below hB) (parse_text HWD.out.r8 (by have := HL.out; omega))).mono ?_
    rintro e w3 ⟨A3, n3, rfl, h3, HN3, hq3⟩
    replace hi := hi.below hq3
    replace hB := hB.trans (hq3.mono hB.size)
    clear hq3 htl
    cases hp : parseL s.data.toList with
    | none =>
      have HP := Lib.hid hp; clear hp
      go_wp2_with fail
      refine (parse_no s w3 (by omega) (HV.out.below hB) HP.out).mono ?_
      rintro e w4 ⟨rfl, hq4⟩
      replace hi := hi.below hq4
      replace h3 := h3.below hq4
      replace hB := hB.trans (hq4.mono hB.size)
      clear hq4
      go_wp2_with fail
      refine (same_eq A3 A1 n3 N n3 c1 l l w4 h3 hi (by have := HN3.out; omega) rfl).mono ?_
      rintro e w5 ⟨rfl, hq5⟩
      replace hB := hB.trans (hq5.mono hB.size)
      clear hq5
      go_wp2_with fail
      refine (parsed_no s w5 (by omega) HP.out).mono ?_
      rintro e w6 ⟨v6, rfl, hq6⟩
      replace hB := hB.trans (hq6.mono hB.size)
      clear hq6
      go_wp2_with fail
      refine (lives_any w6).mono ?_
      rintro e w7 ⟨rfl, hq7⟩
      replace hB := hB.trans (hq7.mono hB.size)
      clear hq7
      go_wp2
      go_ret
      exact ⟨rfl, hB⟩
    | some u =>
      have HP := Lib.hid hp; clear hp
      go_wp2_with fail
      refine (parse_yes s w3 (by omega) (HV.out.below hB) HP.out).mono ?_
      rintro e w4 ⟨A4, n4, rfl, h4, HN4, hq4⟩
      replace hi := hi.below hq4
      replace h3 := h3.below hq4
      replace hB := hB.trans (hq4.mono hB.size)
      clear hq4
      go_wp2_with fail
      refine (same_eq A3 A1 n3 N n3 c1 l l w4 h3 hi (by have := HN3.out; omega) rfl).mono ?_
      rintro e w5 ⟨rfl, hq5⟩
      replace h4 := h4.below hq5
      replace hB := hB.trans (hq5.mono hB.size)
      clear hq5
      go_wp2_with fail
      refine (parsed_yes s w5 (by omega) HP.out).mono ?_
      rintro e w6 ⟨A6, n6, c6, rfl, h6, HN6, hq6⟩
      replace h4 := h4.below hq6
      replace hB := hB.trans (hq6.mono hB.size)
      clear hq6
      go_wp2_with fail
      refine (same_eq A4 A6 n4 n6 n4 c6 u u w6 h4 h6 (by have := HN4.out; omega) rfl).mono ?_
      rintro e w7 ⟨rfl, hq7⟩
      replace h4 := h4.below hq7
      replace hB := hB.trans (hq7.mono hB.size)
      clear hq7
      go_wp2_with fail
      refine (text_any A4 n4 n4 u w7 h4 (by have := HN4.out; omega) (fun k hk => by have := (parse_range HP.out).1 k hk; omega) (HV.out.below hB)).mono ?_
      rintro e w8 ⟨rfl, hq8⟩
      replace hB := hB.trans (hq8.mono hB.size)
      clear hq8
      have ht := text_parse HP.out
      rw [ht]
      clear ht
      go_wp2_with fail
      refine (lives_any w8).mono ?_
      rintro e w9 ⟨rfl, hq9⟩
      replace hB := hB.trans (hq9.mono hB.size)
      clear hq9
      go_wp2
      go_ret
      exact ⟨rfl, hB⟩

end Go.Proofs.YtkanbechahhmkaaDoor
