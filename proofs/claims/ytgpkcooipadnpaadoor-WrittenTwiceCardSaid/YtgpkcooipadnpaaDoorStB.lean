/-
  Contracts of the package stitches: build, digit, symbols, Text. No conditions.
-/
import Derived.Test.YtgpkcooipadnpaaDoorStA
namespace Go.Proofs.YtgpkcooipadnpaaDoor
set_option linter.unusedSimpArgs false
set_option linter.unusedVariables false
open Go.RowKit
set_option maxRecDepth 100000

theorem elemU8Z : ElemZ Tryd.prog 5 1 1 (.int .u8 0) := elemZ_of (by kernel_rfl) rfl (by omega) (by omega)
theorem elemU8 : Elem Tryd.prog 5 1 1 := elemU8Z.elem

theorem digit_any (n : Int) (w : World) (h0 : 0 ≤ n) (h1 : n ≤ 9) :
    Calls Tryd.prog 36 #[.int .i64 n] w fun e w' => e = .returned (.int .u8 (48 + n)) ∧ w = w' := by
  go_enter Tryd.func36, Tryd.ntmps36
  go_wp2
  go_ret
  exact ⟨rfl, rfl⟩

abbrev symsV : Value := .agg #[.int .u8 0, .int .u8 107, .int .u8 112, .int .u8 111, .int .u8 47, .int .u8 118, .int .u8 116, .int .u8 115, .int .u8 99]
theorem symbols_any (w : World) : Calls Tryd.prog 38 #[] w fun e w' => e = .returned symsV ∧ Below w.heap.size w w' := by
  go_enter Tryd.func38, Tryd.ntmps38
  go_wp2
  exact bodyPost_ret (v := symsV) (by simp [results, Tryd.results38, go_sem]) rfl ⟨rfl, by first | exact (Below.refl _ _).alloc (Nat.le_refl _) _ | exact ((Below.refl _ _).alloc (Nat.le_refl _) _).setCell (by simp) _⟩

/-- append of one byte to a slice of the call's own, in Go's words for []byte. -/
def nz (l : List Int) : List Int := l.filter (fun x => decide (x ≠ 0))

set_option maxHeartbeats 1000000 in
theorem build_any (A : Option Addr) (n c : Nat) (l : List Int) (w : World) (hl : Ints .u8 w A n l) (hn : n ≤ 1000) (hr : ∀ x ∈ l, 0 ≤ x ∧ x ≤ 255) :
    Calls Tryd.prog 37 #[.slice A n c] w fun e w' => e = .returned (.string (strOfNums (nz l))) ∧ Below w.heap.size w w' := by
  have hstr := fun W A n c l h => run_str (P := Tryd.prog) W 68 5 9 Tryd.underlying68 Tryd.underlying5 Tryd.underlying9 A n c l h
  have HSTR := Lib.hid hstr; clear hstr
  have HLEN := Lib.hid hl.len
  have HR := Lib.hid hr; clear hr
  obtain ⟨i8, z8, hi8, hz8, hs8, hb8, _, _, _⟩ := elemU8
  go_enter Tryd.func37, Tryd.ntmps37
  go_wp2_with (at_make; go_must (refine wpList_make_own w rfl (.const (.int .i64 0)) (.tmp 7) 68 rfl w.heap.size 5 i8 z8 1 Tryd.underlying68 hi8 hz8 hs8 .i64 .i64 n n rfl rfl rfl (by rw [hb8]; omega) (by simp only [maxLen]; omega) (Nat.le_refl _) ?_); intro w1 hown1 hg1)
  have hbel1 : Below w.heap.size w w1 := below_of_grown_none hg1 (Nat.le_refl _)
  go_loopw [3, 11] (fun v i wr => ∃ (k m c2 : Nat) (A2 : Option Addr), k ≤ n ∧ m ≤ k ∧ i = .int .i64 k ∧ v = .slice A2 m c2 ∧ Own wr w.heap.size 5 1 A2 m c2 (iv .u8 (nz (l.take k))) ∧ Below w.heap.size w wr) (fun _ i _ => n - (intOf i).toNat)
  case atStart => exact ⟨0, 0, n, some ⟨w.heap.size, 0, none⟩, by omega, by omega, rfl, rfl, hown1, hbel1⟩
  case round =>
    obtain ⟨k, m, c2, A2, hk, hmk, rfl, rfl, hown, hbel⟩ := hrel
    rcases Nat.lt_or_ge k n with hlt | hge
    · obtain ⟨ad, rfl, hadl, x, hxk, hc0⟩ := hl.at_ hlt
      have hc := (hbel.cell (p := ad.add k) (by rw [block_of_add]; exact hadl)).trans hc0
      clear hc0
      have hxr := HR.out x (List.mem_of_getElem? hxk)
      have htk : l.take (k + 1) = l.take k ++ [x] := by rw [List.take_add_one, hxk]; rfl
      by_cases h0 : x = 0
      · subst h0
        have HN : Hid (nz (l.take (k + 1)) = nz (l.take k)) := Lib.hid (by rw [htk]; simp [nz])
        clear htk hxk
        go_wp2_with fail
        go_roundw
        case rel => exact ⟨k + 1, m, c2, A2, by omega, by omega, by go_num, rfl, by rw [HN.out]; exact hown, hbel⟩
        case measure => simp [intOf]; omega
      · have h0b : (x != 0) = true := by simp [h0]
        have HN : Hid (nz (l.take (k + 1)) = nz (l.take k) ++ [x]) := Lib.hid (by rw [htk]; simp [nz, h0])
        clear htk hxk h0
        go_wp2_with (at_builtin; go_must (refine wpList_app1 wr rfl (.tmp 17) (.tmp 19) 68 rfl w.heap.size 5 Tryd.underlying68 elemU8 A2 m c2 _ rfl hown _ rfl rfl (by omega) hbel.size ?_); intro A3 c3 w3 hown3 hg3 _)
        go_roundw
        case rel => exact ⟨k + 1, m + 1, c3, A3, by omega, by omega, by go_num, rfl, by rw [HN.out, iv_append]; exact hown3, hbel.trans (hown.belowG hg3 hbel.size)⟩
        case measure => simp [intOf]; omega
    · obtain rfl : n = k := by omega
      rw [List.take_of_length_le (by have := HLEN.out; omega)] at hown
      have hs := HSTR.out wr A2 m c2 _ hown.ints
      go_wp2_with fail
      go_ret
      exact ⟨rfl, hbel⟩

end Go.Proofs.YtgpkcooipadnpaaDoor
