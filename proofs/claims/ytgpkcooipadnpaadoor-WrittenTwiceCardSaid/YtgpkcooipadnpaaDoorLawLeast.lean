/-
  The laws WrittenLeast and WrittenShorten, walked. Condition: strconv's variables hold what their initialisers lay (Vars).
-/
import Derived.Test.YtgpkcooipadnpaaDoorWrS
namespace Go.Proofs.YtgpkcooipadnpaaDoor
set_option linter.unusedSimpArgs false
set_option linter.unusedVariables false
open Go.RowKit
open Go.Op (bytesLess)
set_option maxRecDepth 100000

theorem bl_asymm {x y : List UInt8} (h : bytesLess x y = true) : bytesLess y x = false := by
  cases h2 : bytesLess y x with
  | false => rfl
  | true => have := bl_trans h h2; rw [bl_irrefl] at this; cases this
theorem less_least {a b : List UInt8} (h : leT b a) : lessL a b = 0 := by
  unfold lessL
  refine if_neg ?_
  rintro (h1 | ⟨h1, h2⟩)
  · rcases h with h | ⟨h, _⟩ <;> omega
  · rcases h with h | ⟨_, h⟩
    · omega
    · rw [h] at h2; cases h2
theorem SOut.ok {l : List St} {e : Ending} (h : SOut l e) (hne : l ≠ []) (hv : ∀ x ∈ l, x.valid = true) (h16 : l.length ≤ 16) : e = .returned (.tuple #[str (shortL l), .int .i64 0]) := by
  unfold SOut at h
  rw [if_neg (by omega), if_neg (by
    rintro (h2 | h2)
    · exact hne h2
    · obtain ⟨x, hx, hxv⟩ := List.any_eq_true.1 h2
      rw [hv x hx] at hxv
      cases hxv)] at h
  exact h
theorem refL_zero {s : List UInt8} : (refL s).1 = 0 ∨ (refL s).1 ≠ 0 := by omega

set_option maxHeartbeats 4000000 in
theorem law_least (s : ByteArray) (w : World) (hs : s.size ≤ 9223372036854775807) (hV : Vars w) (hg : 5 ≤ w.heap.size) :
    Calls Tryd.prog 4 #[.string s] w fun e w' => e = .returned (.bool true) ∧ Below w.heap.size w w' := by
  have HV := Lib.hid hV; clear hV
  rcases Nat.lt_or_ge 200 s.size with h1 | h1
  · have hb : decide (200 < (s.size : Int)) = true := by simp; omega
    go_enter Tryd.func4, Tryd.ntmps4
    go_wp2_with fail
    go_ret
    exact ⟨rfl, Below.refl _ _⟩
  · have hb : decide (200 < (s.size : Int)) = false := by simp; omega
    have HX := Lib.hid (refExpand_any s w (by omega))
    obtain ⟨E, row, hres⟩ : ∃ E row, refL s.data.toList = (E, row) := ⟨_, _, rfl⟩
    rw [hres] at HX
    by_cases hE : E = 0
    · subst hE
      obtain ⟨hne, hval, h16, hle⟩ := ref_least hres
      have HRES := Lib.hid hres
      have HNE := Lib.hid hne
      have HVAL := Lib.hid hval
      have HLS := Lib.hid (less_least hle)
      clear hres hne hval hle
      go_enter Tryd.func4, Tryd.ntmps4
      go_wp2_with fail
      refine HX.out.mono ?_
      rintro e w1 ⟨⟨A, n, c, rfl, hst, hfr, hnc, hcm⟩, hb1⟩
      have hln := hst.len
      simp only at hst
      have HSH := Lib.hid (shorten_any A n c row w1 hst (fun x hx => valid_wf (HVAL.out x hx)) hnc hcm (by simp only at hln; omega))
      have hw1 := hb1.size
      clear hst hln hfr
      go_wp2_with fail
      refine HSH.out.mono ?_
      rintro e w2 ⟨hso, hb2⟩
      have he := hso.ok HNE.out HVAL.out h16
      subst he
      have hb12 := hb1.trans (hb2.mono hw1)
      clear hso hb2
      obtain ⟨t, ht⟩ := bytes_of (shortL row)
      have HT : Hid (str (shortL row) = .string t) := Lib.hid (by rw [← ht, ← st_str])
      rw [← ht] at HLS
      clear ht
      rw [HT.out]
      go_wp2_with fail
      refine (less_any _ _ _).mono ?_
      rintro e w3 ⟨rfl, rfl⟩
      rw [HLS.out]
      go_wp2_with fail
      refine (lives_any w3 (HV.out.below hb12) (by have := hb12.size; omega)).mono ?_
      rintro e w4 ⟨rfl, hb4⟩
      go_wp2_with fail
      go_ret
      exact ⟨rfl, hb12.trans (hb4.mono hb12.size)⟩
    · have hEb : (E != 0) = true := by rw [bne_iff_ne]; exact hE
      clear hE hres
      go_enter Tryd.func4, Tryd.ntmps4
      go_wp2_with fail
      refine HX.out.mono ?_
      rintro e w1 ⟨⟨A, n, c, rfl, hst, hfr, hnc, hcm⟩, hb1⟩
      clear hst hfr
      go_wp2_with fail
      refine (lives_any w1 (HV.out.below hb1) (by have := hb1.size; omega)).mono ?_
      rintro e w4 ⟨rfl, hb4⟩
      go_wp2_with fail
      go_ret
      exact ⟨rfl, hb1.trans (hb4.mono hb1.size)⟩

end Go.Proofs.YtgpkcooipadnpaaDoor
