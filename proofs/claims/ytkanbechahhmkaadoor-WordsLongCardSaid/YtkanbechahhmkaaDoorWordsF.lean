/-
  Contracts of the law's all and image.
-/
import Derived.Test.YtkanbechahhmkaaDoorWordsE
namespace Go.Proofs.YtkanbechahhmkaaDoor
set_option linter.unusedSimpArgs false
set_option linter.unusedVariables false
open Go.RowKit
set_option maxRecDepth 100000

set_option maxHeartbeats 400000 in
theorem all_any (A B : Option Addr) (n m c d : Nat) (xs ys : List (List Int)) (w : World) (ha : Grid .i64 w A n xs) (hb : Grid .i64 w B m ys) (hx : n < 1000000000) (hsz : ∀ l ∈ xs, l.length < 1000000000) :
    Calls Tryd.prog 20 #[.slice A n c, .slice B m d] w fun e w' => e = .returned (.bool (decide (xs = ys))) ∧ ∃ n, w' = w.drewN n := by
  by_cases hl : n = m
  · subst hl
    have HSZ := Lib.hid hsz; clear hsz
    go_enter Tryd.func20, Tryd.ntmps20
    go_wp2
    go_loopw [5] (fun i wr => ∃ k : Nat, k ≤ n ∧ i = .int .i64 k ∧ Hid (xs.take k = ys.take k) ∧ ∃ n, wr = w.drewN n) (fun i _ => n - (intOf i).toNat)
    case atStart => exact ⟨0, by omega, rfl, Lib.hid (by simp), 0, rfl⟩
    case round =>
      obtain ⟨k, hk, rfl, HE, q, hq⟩ := hrel
      have ha2 : Grid .i64 wr A n xs := by rw [hq]; exact ha.drewN q
      have hb2 : Grid .i64 wr B n ys := by rw [hq]; exact hb.drewN q
      have HQ := Lib.hid hq
      clear hq
      by_cases hlt : k < n
      · obtain ⟨a1, r1, m1, c1, x, rfl, _, hc1, _, _, hxk, hi1⟩ := ha2.at_ hlt
        obtain ⟨b1, r2, m2, c2, y, rfl, _, hc2, _, _, hyk, hi2⟩ := hb2.at_ hlt
        have HX := Lib.hid hxk
        have HY := Lib.hid hyk
        have hm1 : m1 < 1000000000 := by have := HSZ.out x (List.mem_of_getElem? hxk); have := hi1.len; omega
        clear hxk hyk
        by_cases he : x = y
        · have HS := Lib.hid (fun q' => same_any r1 r2 m1 m2 c1 c2 x y (wr.drewN q') (hi1.drewN _) (hi2.drewN _) hm1)
          rw [decide_eq_true he] at HS
          have HN := Lib.hid he; clear he
          go_wp2_with fail
          go_quiet ((go_at_call 9; exact Calls.quiet_of (HS.out _)))
          go_wp2
          go_roundw
          case rel => exact ⟨k + 1, by omega, by go_num, Lib.hid (by rw [List.take_add_one, List.take_add_one, HE.out, HX.out, HY.out, HN.out]), (by rw [HQ.out]; first | exact ⟨_, rfl⟩ | exact ⟨_, World.drewN_drewN _ _ _⟩)⟩
          case measure => simp [intOf]; omega
        · have HS := Lib.hid (fun q' => same_any r1 r2 m1 m2 c1 c2 x y (wr.drewN q') (hi1.drewN _) (hi2.drewN _) hm1)
          rw [decide_eq_false he] at HS
          have HN := Lib.hid he; clear he
          go_wp2_with fail
          go_quiet ((go_at_call 9; exact Calls.quiet_of (HS.out _)))
          go_wp2
          go_ret
          refine ⟨ret_bool ?_, (by rw [HQ.out]; first | exact ⟨_, rfl⟩ | exact ⟨_, World.drewN_drewN _ _ _⟩)⟩
          rw [eq_comm, decide_eq_false_iff_not]
          intro h
          have h1 := HX.out
          rw [h, HY.out] at h1
          injection h1 with h1
          exact HN.out h1.symm
      · go_wp2
        go_ret
        refine ⟨ret_bool ?_, q, HQ.out⟩
        rw [eq_comm, decide_eq_true_eq]
        have h1 := HE.out
        rwa [List.take_of_length_le (by have := ha.len; omega), List.take_of_length_le (by have := hb.len; omega)] at h1
  · have hlb : ((n : Int) != (m : Int)) = true := by simp; omega
    go_enter Tryd.func20, Tryd.ntmps20
    go_wp2
    go_ret
    refine ⟨ret_bool ?_, 0, rfl⟩
    rw [eq_comm, decide_eq_false_iff_not]
    intro h
    exact hl (by rw [← ha.len, ← hb.len, h])

theorem elemSlZ : ElemZ Tryd.prog 25 1 24 (.slice none 0 0) := elemZ_of (by kernel_rfl) rfl (by omega) (by omega)
theorem elemSl : Elem Tryd.prog 25 1 24 := elemSlZ.elem

/-- What a letter makes of images, by the law's own definition. -/
def imageL (ls : List (List Int)) (k : Int) : List (List Int) :=
  if 0 < k then
    (ls.set (k.toNat - 1) (redL (ls.getD (k.toNat - 1) [] ++ ls.getD k.toNat [] ++ inv (ls.getD (k.toNat - 1) [])))).set k.toNat (ls.getD (k.toNat - 1) [])
  else
    (ls.set ((-k).toNat - 1) (ls.getD (-k).toNat [])).set (-k).toNat (redL (inv (ls.getD (-k).toNat []) ++ ls.getD ((-k).toNat - 1) [] ++ ls.getD (-k).toNat []))

def Rows8 (N : Nat) (ls : List (List Int)) : Prop := ∀ l ∈ ls, l.length ≤ N ∧ Small l

end Go.Proofs.YtkanbechahhmkaaDoor
