/-
  The reference's Differ at charts of one row, and the law's differ. No conditions.
-/
import Derived.Test.YtgpkcooipadnpaaDoorWrK
namespace Go.Proofs.YtgpkcooipadnpaaDoor
set_option linter.unusedSimpArgs false
set_option linter.unusedVariables false
open Go.RowKit
set_option maxRecDepth 100000

def difI (l r : List St) : Int := if l = r then 0 else 1
theorem difI_eq {l r : List St} (h : l = r) : difI l r = 0 := if_pos h
theorem difI_ne {l r : List St} (h : ¬ l = r) : difI l r = 1 := if_neg h

set_option maxHeartbeats 4000000 in
theorem differ1_any (g1 g2 : Nat) (A B : Option Addr) (n m c d : Nat) (l r' : List St) (w : World) (h1 : w.cell? ⟨g1, 0, none⟩ = some (.slice A n c)) (h2 : w.cell? ⟨g2, 0, none⟩ = some (.slice B m d)) (hg1 : g1 < w.heap.size) (hg2 : g2 < w.heap.size)
    (hl : Sts w A n l) (hr : Sts w B m r') (hn : n ≤ 1000000) (hm : m ≤ 1000000) :
    Calls Tryd.prog 32 #[.agg #[.slice (some ⟨g1, 0, none⟩) 1 1], .agg #[.slice (some ⟨g2, 0, none⟩) 1 1]] w fun e w' => e = .returned (.int .i64 (difI l r')) ∧ Below w.heap.size w w' := by
  obtain ⟨W, hW⟩ : ∃ W, W = (w.alloc (.cells #[.slice (some ⟨g1, 0, none⟩) 1 1] 45)).alloc (.cells #[.slice (some ⟨g2, 0, none⟩) 1 1] 45) := ⟨_, rfl⟩
  have hbw : Below w.heap.size w W := by rw [hW]; exact ((Below.refl _ w).alloc (by simp) _).alloc (by simp) _
  have k1 : W.cell? ⟨w.heap.size, 0, none⟩ = some (.slice (some ⟨g1, 0, none⟩) 1 1) := by rw [hW]; exact ((Blk.new w 45 [_]).alloc _).cell 0
  have k2 : W.cell? ⟨w.heap.size + 1, 0, none⟩ = some (.slice (some ⟨g2, 0, none⟩) 1 1) := by rw [hW]; exact (Blk.new' (w.alloc _) 45 (w.heap.size + 1) [_] (by simp)).cell 0
  have e1 : W.cell? ⟨g1, 0, none⟩ = some (.slice A n c) := (hbw.cell (p := ⟨g1, 0, none⟩) hg1).trans h1
  have e2 : W.cell? ⟨g2, 0, none⟩ = some (.slice B m d) := (hbw.cell (p := ⟨g2, 0, none⟩) hg2).trans h2
  have HL := Lib.hid (hl.below hbw)
  have HR := Lib.hid (hr.below hbw)
  have HWW := Lib.hid hW
  have hgd : Tryd.prog.eqGuardType Tryd.prog.depth 29 = false := by kernel_rfl
  clear h1 h2
  go_enter Tryd.func32, Tryd.ntmps32
  go_wp2_with fail
  rw [← HWW.out]
  clear hW
  go_loopg [5] 1 (fun r v wr => ∃ i : Nat, i ≤ 1 ∧ v = .int .i64 i ∧ r = 1 - i ∧ Hid (i = 1 → l = r') ∧ Hid (∃ q, wr = W.drewN q))
  case atStart => exact ⟨0, by omega, rfl, rfl, Lib.hid (fun h => by omega), Lib.hid ⟨0, rfl⟩⟩
  case round =>
    obtain ⟨i, hi, rfl, hri, HI, HQ⟩ := hrel
    obtain ⟨q, hq⟩ := HQ.out
    have x1 : wr.cell? ⟨w.heap.size, 0, none⟩ = some (.slice (some ⟨g1, 0, none⟩) 1 1) := by rw [hq]; exact k1
    have x2 : wr.cell? ⟨w.heap.size + 1, 0, none⟩ = some (.slice (some ⟨g2, 0, none⟩) 1 1) := by rw [hq]; exact k2
    have y1 : wr.cell? ⟨g1, 0, none⟩ = some (.slice A n c) := by rw [hq]; exact e1
    have y2 : wr.cell? ⟨g2, 0, none⟩ = some (.slice B m d) := by rw [hq]; exact e2
    have hbr : Below w.heap.size w wr := by rw [hq]; exact below_drewN hbw q
    have HQ1 := Lib.hid hq
    clear hq
    rcases Nat.eq_zero_or_pos i with h0 | h0
    · subst h0
      clear hi HI
      by_cases hnm : n = m
      · subst hnm
        have hnb : ((n : Int) != (n : Int)) = false := by simp
        go_wp2_with fail
        go_quiet (fail)
        go_wp2_with fail
        rename World => w2
        go_loopg [6] n (fun r v wr => ∃ k : Nat, k ≤ n ∧ v = .int .i64 k ∧ r = n - k ∧ Hid (l.take k = r'.take k) ∧ Hid (∃ q, wr = W.drewN q))
        case atStart => exact ⟨0, by omega, rfl, by omega, Lib.hid (by simp), Lib.hid ⟨_, by rw [HQ1.out, World.drewN_drewN]⟩⟩
        case round =>
          clear x1 x2 y1 y2 hbr
          obtain ⟨k, hk, rfl, hrr, HT, HQ⟩ := hrel
          obtain ⟨q, hq⟩ := HQ.out
          have x1 : wr.cell? ⟨w.heap.size, 0, none⟩ = some (.slice (some ⟨g1, 0, none⟩) 1 1) := by rw [hq]; exact k1
          have x2 : wr.cell? ⟨w.heap.size + 1, 0, none⟩ = some (.slice (some ⟨g2, 0, none⟩) 1 1) := by rw [hq]; exact k2
          have y1 : wr.cell? ⟨g1, 0, none⟩ = some (.slice A n c) := by rw [hq]; exact e1
          have y2 : wr.cell? ⟨g2, 0, none⟩ = some (.slice B n d) := by rw [hq]; exact e2
          have hbr : Below w.heap.size w wr := by rw [hq]; exact below_drewN hbw q
          have hlw : Sts wr A n l := by rw [hq]; exact HL.out.drewN q
          have hrw : Sts wr B n r' := by rw [hq]; exact HR.out.drewN q
          have HQ2 := Lib.hid hq
          clear hq
          rcases Nat.lt_or_ge k n with hlt | hge
          · obtain ⟨ad, rfl, hb, c0, c1, c2, c3, c4⟩ := St.lit_at hlw hlt
            obtain ⟨bd, rfl, hb', d0, d1, d2, d3, d4⟩ := St.lit_at hrw hlt
            have hkl : k < l.length := by rw [HL.out.len]; exact hlt
            have hkr : k < r'.length := by rw [HR.out.len]; exact hlt
            have HE := fun W => eql_st l[k] r'[k] W
            have hkb : decide ((k : Int) < (n : Int)) = true := by simp; omega
            by_cases hxy : l[k] = r'[k]
            · have hxb : decide (l[k] = r'[k]) = true := decide_eq_true hxy
              simp only [hxb] at HE
              have HXY := Lib.hid hxy
              clear hxy hxb
              go_wp2_with fail
              go_quiet (fail)
              go_wp2_with fail
              go_roundg (n - k - 1)
              case measure => omega
              case rel =>
                refine ⟨k + 1, by omega, by go_num, by omega, Lib.hid ?_, Lib.hid ⟨_, by rw [HQ2.out, World.drewN_drewN]⟩⟩
                rw [List.take_add_one, List.take_add_one, HT.out, List.getElem?_eq_getElem hkl, List.getElem?_eq_getElem hkr, HXY.out]
            · have hxb : decide (l[k] = r'[k]) = false := decide_eq_false hxy
              simp only [hxb] at HE
              have HX := Lib.hid (difI_ne (l := l) (r := r') (fun e => hxy (by subst e; rfl)))
              clear hxy hxb
              go_wp2_with fail
              go_quiet (fail)
              go_wp2_with fail
              go_ret
              rw [HX.out]
              exact ⟨rfl, below_drewN hbr _⟩
          · have hkb : decide ((k : Int) < (n : Int)) = false := by simp; omega
            have HEQ : Hid (l = r') := Lib.hid (by
              have h := HT.out
              rwa [List.take_of_length_le (by rw [HL.out.len]; exact hge), List.take_of_length_le (by rw [HR.out.len]; exact hge)] at h)
            go_wp2_with fail
            go_roundg 0
            case measure => omega
            case rel => exact ⟨1, by omega, by go_num, rfl, Lib.hid (fun _ => HEQ.out), Lib.hid ⟨_, HQ2.out⟩⟩
      · have hnb : ((n : Int) != (m : Int)) = true := by rw [bne_iff_ne]; omega
        have HX := Lib.hid (difI_ne (l := l) (r := r') (fun e => hnm (by rw [← hl.len, ← hr.len, e])))
        clear hnm
        go_wp2_with fail
        go_quiet (fail)
        go_wp2_with fail
        go_ret
        rw [HX.out]
        exact ⟨rfl, below_drewN hbr _⟩
    · obtain rfl : i = 1 := by omega
      have HX := Lib.hid (difI_eq (HI.out rfl))
      go_wp2_with fail
      go_ret
      rw [HX.out]
      exact ⟨rfl, hbr⟩

theorem differ_any (A B : Option Addr) (n m c d : Nat) (l r' : List St) (w : World) (hl : Sts w A n l) (hr : Sts w B m r') (hn : n ≤ 1000000) (hm : m ≤ 1000000) :
    Calls Tryd.prog 11 #[.slice A n c, .slice B m d] w fun e w' => e = .returned (.int .i64 (difI l r')) ∧ Below w.heap.size w w' := by
  have hb : Below w.heap.size w ((w.alloc (.cells #[.slice A n c] 22)).alloc (.cells #[.slice B m d] 22)) := ((Below.refl _ w).alloc (by simp) _).alloc (by simp) _
  have HD := Lib.hid (differ1_any w.heap.size (w.heap.size + 1) A B n m c d l r' _ (((Blk.new w 22 [.slice A n c]).alloc (.cells #[.slice B m d] 22)).cell 0) ((Blk.new' (w.alloc (.cells #[.slice A n c] 22)) 22 (w.heap.size + 1) [.slice B m d] (by simp)).cell 0) (by simp <;> omega) (by simp) (hl.below hb) (hr.below hb) hn hm)
  go_enter Tryd.func11, Tryd.ntmps11
  go_wp2_with fail
  refine HD.out.mono ?_
  rintro e w1 ⟨rfl, hb1⟩
  go_wp2_with fail
  go_ret
  exact ⟨rfl, hb.trans (hb1.mono hb.size)⟩

end Go.Proofs.YtgpkcooipadnpaaDoor
