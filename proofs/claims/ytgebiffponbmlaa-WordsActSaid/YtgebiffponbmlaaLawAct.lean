/-
  The law WordsAct, walked: it returns true for every number and every word with its moves. No conditions beyond what the row's reading gives.
-/
import Derived.Test.YtgebiffponbmlaaWordsM
import Derived.Test.YtgebiffponbmlaaLawImages
namespace Go.Proofs.Ytgebiffponbmlaa
open Go.RowKit

set_option maxRecDepth 100000 in
set_option maxHeartbeats 8000000 in
theorem law_act (n0 : Int) (A B : Option Addr) (m c M d : Nat) (xs ps : List Int) (w : World) (h0 : 0 ≤ n0) (h1 : n0 ≤ 255) (hx : Ints .u8 w A m xs) (hm : m ≤ 9223372036854775807) (hmc : m ≤ c) (hc : c ≤ 9223372036854775807) (hr : ∀ x ∈ xs, 0 ≤ x ∧ x ≤ 255) (hM : M ≤ 9223372036854775807) (hp : Ints .u8 w B (M * 2) ps) (hpr : ∀ x ∈ ps, 0 ≤ x ∧ x ≤ 255) :
    Calls Try.prog 6 #[.int .u8 n0, .agg #[.slice A m c, .slice B M d]] w fun e w' => e = .returned (.bool true) ∧ Below w.heap.size w w' := by
  obtain ⟨n, hn⟩ : ∃ n : Nat, (n : Int) = 1 + n0 % 6 := ⟨(1 + n0 % 6).toNat, by omega⟩
  have hn1 : 1 ≤ n := by omega
  have hn2 : n ≤ 6 := by omega
  have HN := Lib.hid hn
  clear hn
  have HXR := Lib.hid hr
  have HPR := Lib.hid hpr
  clear hr hpr
  rcases Nat.lt_or_ge 12 m with hm12 | hm12
  · go_enter Try.func6, Try.ntmps6
    go_wp2_with fail
    have hbk : Blk (w.alloc (.cells #[.slice A m c, .slice B M d] 47)) w.heap.size 47 [.slice A m c, .slice B M d] := Blk.new w _ _
    have hbx : Below w.heap.size w (w.alloc (.cells #[.slice A m c, .slice B M d] 47)) := (Below.refl _ _).alloc (Nat.le_refl _) _
    generalize w.alloc (.cells #[.slice A m c, .slice B M d] 47) = wx at *
    refine (strands_any n0 wx h0 h1).mono ?_
    rintro e wz ⟨rfl, rfl⟩
    rw [← HN.out]
    have hcx0 := hbk.cell 0
    have hcx1 := hbk.cell 1
    have hfx0 := hbk.frozen 0
    simp only [List.getElem?_cons_zero, List.getElem?_cons_succ] at hcx0 hcx1
    have hmx : ¬ ((m : Int) ≤ 12) := by omega
    go_wp2_with fail
    have hbk2 : Blk (wx.setCell ⟨w.heap.size, 0, none⟩ (.slice A 12 c)) w.heap.size 47 [.slice A 12 c, .slice B M d] := hbk.set_ 0 (.slice A 12 c)
    have hb2 : Below w.heap.size w (wx.setCell ⟨w.heap.size, 0, none⟩ (.slice A 12 c)) := hbx.setCell (Nat.le_refl _) _
    generalize wx.setCell ⟨w.heap.size, 0, none⟩ (.slice A 12 c) = wy at *
    have hx2 : Ints .u8 wy A 12 (xs.take 12) := (hx.below hb2).take (by omega)
    have hp2 : Ints .u8 wy B (M * 2) ps := hp.below hb2
    have hgy := hbk2.lt
    have hcy0 := hbk2.cell 0
    have hcy1 := hbk2.cell 1
    simp only [List.getElem?_cons_zero, List.getElem?_cons_succ] at hcy0 hcy1
    clear hcx0 hcx1 hfx0 hbk hbx hx hp hbk2
    have HXT : Hid (∀ x ∈ xs.take 12, 0 ≤ x ∧ x ≤ 255) := Lib.hid fun x hx => HXR.out x (List.mem_of_mem_take hx)
    generalize xs.take 12 = ys at *
    go_region_held3 (fun w' => w'.cell? ⟨w.heap.size, 0, none⟩ = some (.slice A 12 c) ∧ w'.cell? ⟨w.heap.size, 1, none⟩ = some (.slice B M d)) (first | go_keep | exact ⟨(hb1.cell (p := ⟨w.heap.size, 0, none⟩) hgy).trans hcy0, (hb1.cell (p := ⟨w.heap.size, 1, none⟩) hgy).trans hcy1⟩ | exact ⟨(hb4.cell (p := ⟨w.heap.size, 0, none⟩) hgy).trans hcy0, (hb4.cell (p := ⟨w.heap.size, 1, none⟩) hgy).trans hcy1⟩) (first
      | (go_at_call 22
         refine (other_any A B 12 c M d ys ps n _ (by omega) (by omega) hx3 (by omega) HXT.out hM hp3 HPR.out).mono ?_
         rintro e w3 ⟨A3, N3, c3, rfl, l3, hi3, hc3, hd3, hfr3, HS3, hb3⟩
         replace hb3 : Below w1.heap.size w1 w3 := (by first | exact hb3 | exact (Below.refl _ w1).drew.trans hb3)
         have hb4 : Below wy.heap.size wy w3 := (by first | exact hb1.trans (hb3.mono hb1.size) | exact hb1.drew.trans (hb3.mono hb1.size)))
      | (go_at_call 8
         refine (of_any A 12 c ys n _ (by omega) (by omega) hx2.drew (by omega) HXT.out).mono ?_
         rintro e w1 ⟨A1, N, c1, rfl, hown1, hb1⟩
         replace hb1 : Below wy.heap.size wy w1 := (by first | exact hb1 | exact (Below.refl _ wy).drew.trans hb1)
         have hp3 := hp2.below hb1
         have hx3 := hx2.below hb1))
    have hwd := wordOf_wd (n := (n : Int)) (by omega) ys HXT.out
    have hle := wordOf_length_le n ys
    have hyl := hx2.len
    generalize wordOf n ys = l at *
    have hB := hb2.trans (hb4.mono hb2.size)
    have hcap := hown1.cap
    have hi := hown1.ints.below hb3
    have hlen := Lib.hid hi.len
    have hl12 : l.length ≤ 12 := by omega
    have hN : N ≤ 12 := by have := hlen.out; omega
    have HWD := Lib.hid hwd
    have HL12 := Lib.hid hl12
    have hN3 : N3 ≤ 21 := by have := hi3.len; have := HS3.out.len; omega
    have HWD3 : Hid (Wd n l3) := Lib.hid ⟨by have := HS3.out.len; omega, HS3.out.inr⟩
    have HOK1 : Hid (ActOk n l) := Lib.hid (actOk_12 n (by omega) l HWD.out.2 (by omega))
    have HOK3 : Hid (ActOk n l3) := Lib.hid (actOk_same hn2 HS3.out.br HWD.out.2 HS3.out.inr HL12.out HS3.out.len)
    have HOK5 : Hid (ActOk n (l ++ inv l3)) := Lib.hid (actOk_undo hn2 HS3.out.br HWD.out.2 HS3.out.inr HL12.out HS3.out.len)
    have EA : Hid (actL n l = actL n l3) := Lib.hid HS3.out.br.act
    have EP : Hid (permL n l = permL n l3) := Lib.hid HS3.out.br.perm
    have ES : Hid (sumL l = sumL l3) := Lib.hid HS3.out.br.sum
    have EL : Hid (linksL n l = linksL n l3) := Lib.hid HS3.out.br.links
    have EU : Hid (actL n (l ++ inv l3) = gens n) := Lib.hid (act_undone HS3.out.br HS3.out.inr)
    clear hwd hle hyl hl12 hown1 hb1 hb3 hb4 hx2 hx3 hp2 hp3 hcy0 hcy1 hgy hmx HXT hfr3 hb2
    go_wp2_with fail
    refine (act_any n A1 N c1 l w3 hi hcap.1 hcap.2 hn1 (by omega) HWD.out HOK1.out).mono ?_
    rintro e w4 ⟨A4, us4, rfl, hr4, ho4, -, hq⟩
    have g4 : Grid .i64 w4 A4 n (actL n l) := ⟨us4, hr4, ho4⟩
    replace hi := hi.below hq
    replace hi3 := hi3.below hq
    replace hB := hB.trans (hq.mono hB.size)
    clear hq hr4 ho4
    go_wp2_with fail
    refine (act_any n A3 N3 c3 l3 w4 hi3 hc3 hd3 hn1 (by omega) HWD3.out HOK3.out).mono ?_
    rintro e w5 ⟨A5, us5, rfl, hr5, ho5, -, hq⟩
    have g5 : Grid .i64 w5 A5 n (actL n l3) := ⟨us5, hr5, ho5⟩
    replace hi := hi.below hq
    replace hi3 := hi3.below hq
    replace g4 := g4.below hq
    replace hB := hB.trans (hq.mono hB.size)
    clear hq hr5 ho5
    go_wp2_with fail
    refine (permutation_any n A1 N c1 l w5 hi hn1 (by omega) HWD.out).mono ?_
    rintro e w6 ⟨A6, rfl, h6, hq⟩
    replace hi := hi.below hq
    replace hi3 := hi3.below hq
    replace g4 := g4.below hq
    replace g5 := g5.below hq
    replace hB := hB.trans (hq.mono hB.size)
    clear hq
    go_wp2_with fail
    refine (permutation_any n A3 N3 c3 l3 w6 hi3 hn1 (by omega) HWD3.out).mono ?_
    rintro e w7 ⟨A7, rfl, h7, hq⟩
    replace hi := hi.below hq
    replace hi3 := hi3.below hq
    replace g4 := g4.below hq
    replace g5 := g5.below hq
    replace h6 := h6.below hq
    replace hB := hB.trans (hq.mono hB.size)
    clear hq
    go_wp2_with fail
    refine (sum_any n A1 N c1 l w7 hi (by omega) (by omega) HWD.out).mono ?_
    rintro e w8 ⟨rfl, hq⟩
    replace hi := hi.below hq
    replace hi3 := hi3.below hq
    replace g4 := g4.below hq
    replace g5 := g5.below hq
    replace h6 := h6.below hq
    replace h7 := h7.below hq
    replace hB := hB.trans (hq.mono hB.size)
    clear hq
    go_wp2_with fail
    refine (sum_any n A3 N3 c3 l3 w8 hi3 (by omega) (by omega) HWD3.out).mono ?_
    rintro e w9 ⟨rfl, hq⟩
    replace hi := hi.below hq
    replace hi3 := hi3.below hq
    replace g4 := g4.below hq
    replace g5 := g5.below hq
    replace h6 := h6.below hq
    replace h7 := h7.below hq
    replace hB := hB.trans (hq.mono hB.size)
    clear hq
    go_wp2_with fail
    refine (links_any n A1 N c1 l w9 hi hn1 (by omega) HWD.out).mono ?_
    rintro e w10 ⟨A10, rfl, g10, hlk, hq⟩
    have HLK : Hid (∀ r ∈ linksL n l, r.length < 1000000000) := Lib.hid fun r hr => by have := hlk r hr; omega
    clear hlk
    replace hi := hi.below hq
    replace hi3 := hi3.below hq
    replace g4 := g4.below hq
    replace g5 := g5.below hq
    replace h6 := h6.below hq
    replace h7 := h7.below hq
    replace hB := hB.trans (hq.mono hB.size)
    clear hq
    go_wp2_with fail
    refine (links_any n A3 N3 c3 l3 w10 hi3 hn1 (by omega) HWD3.out).mono ?_
    rintro e w11 ⟨A11, rfl, g11, -, hq⟩
    replace hi := hi.below hq
    replace hi3 := hi3.below hq
    replace g4 := g4.below hq
    replace g5 := g5.below hq
    replace h6 := h6.below hq
    replace h7 := h7.below hq
    replace g10 := g10.below hq
    replace hB := hB.trans (hq.mono hB.size)
    clear hq
    rw [← ES.out]
    go_wp2_with fail
    refine (inverseW_any n A3 N3 c3 l3 w11 hi3 (by omega) (by omega) HWD3.out).mono ?_
    rintro e w12 ⟨A12, rfl, ho12, hq⟩
    have hi12 := ho12.ints
    replace hi := hi.below hq
    replace g4 := g4.below hq
    replace g5 := g5.below hq
    replace h6 := h6.below hq
    replace h7 := h7.below hq
    replace g10 := g10.below hq
    replace g11 := g11.below hq
    replace hB := hB.trans (hq.mono hB.size)
    clear hq hi3 ho12
    go_wp2_with (first
      | (at_builtin; refine wpList_app0 w12 rfl (.tmp 132) (.tmp 133) 25 rfl 3 Try.underlying25 elemInt rfl A1 N c1 _ rfl hi (iv_one _ _) (by omega) ?_; intro A13 c13 w13 hown13 hq13; have hr13 := hi12.below hq13)
      | (at_builtin; refine wpList_appB _ rfl (.tmp 134) (.tmp 135) 25 rfl w12.heap.size 3 Try.underlying25 elemInt A13 N c13 _ rfl hown13 A12 N3 N3 _ rfl hr13 (iv_one _ _) (by omega) hq13.size ?_; intro A14 c14 w14 hown14 hq14))
    have hq := hq13.trans hq14
    have h14 : Ints .i64 w14 A14 (N + N3) (l ++ inv l3) := by
      have := hown14.reads
      rw [← iv_append] at this
      exact this
    have hcap14 := hown14.cap
    have HWD5 : Hid (Wd n (l ++ inv l3)) := Lib.hid ⟨by have := h14.len; omega, fun k hk => by
      rcases List.mem_append.1 hk with h | h
      · exact HWD.out.2 k h
      · exact inr_inv HS3.out.inr k h⟩
    replace g4 := g4.below hq
    replace g5 := g5.below hq
    replace h6 := h6.below hq
    replace h7 := h7.below hq
    replace g10 := g10.below hq
    replace g11 := g11.below hq
    replace hB := hB.trans (hq.mono hB.size)
    clear hq hq13 hq14 hown13 hown14 hr13 hi12 hi
    refine (act_any n A14 (N + N3) c14 (l ++ inv l3) w14 h14 hcap14.1 hcap14.2 hn1 (by omega) HWD5.out HOK5.out).mono ?_
    rintro e w15 ⟨A15, us15, rfl, hr15, ho15, -, hq⟩
    have g15 : Grid .i64 w15 A15 n (gens n) := by rw [← EU.out]; exact ⟨us15, hr15, ho15⟩
    replace g4 := g4.below hq
    replace g5 := g5.below hq
    replace h6 := h6.below hq
    replace h7 := h7.below hq
    replace g10 := g10.below hq
    replace g11 := g11.below hq
    replace hB := hB.trans (hq.mono hB.size)
    clear hq h14 hr15 ho15
    have hnn : ((n : Int) != (n : Int)) = false := by simp
    go_wp2_with fail
    go_loopw [28] (fun i wr => ∃ q : Nat, q ≤ n ∧ i = .int .i64 q ∧ Below w15.heap.size w15 wr) (fun i _ => n - (intOf i).toNat)
    case atStart => exact ⟨0, by omega, rfl, Below.refl _ _⟩
    case round =>
      obtain ⟨q, hq, rfl, hbel⟩ := hrel
      have g15' := g15.below hbel
      rcases Nat.lt_or_ge q n with hlt | hge
      · obtain ⟨ad, r, mr, cr, lr, rfl, hadl, hcr, hmr, hcr2, hlr, hir⟩ := g15'.at_ hlt
        have elr : lr = [(q : Int) + 1] := by
          unfold gens at hlr
          simp [hlt] at hlr
          exact hlr.symm
        have hmr1 : mr < 1000000000 := by have := hir.len; rw [elr] at this; simp at this; omega
        have HLR := Lib.hid elr
        clear hlr elr
        go_wp2_with fail
        refine (same_eq r _ mr 1 cr 1 lr [(q : Int) + 1] _ (hir.alloc _) (Ints.lit wr 3 [(q : Int) + 1]) hmr1 HLR.out).mono ?_
        rintro e w16 ⟨rfl, hq16⟩
        have hb16 : Below wr.heap.size wr w16 := Below.call _ hq16
        have hb17 := hbel.trans (hb16.mono hbel.size)
        clear hq16 hb16 hcr g15'
        go_wp2_with fail
        go_roundw
        case rel => exact ⟨q + 1, by omega, by go_num, hb17⟩
        case measure => simp [intOf]; omega
      · obtain rfl : n = q := by omega
        have hdq : decide ((n : Int) < (n : Int)) = false := by simp
        have j4 := g4.below hbel
        have j5 := g5.below hbel
        have j6 := h6.below hbel
        have j7 := h7.below hbel
        have j10 := g10.below hbel
        have j11 := g11.below hbel
        have hBr := hB.trans (hbel.mono hB.size)
        have HSZ : Hid (∀ r ∈ actL n l, r.length < 1000000000) := Lib.hid fun r hr => by
          have h := HOK1.out l.length (Nat.le_refl _)
          rw [List.take_length] at h
          have := h r hr
          omega
        clear g4 g5 h6 h7 g10 g11 g15 g15' hbel hB
        go_wp2_with fail
        refine (all_eq A4 A5 n n n n _ _ wr j4 j5 (by omega) HSZ.out EA.out).mono ?_
        rintro e w16 ⟨rfl, hq⟩
        replace j6 := j6.below hq
        replace j7 := j7.below hq
        replace j10 := j10.below hq
        replace j11 := j11.below hq
        replace hBr := hBr.trans (hq.mono hBr.size)
        clear hq j4 j5
        have hst6 := run_str w16 22 5 9 Try.underlying22 Try.underlying5 Try.underlying9 A6 n n _ j6
        have hst7 := run_str w16 22 5 9 Try.underlying22 Try.underlying5 Try.underlying9 A7 n n _ j7
        rw [← EP.out] at hst7
        go_wp2_with fail
        refine (all_eq A10 A11 n n n n _ _ w16 j10 j11 (by omega) HLK.out EL.out).mono ?_
        rintro e w17 ⟨rfl, hq⟩
        have hBs := hBr.trans (hq.mono hBr.size)
        clear hq j10 j11 j6 j7 hst6 hst7 hBr
        go_wp2_with fail
        refine (lives_any w17).mono ?_
        rintro e w18 ⟨rfl, hq⟩
        have hBt := hBs.trans (hq.mono hBs.size)
        go_wp2
        go_ret
        exact ⟨rfl, hBt⟩
  · go_enter Try.func6, Try.ntmps6
    go_wp2_with fail
    have hbk : Blk (w.alloc (.cells #[.slice A m c, .slice B M d] 47)) w.heap.size 47 [.slice A m c, .slice B M d] := Blk.new w _ _
    have hbx : Below w.heap.size w (w.alloc (.cells #[.slice A m c, .slice B M d] 47)) := (Below.refl _ _).alloc (Nat.le_refl _) _
    generalize w.alloc (.cells #[.slice A m c, .slice B M d] 47) = wx at *
    refine (strands_any n0 wx h0 h1).mono ?_
    rintro e wz ⟨rfl, rfl⟩
    rw [← HN.out]
    have hcx0 := hbk.cell 0
    have hcx1 := hbk.cell 1
    have hfx0 := hbk.frozen 0
    simp only [List.getElem?_cons_zero, List.getElem?_cons_succ] at hcx0 hcx1
    have hmx : (m : Int) ≤ 12 := by omega
    go_wp2_with fail
    have hbk2 : Blk (wx.setCell ⟨w.heap.size, 0, none⟩ (.slice A m c)) w.heap.size 47 [.slice A m c, .slice B M d] := hbk.set_ 0 (.slice A m c)
    have hb2 : Below w.heap.size w (wx.setCell ⟨w.heap.size, 0, none⟩ (.slice A m c)) := hbx.setCell (Nat.le_refl _) _
    generalize wx.setCell ⟨w.heap.size, 0, none⟩ (.slice A m c) = wy at *
    have hx2 : Ints .u8 wy A m (xs.take m) := (hx.below hb2).take (by omega)
    have hp2 : Ints .u8 wy B (M * 2) ps := hp.below hb2
    have hgy := hbk2.lt
    have hcy0 := hbk2.cell 0
    have hcy1 := hbk2.cell 1
    simp only [List.getElem?_cons_zero, List.getElem?_cons_succ] at hcy0 hcy1
    clear hcx0 hcx1 hfx0 hbk hbx hx hp hbk2
    have HXT : Hid (∀ x ∈ xs.take m, 0 ≤ x ∧ x ≤ 255) := Lib.hid fun x hx => HXR.out x (List.mem_of_mem_take hx)
    generalize xs.take m = ys at *
    go_region_held3 (fun w' => w'.cell? ⟨w.heap.size, 0, none⟩ = some (.slice A m c) ∧ w'.cell? ⟨w.heap.size, 1, none⟩ = some (.slice B M d)) (first | go_keep | exact ⟨(hb1.cell (p := ⟨w.heap.size, 0, none⟩) hgy).trans hcy0, (hb1.cell (p := ⟨w.heap.size, 1, none⟩) hgy).trans hcy1⟩ | exact ⟨(hb4.cell (p := ⟨w.heap.size, 0, none⟩) hgy).trans hcy0, (hb4.cell (p := ⟨w.heap.size, 1, none⟩) hgy).trans hcy1⟩) (first
      | (go_at_call 22
         refine (other_any A B m c M d ys ps n _ (by omega) (by omega) hx3 (by omega) HXT.out hM hp3 HPR.out).mono ?_
         rintro e w3 ⟨A3, N3, c3, rfl, l3, hi3, hc3, hd3, hfr3, HS3, hb3⟩
         replace hb3 : Below w1.heap.size w1 w3 := (by first | exact hb3 | exact (Below.refl _ w1).drew.trans hb3)
         have hb4 : Below wy.heap.size wy w3 := (by first | exact hb1.trans (hb3.mono hb1.size) | exact hb1.drew.trans (hb3.mono hb1.size)))
      | (go_at_call 8
         refine (of_any A m c ys n _ (by omega) (by omega) hx2.drew (by omega) HXT.out).mono ?_
         rintro e w1 ⟨A1, N, c1, rfl, hown1, hb1⟩
         replace hb1 : Below wy.heap.size wy w1 := (by first | exact hb1 | exact (Below.refl _ wy).drew.trans hb1)
         have hp3 := hp2.below hb1
         have hx3 := hx2.below hb1))
    have hwd := wordOf_wd (n := (n : Int)) (by omega) ys HXT.out
    have hle := wordOf_length_le n ys
    have hyl := hx2.len
    generalize wordOf n ys = l at *
    have hB := hb2.trans (hb4.mono hb2.size)
    have hcap := hown1.cap
    have hi := hown1.ints.below hb3
    have hlen := Lib.hid hi.len
    have hl12 : l.length ≤ 12 := by omega
    have hN : N ≤ 12 := by have := hlen.out; omega
    have HWD := Lib.hid hwd
    have HL12 := Lib.hid hl12
    have hN3 : N3 ≤ 21 := by have := hi3.len; have := HS3.out.len; omega
    have HWD3 : Hid (Wd n l3) := Lib.hid ⟨by have := HS3.out.len; omega, HS3.out.inr⟩
    have HOK1 : Hid (ActOk n l) := Lib.hid (actOk_12 n (by omega) l HWD.out.2 (by omega))
    have HOK3 : Hid (ActOk n l3) := Lib.hid (actOk_same hn2 HS3.out.br HWD.out.2 HS3.out.inr HL12.out HS3.out.len)
    have HOK5 : Hid (ActOk n (l ++ inv l3)) := Lib.hid (actOk_undo hn2 HS3.out.br HWD.out.2 HS3.out.inr HL12.out HS3.out.len)
    have EA : Hid (actL n l = actL n l3) := Lib.hid HS3.out.br.act
    have EP : Hid (permL n l = permL n l3) := Lib.hid HS3.out.br.perm
    have ES : Hid (sumL l = sumL l3) := Lib.hid HS3.out.br.sum
    have EL : Hid (linksL n l = linksL n l3) := Lib.hid HS3.out.br.links
    have EU : Hid (actL n (l ++ inv l3) = gens n) := Lib.hid (act_undone HS3.out.br HS3.out.inr)
    clear hwd hle hyl hl12 hown1 hb1 hb3 hb4 hx2 hx3 hp2 hp3 hcy0 hcy1 hgy hmx HXT hfr3 hb2
    go_wp2_with fail
    refine (act_any n A1 N c1 l w3 hi hcap.1 hcap.2 hn1 (by omega) HWD.out HOK1.out).mono ?_
    rintro e w4 ⟨A4, us4, rfl, hr4, ho4, -, hq⟩
    have g4 : Grid .i64 w4 A4 n (actL n l) := ⟨us4, hr4, ho4⟩
    replace hi := hi.below hq
    replace hi3 := hi3.below hq
    replace hB := hB.trans (hq.mono hB.size)
    clear hq hr4 ho4
    go_wp2_with fail
    refine (act_any n A3 N3 c3 l3 w4 hi3 hc3 hd3 hn1 (by omega) HWD3.out HOK3.out).mono ?_
    rintro e w5 ⟨A5, us5, rfl, hr5, ho5, -, hq⟩
    have g5 : Grid .i64 w5 A5 n (actL n l3) := ⟨us5, hr5, ho5⟩
    replace hi := hi.below hq
    replace hi3 := hi3.below hq
    replace g4 := g4.below hq
    replace hB := hB.trans (hq.mono hB.size)
    clear hq hr5 ho5
    go_wp2_with fail
    refine (permutation_any n A1 N c1 l w5 hi hn1 (by omega) HWD.out).mono ?_
    rintro e w6 ⟨A6, rfl, h6, hq⟩
    replace hi := hi.below hq
    replace hi3 := hi3.below hq
    replace g4 := g4.below hq
    replace g5 := g5.below hq
    replace hB := hB.trans (hq.mono hB.size)
    clear hq
    go_wp2_with fail
    refine (permutation_any n A3 N3 c3 l3 w6 hi3 hn1 (by omega) HWD3.out).mono ?_
    rintro e w7 ⟨A7, rfl, h7, hq⟩
    replace hi := hi.below hq
    replace hi3 := hi3.below hq
    replace g4 := g4.below hq
    replace g5 := g5.below hq
    replace h6 := h6.below hq
    replace hB := hB.trans (hq.mono hB.size)
    clear hq
    go_wp2_with fail
    refine (sum_any n A1 N c1 l w7 hi (by omega) (by omega) HWD.out).mono ?_
    rintro e w8 ⟨rfl, hq⟩
    replace hi := hi.below hq
    replace hi3 := hi3.below hq
    replace g4 := g4.below hq
    replace g5 := g5.below hq
    replace h6 := h6.below hq
    replace h7 := h7.below hq
    replace hB := hB.trans (hq.mono hB.size)
    clear hq
    go_wp2_with fail
    refine (sum_any n A3 N3 c3 l3 w8 hi3 (by omega) (by omega) HWD3.out).mono ?_
    rintro e w9 ⟨rfl, hq⟩
    replace hi := hi.below hq
    replace hi3 := hi3.below hq
    replace g4 := g4.below hq
    replace g5 := g5.below hq
    replace h6 := h6.below hq
    replace h7 := h7.below hq
    replace hB := hB.trans (hq.mono hB.size)
    clear hq
    go_wp2_with fail
    refine (links_any n A1 N c1 l w9 hi hn1 (by omega) HWD.out).mono ?_
    rintro e w10 ⟨A10, rfl, g10, hlk, hq⟩
    have HLK : Hid (∀ r ∈ linksL n l, r.length < 1000000000) := Lib.hid fun r hr => by have := hlk r hr; omega
    clear hlk
    replace hi := hi.below hq
    replace hi3 := hi3.below hq
    replace g4 := g4.below hq
    replace g5 := g5.below hq
    replace h6 := h6.below hq
    replace h7 := h7.below hq
    replace hB := hB.trans (hq.mono hB.size)
    clear hq
    go_wp2_with fail
    refine (links_any n A3 N3 c3 l3 w10 hi3 hn1 (by omega) HWD3.out).mono ?_
    rintro e w11 ⟨A11, rfl, g11, -, hq⟩
    replace hi := hi.below hq
    replace hi3 := hi3.below hq
    replace g4 := g4.below hq
    replace g5 := g5.below hq
    replace h6 := h6.below hq
    replace h7 := h7.below hq
    replace g10 := g10.below hq
    replace hB := hB.trans (hq.mono hB.size)
    clear hq
    rw [← ES.out]
    go_wp2_with fail
    refine (inverseW_any n A3 N3 c3 l3 w11 hi3 (by omega) (by omega) HWD3.out).mono ?_
    rintro e w12 ⟨A12, rfl, ho12, hq⟩
    have hi12 := ho12.ints
    replace hi := hi.below hq
    replace g4 := g4.below hq
    replace g5 := g5.below hq
    replace h6 := h6.below hq
    replace h7 := h7.below hq
    replace g10 := g10.below hq
    replace g11 := g11.below hq
    replace hB := hB.trans (hq.mono hB.size)
    clear hq hi3 ho12
    go_wp2_with (first
      | (at_builtin; refine wpList_app0 w12 rfl (.tmp 132) (.tmp 133) 25 rfl 3 Try.underlying25 elemInt rfl A1 N c1 _ rfl hi (iv_one _ _) (by omega) ?_; intro A13 c13 w13 hown13 hq13; have hr13 := hi12.below hq13)
      | (at_builtin; refine wpList_appB _ rfl (.tmp 134) (.tmp 135) 25 rfl w12.heap.size 3 Try.underlying25 elemInt A13 N c13 _ rfl hown13 A12 N3 N3 _ rfl hr13 (iv_one _ _) (by omega) hq13.size ?_; intro A14 c14 w14 hown14 hq14))
    have hq := hq13.trans hq14
    have h14 : Ints .i64 w14 A14 (N + N3) (l ++ inv l3) := by
      have := hown14.reads
      rw [← iv_append] at this
      exact this
    have hcap14 := hown14.cap
    have HWD5 : Hid (Wd n (l ++ inv l3)) := Lib.hid ⟨by have := h14.len; omega, fun k hk => by
      rcases List.mem_append.1 hk with h | h
      · exact HWD.out.2 k h
      · exact inr_inv HS3.out.inr k h⟩
    replace g4 := g4.below hq
    replace g5 := g5.below hq
    replace h6 := h6.below hq
    replace h7 := h7.below hq
    replace g10 := g10.below hq
    replace g11 := g11.below hq
    replace hB := hB.trans (hq.mono hB.size)
    clear hq hq13 hq14 hown13 hown14 hr13 hi12 hi
    refine (act_any n A14 (N + N3) c14 (l ++ inv l3) w14 h14 hcap14.1 hcap14.2 hn1 (by omega) HWD5.out HOK5.out).mono ?_
    rintro e w15 ⟨A15, us15, rfl, hr15, ho15, -, hq⟩
    have g15 : Grid .i64 w15 A15 n (gens n) := by rw [← EU.out]; exact ⟨us15, hr15, ho15⟩
    replace g4 := g4.below hq
    replace g5 := g5.below hq
    replace h6 := h6.below hq
    replace h7 := h7.below hq
    replace g10 := g10.below hq
    replace g11 := g11.below hq
    replace hB := hB.trans (hq.mono hB.size)
    clear hq h14 hr15 ho15
    have hnn : ((n : Int) != (n : Int)) = false := by simp
    go_wp2_with fail
    go_loopw [28] (fun i wr => ∃ q : Nat, q ≤ n ∧ i = .int .i64 q ∧ Below w15.heap.size w15 wr) (fun i _ => n - (intOf i).toNat)
    case atStart => exact ⟨0, by omega, rfl, Below.refl _ _⟩
    case round =>
      obtain ⟨q, hq, rfl, hbel⟩ := hrel
      have g15' := g15.below hbel
      rcases Nat.lt_or_ge q n with hlt | hge
      · obtain ⟨ad, r, mr, cr, lr, rfl, hadl, hcr, hmr, hcr2, hlr, hir⟩ := g15'.at_ hlt
        have elr : lr = [(q : Int) + 1] := by
          unfold gens at hlr
          simp [hlt] at hlr
          exact hlr.symm
        have hmr1 : mr < 1000000000 := by have := hir.len; rw [elr] at this; simp at this; omega
        have HLR := Lib.hid elr
        clear hlr elr
        go_wp2_with fail
        refine (same_eq r _ mr 1 cr 1 lr [(q : Int) + 1] _ (hir.alloc _) (Ints.lit wr 3 [(q : Int) + 1]) hmr1 HLR.out).mono ?_
        rintro e w16 ⟨rfl, hq16⟩
        have hb16 : Below wr.heap.size wr w16 := Below.call _ hq16
        have hb17 := hbel.trans (hb16.mono hbel.size)
        clear hq16 hb16 hcr g15'
        go_wp2_with fail
        go_roundw
        case rel => exact ⟨q + 1, by omega, by go_num, hb17⟩
        case measure => simp [intOf]; omega
      · obtain rfl : n = q := by omega
        have hdq : decide ((n : Int) < (n : Int)) = false := by simp
        have j4 := g4.below hbel
        have j5 := g5.below hbel
        have j6 := h6.below hbel
        have j7 := h7.below hbel
        have j10 := g10.below hbel
        have j11 := g11.below hbel
        have hBr := hB.trans (hbel.mono hB.size)
        have HSZ : Hid (∀ r ∈ actL n l, r.length < 1000000000) := Lib.hid fun r hr => by
          have h := HOK1.out l.length (Nat.le_refl _)
          rw [List.take_length] at h
          have := h r hr
          omega
        clear g4 g5 h6 h7 g10 g11 g15 g15' hbel hB
        go_wp2_with fail
        refine (all_eq A4 A5 n n n n _ _ wr j4 j5 (by omega) HSZ.out EA.out).mono ?_
        rintro e w16 ⟨rfl, hq⟩
        replace j6 := j6.below hq
        replace j7 := j7.below hq
        replace j10 := j10.below hq
        replace j11 := j11.below hq
        replace hBr := hBr.trans (hq.mono hBr.size)
        clear hq j4 j5
        have hst6 := run_str w16 22 5 9 Try.underlying22 Try.underlying5 Try.underlying9 A6 n n _ j6
        have hst7 := run_str w16 22 5 9 Try.underlying22 Try.underlying5 Try.underlying9 A7 n n _ j7
        rw [← EP.out] at hst7
        go_wp2_with fail
        refine (all_eq A10 A11 n n n n _ _ w16 j10 j11 (by omega) HLK.out EL.out).mono ?_
        rintro e w17 ⟨rfl, hq⟩
        have hBs := hBr.trans (hq.mono hBr.size)
        clear hq j10 j11 j6 j7 hst6 hst7 hBr
        go_wp2_with fail
        refine (lives_any w17).mono ?_
        rintro e w18 ⟨rfl, hq⟩
        have hBt := hBs.trans (hq.mono hBs.size)
        go_wp2
        go_ret
        exact ⟨rfl, hBt⟩

end Go.Proofs.Ytgebiffponbmlaa
