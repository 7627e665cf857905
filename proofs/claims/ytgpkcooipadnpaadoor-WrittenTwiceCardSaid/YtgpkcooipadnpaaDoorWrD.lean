/-
  The list closure of written.Expand at every depth, and Expand itself: every text of at most 2000 bytes. Condition: strconv's variables hold what their initialisers lay (Vars).
-/
import Derived.Test.YtgpkcooipadnpaaDoorWrC
namespace Go.Proofs.YtgpkcooipadnpaaDoor
set_option linter.unusedSimpArgs false
set_option linter.unusedVariables false
open Go.RowKit
set_option maxRecDepth 100000

theorem Env.belowB {B : Nat} {w w' : World} {g k : Nat} {lg : Bool} {s : ByteArray} (h : Env w g k lg s) (hb : Below B w w') (hB : g + 7 ≤ B) : Env w' g k lg s :=
  ⟨h.str.below hb (by omega), h.at_.below hb (by omega), h.long.below hb (by omega), (hb.cell (p := ⟨g + 3, 0, none⟩) (by simp; omega)).trans h.short, (hb.cell (p := ⟨g + 4, 0, none⟩) (by simp; omega)).trans h.word,
    (hb.cell (p := ⟨g + 5, 0, none⟩) (by simp; omega)).trans h.list, (hb.cell (p := ⟨g + 6, 0, none⟩) (by simp; omega)).trans h.item, Nat.le_trans h.room hb.size⟩
theorem dlist_none {f : Nat} {r : List UInt8} {out : List St} {lg : Bool} (h : ditem (fun r1 => dlist f r1 [] false) r = none) : dlist (f + 1) r out lg = none := by
  rw [dlist, h]
theorem dlist_more {f : Nat} {r r3 : List UInt8} {out row : List St} {lg lg1 : Bool} (h : ditem (fun r1 => dlist f r1 [] false) r = some (row, lg1, 32 :: r3)) :
    dlist (f + 1) r out lg = dlist f r3 ((out ++ row).take 16) (lg || (lg1 || decide (16 < (out ++ row).length))) := by
  rw [dlist, h]; rfl
theorem dlist_stop {f : Nat} {r r2 : List UInt8} {out row : List St} {lg lg1 : Bool} (h : ditem (fun r1 => dlist f r1 [] false) r = some (row, lg1, r2)) (h2 : r2.head? ≠ some 32) :
    dlist (f + 1) r out lg = some ((out ++ row).take 16, lg || (lg1 || decide (16 < (out ++ row).length)), r2) := by
  rw [dlist, h]
  simp only []
  split
  · simp at h2
  · rfl

set_option maxHeartbeats 8000000 in
theorem list_step (f : Nat) (hI : ∀ f1, f1 ≤ f → ItemOk f1) : ListOk (f + 1) := by
  intro w g k lg s hE hV hg hk hs hf
  have HV := Lib.hid hV; clear hV
  have HI := Lib.hid hI; clear hI
  go_enter Tryd.func30, Tryd.ntmps30
  go_wp2_with fail
  go_loopg [6] (f + 1) (fun r v wr => ∃ (f1 kk : Nat) (out : List St) (lgk : Bool) (A : Option Addr) (n c : Nat), r = f1 + 1 ∧ f1 ≤ f ∧ v = .slice A n c ∧ Hid (dlist (f + 1) (s.data.toList.drop k) [] false = dlist (f1 + 1) (s.data.toList.drop kk) out lgk ∧ out.length = n) ∧
    Own wr w.heap.size 29 5 A n c (sc out) ∧ Hid (Env wr g kk (lg || lgk) s) ∧ kk ≤ s.size ∧ s.size - kk ≤ f1 ∧ n ≤ 16 ∧ KeptOut (Kg g) w wr)
  case atStart => exact ⟨f, k, [], false, none, 0, 0, rfl, Nat.le_refl _, rfl, Lib.hid ⟨rfl, rfl⟩, Own.nil_, Lib.hid (by rw [Bool.or_false]; exact hE), hk, by omega, by omega, KeptOut.refl w⟩
  case round =>
    obtain ⟨f1, kk, out, lgk, A, n, c, hr, hf1, rfl, HD, hown, HEK, hkk, hff, hn16, hkp⟩ := hrel
    have it0 := HEK.out.item
    have sh0 := HEK.out.short
    have hroom := HEK.out.room
    have HVR := Lib.hid (HV.out.keptK hkp (fun b hb => by rcases hb with rfl | rfl <;> omega))
    have HIC := Lib.hid (HI.out f1 hf1 wr g kk (lg || lgk) s HEK.out HVR.out hg hkk hs hff)
    have hrw : w.heap.size ≤ wr.heap.size := hkp.size
    have hroomw : g + 7 ≤ w.heap.size := hE.room
    go_wp2_with fail
    refine HIC.out.mono ?_
    rintro e w1 ⟨hk1, hres⟩
    have hkk1 := hkp.trans hk1
    have hown1 := hown.keptK hk1 (fun gg hgg => by have := (hown.low gg hgg).1; unfold Kg; omega)
    clear HIC
    cases hd : ditem (fun r1 => dlist f1 r1 [] false) (s.data.toList.drop kk) with
    | none =>
      rw [hd] at hres
      have HDN : Hid (dlist (f + 1) (s.data.toList.drop k) [] false = none) := Lib.hid (by rw [HD.out.1]; exact dlist_none hd)
      clear hd
      obtain ⟨v, rfl⟩ := hres
      go_wp2_with fail
      go_ret2
      rw [HDN.out]
      exact PPost.no hkk1 rfl
    | some res =>
      obtain ⟨row, lg1, r2⟩ := res
      rw [hd] at hres
      obtain ⟨A2, n2, c2, k2, rfl, hst, hfr, hnc2, hcm2, hE1, hdr, hk2, hn2⟩ := hres
      have hsuf := ditem_suffix (fun r o l r2 hr => dlist_suffix f1 r [] false hr) hd
      have hk2k : kk ≤ k2 := by
        have h1 := hsuf.length_le
        rw [← hdr] at h1
        simp at h1
        omega
      have HDI := Lib.hid hd
      have HDR := Lib.hid hdr
      clear hd hdr hsuf
      have HE1 := Lib.hid hE1; clear hE1
      have sh1 := HE1.out.short
      have hroom1 := HE1.out.room
      go_wp2_with fail
      rcases Nat.lt_or_ge 16 (n + n2) with h16 | h16
      · have hlenT : (out ++ row).length = n + n2 := by rw [List.length_append, HD.out.2, hst.len]
        have hlen16 : decide (16 < (out ++ row).length) = true := by rw [hlenT]; exact decide_eq_true h16
        go_region_held3 (fun w' => w'.cell? ⟨g + 3, 0, none⟩ = some (shortV g)) (first | go_keep | exact sh1 | exact hS5 | exact hS4) (first
          | (refine step_appB _ (by rfl) (.tmp 17) (.tmp 18) 22 (by rfl) w.heap.size 29 Tryd.underlying22 elemSt _ _ _ _ (by rfl) hown1 _ _ _ _ (sc row) (by rfl) hst (sc_one _) (by omega) hkk1.size ?_
             intro A4 c4 w4 hown4 hg4 hb4
             replace hb4 : Below w.heap.size w1 w4 := (by first | exact hb4 | exact (Below.refl _ w1).drew.trans hb4)
             clear hg4
             have hE4 := HE1.out.belowB hb4 hroomw
             have hS4 := hE4.short)
          | (go_at_call 23
             refine (shortc_gt A4 (n + n2) c4 (g + 2) (lg || lgk || lg1) _ (by omega) hown4.cap.1 hown4.cap.2 (by first | exact hE4.long | exact hE4.long.drew)).mono ?_
             rintro e w5 ⟨rfl, rfl⟩
             have hS5 : (w4.setCell ⟨g + 2, 0, none⟩ (.bool true)).cell? ⟨g + 3, 0, none⟩ = some (shortV g) := (World.cell?_setCell_other w4 ⟨g + 2, 0, none⟩ ⟨g + 3, 0, none⟩ (.bool true) (by simp)).trans hE4.short))
        have hw5 : KeptOut (Kg g) w4 (w4.setCell ⟨g + 2, 0, none⟩ (.bool true)) := (KeptOut.refl w4).set_ (.inr rfl) _
        have hEF : Env (w4.setCell ⟨g + 2, 0, none⟩ (.bool true)) g k2 (lg || (lgk || (lg1 || decide (16 < (out ++ row).length)))) s := by
          rw [hlen16, Bool.or_true, Bool.or_true, Bool.or_true]
          exact hE4.upd hw5 (hE4.at_.far (p := ⟨g + 2, 0, none⟩) (by simp) _) (hE4.long.set_ 0 (.bool true))
        have hkF : KeptOut (Kg g) w (w4.setCell ⟨g + 2, 0, none⟩ (.bool true)) := (hkk1.step hb4).trans hw5
        have hownF : Own (w4.setCell ⟨g + 2, 0, none⟩ (.bool true)) w.heap.size 29 5 A4 16 c4 (sc ((out ++ row).take 16)) := by
          rw [← sc_take, sc_append]
          exact (hown4.take (by omega)).keptK hw5 (fun gg hgg => by have := (hown4.low gg hgg).1; unfold Kg; omega)
        have hlF : ((out ++ row).take 16).length = 16 := by rw [List.length_take, hlenT]; omega
        generalize w4.setCell ⟨g + 2, 0, none⟩ (.bool true) = wf at *
        have HEF := Lib.hid hEF
        have HHF := Lib.hid hlF
        have aF := hEF.at_.cell 0
        have sF := hEF.str.cell 0
        have fF := hEF.at_.frozen 0
        simp only [List.getElem?_cons_zero] at aF sF
        clear hEF hE4 hlF
        rcases Nat.lt_or_ge k2 s.size with hlt | hge
        · have HDT := Lib.hid (drop_at hlt)
          by_cases h32 : s[k2] = 32
          · have h32b : ((s[k2].toNat : Int) != 32) = false := by rw [h32]; rfl
            have HR2 : Hid (r2 = 32 :: s.data.toList.drop (k2 + 1)) := Lib.hid (by rw [← HDR.out, HDT.out, h32])
            clear h32
            have HDN : Hid (dlist (f + 1) (s.data.toList.drop k) [] false = dlist f1 (s.data.toList.drop (k2 + 1)) ((out ++ row).take 16) (lgk || (lg1 || decide (16 < (out ++ row).length)))) := Lib.hid (by
              rw [HD.out.1]
              have h := HDI.out
              rw [HR2.out] at h
              exact dlist_more h)
            have hkG : KeptOut (Kg g) wf (wf.setCell ⟨g + 1, 0, none⟩ (.int .i64 ((k2 : Int) + 1))) := (KeptOut.refl wf).set_ (.inl rfl) _
            have hEG : Env (wf.setCell ⟨g + 1, 0, none⟩ (.int .i64 ((k2 : Int) + 1))) g (k2 + 1) (lg || (lgk || (lg1 || decide (16 < (out ++ row).length)))) s :=
              HEF.out.upd hkG (HEF.out.at_.set_ 0 _) (HEF.out.long.far (p := ⟨g + 1, 0, none⟩) (by simp) _)
            have hownG := hownF.keptK hkG (fun gg hgg => by have := (hownF.low gg hgg).1; unfold Kg; omega)
            have hkH := hkF.trans hkG
            have HEG := Lib.hid hEG
            clear hEG hkG
            obtain ⟨f2, hf2⟩ : ∃ f2, f1 = f2 + 1 := ⟨f1 - 1, by omega⟩
            have HF2 := Lib.hid hf2
            clear hf2
            go_wp2_with fail
            go_roundg f1
            case measure => omega
            case rel =>
              have e := HF2.out
              subst e
              exact ⟨f2, k2 + 1, _, _, A4, 16, c4, rfl, by omega, rfl, Lib.hid ⟨HDN.out, HHF.out⟩, hownG, HEG, by omega, by omega, by omega, hkH⟩
          · have h32b : ((s[k2].toNat : Int) != 32) = true := u8_ne (b := 32) h32
            have HST : Hid (r2.head? ≠ some 32) := Lib.hid (by rw [← HDR.out, HDT.out]; simpa using h32)
            clear h32
            have HDN : Hid (dlist (f + 1) (s.data.toList.drop k) [] false = some ((out ++ row).take 16, lgk || (lg1 || decide (16 < (out ++ row).length)), r2)) := Lib.hid (by rw [HD.out.1]; exact dlist_stop HDI.out HST.out)
            go_wp2_with fail
            go_ret2
            rw [HDN.out]
            exact PPost.yes hkF rfl hownF.sts hownF.fresh hownF.cap.1 hownF.cap.2 HEF.out HDR.out hk2 (by omega)
        · have HST : Hid (r2.head? ≠ some 32) := Lib.hid (by rw [← HDR.out, drop_end hge]; simp)
          have HDN : Hid (dlist (f + 1) (s.data.toList.drop k) [] false = some ((out ++ row).take 16, lgk || (lg1 || decide (16 < (out ++ row).length)), r2)) := Lib.hid (by rw [HD.out.1]; exact dlist_stop HDI.out HST.out)
          go_wp2_with fail
          go_ret2
          rw [HDN.out]
          exact PPost.yes hkF rfl hownF.sts hownF.fresh hownF.cap.1 hownF.cap.2 HEF.out HDR.out hk2 (by omega)
      · have hlenT : (out ++ row).length = n + n2 := by rw [List.length_append, HD.out.2, hst.len]
        have hlen16 : decide (16 < (out ++ row).length) = false := by rw [hlenT]; exact decide_eq_false (by omega)
        go_region_held3 (fun w' => w'.cell? ⟨g + 3, 0, none⟩ = some (shortV g)) (first | go_keep | exact sh1 | exact hS5 | exact hS4) (first
          | (refine step_appB _ (by rfl) (.tmp 17) (.tmp 18) 22 (by rfl) w.heap.size 29 Tryd.underlying22 elemSt _ _ _ _ (by rfl) hown1 _ _ _ _ (sc row) (by rfl) hst (sc_one _) (by omega) hkk1.size ?_
             intro A4 c4 w4 hown4 hg4 hb4
             replace hb4 : Below w.heap.size w1 w4 := (by first | exact hb4 | exact (Below.refl _ w1).drew.trans hb4)
             clear hg4
             have hE4 := HE1.out.belowB hb4 hroomw
             have hS4 := hE4.short)
          | (go_at_call 23
             refine (shortc_le A4 (n + n2) c4 (g + 2) _ (by omega)).mono ?_
             rintro e w5 ⟨rfl, rfl⟩
             have hS5 := hE4.short))
        have hEF : Env w4 g k2 (lg || (lgk || (lg1 || decide (16 < (out ++ row).length)))) s := by
          rw [hlen16, Bool.or_false, ← Bool.or_assoc]
          exact hE4
        have hkF : KeptOut (Kg g) w w4 := hkk1.step hb4
        have hownF : Own w4 w.heap.size 29 5 A4 (n + n2) c4 (sc ((out ++ row).take 16)) := by
          rw [List.take_of_length_le (by omega), sc_append]
          exact hown4
        have hlF : ((out ++ row).take 16).length = n + n2 := by rw [List.take_of_length_le (by omega), hlenT]
        have HEF := Lib.hid hEF
        have HHF := Lib.hid hlF
        have aF := hEF.at_.cell 0
        have sF := hEF.str.cell 0
        have fF := hEF.at_.frozen 0
        simp only [List.getElem?_cons_zero] at aF sF
        clear hEF hE4 hlF
        rcases Nat.lt_or_ge k2 s.size with hlt | hge
        · have HDT := Lib.hid (drop_at hlt)
          by_cases h32 : s[k2] = 32
          · have h32b : ((s[k2].toNat : Int) != 32) = false := by rw [h32]; rfl
            have HR2 : Hid (r2 = 32 :: s.data.toList.drop (k2 + 1)) := Lib.hid (by rw [← HDR.out, HDT.out, h32])
            clear h32
            have HDN : Hid (dlist (f + 1) (s.data.toList.drop k) [] false = dlist f1 (s.data.toList.drop (k2 + 1)) ((out ++ row).take 16) (lgk || (lg1 || decide (16 < (out ++ row).length)))) := Lib.hid (by
              rw [HD.out.1]
              have h := HDI.out
              rw [HR2.out] at h
              exact dlist_more h)
            have hkG : KeptOut (Kg g) w4 (w4.setCell ⟨g + 1, 0, none⟩ (.int .i64 ((k2 : Int) + 1))) := (KeptOut.refl w4).set_ (.inl rfl) _
            have hEG : Env (w4.setCell ⟨g + 1, 0, none⟩ (.int .i64 ((k2 : Int) + 1))) g (k2 + 1) (lg || (lgk || (lg1 || decide (16 < (out ++ row).length)))) s :=
              HEF.out.upd hkG (HEF.out.at_.set_ 0 _) (HEF.out.long.far (p := ⟨g + 1, 0, none⟩) (by simp) _)
            have hownG := hownF.keptK hkG (fun gg hgg => by have := (hownF.low gg hgg).1; unfold Kg; omega)
            have hkH := hkF.trans hkG
            have HEG := Lib.hid hEG
            clear hEG hkG
            obtain ⟨f2, hf2⟩ : ∃ f2, f1 = f2 + 1 := ⟨f1 - 1, by omega⟩
            have HF2 := Lib.hid hf2
            clear hf2
            go_wp2_with fail
            go_roundg f1
            case measure => omega
            case rel =>
              have e := HF2.out
              subst e
              exact ⟨f2, k2 + 1, _, _, A4, (n + n2), c4, rfl, by omega, rfl, Lib.hid ⟨HDN.out, HHF.out⟩, hownG, HEG, by omega, by omega, by omega, hkH⟩
          · have h32b : ((s[k2].toNat : Int) != 32) = true := u8_ne (b := 32) h32
            have HST : Hid (r2.head? ≠ some 32) := Lib.hid (by rw [← HDR.out, HDT.out]; simpa using h32)
            clear h32
            have HDN : Hid (dlist (f + 1) (s.data.toList.drop k) [] false = some ((out ++ row).take 16, lgk || (lg1 || decide (16 < (out ++ row).length)), r2)) := Lib.hid (by rw [HD.out.1]; exact dlist_stop HDI.out HST.out)
            go_wp2_with fail
            go_ret2
            rw [HDN.out]
            exact PPost.yes hkF rfl hownF.sts hownF.fresh hownF.cap.1 hownF.cap.2 HEF.out HDR.out hk2 (by omega)
        · have HST : Hid (r2.head? ≠ some 32) := Lib.hid (by rw [← HDR.out, drop_end hge]; simp)
          have HDN : Hid (dlist (f + 1) (s.data.toList.drop k) [] false = some ((out ++ row).take 16, lgk || (lg1 || decide (16 < (out ++ row).length)), r2)) := Lib.hid (by rw [HD.out.1]; exact dlist_stop HDI.out HST.out)
          go_wp2_with fail
          go_ret2
          rw [HDN.out]
          exact PPost.yes hkF rfl hownF.sts hownF.fresh hownF.cap.1 hownF.cap.2 HEF.out HDR.out hk2 (by omega)

end Go.Proofs.YtgpkcooipadnpaaDoor
