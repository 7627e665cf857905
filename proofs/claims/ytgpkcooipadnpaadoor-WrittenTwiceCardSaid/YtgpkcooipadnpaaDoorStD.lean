/-
  Contract of stitches.Parse: every text of at most 1000000 bytes. No conditions.
-/
import Derived.Test.YtgpkcooipadnpaaDoorStC
namespace Go.Proofs.YtgpkcooipadnpaaDoor
set_option linter.unusedSimpArgs false
set_option linter.unusedVariables false
open Go.RowKit
set_option maxRecDepth 100000

/-- What Parse returns. -/
def StOut (t : List UInt8) (e : Ending) : Prop := match stParse t with
  | some x => e = .returned (.tuple #[x.val, .int .i64 0])
  | none => e = .returned (.tuple #[St.zero.val, .int .i64 4])

def sy (k : Nat) : Int := [0, 107, 112, 111, 47, 118, 116, 115, 99].getD k 0
theorem sy_index0 (w : World) : (Instr.index 76 symsV (.int .i64 0)).run Tryd.prog w = .ok (.int .u8 0) w := by kernel_rfl
theorem sy_index1 (w : World) : (Instr.index 76 symsV (.int .i64 1)).run Tryd.prog w = .ok (.int .u8 107) w := by kernel_rfl
theorem sy_index2 (w : World) : (Instr.index 76 symsV (.int .i64 2)).run Tryd.prog w = .ok (.int .u8 112) w := by kernel_rfl
theorem sy_index3 (w : World) : (Instr.index 76 symsV (.int .i64 3)).run Tryd.prog w = .ok (.int .u8 111) w := by kernel_rfl
theorem sy_index4 (w : World) : (Instr.index 76 symsV (.int .i64 4)).run Tryd.prog w = .ok (.int .u8 47) w := by kernel_rfl
theorem sy_index5 (w : World) : (Instr.index 76 symsV (.int .i64 5)).run Tryd.prog w = .ok (.int .u8 118) w := by kernel_rfl
theorem sy_index6 (w : World) : (Instr.index 76 symsV (.int .i64 6)).run Tryd.prog w = .ok (.int .u8 116) w := by kernel_rfl
theorem sy_index7 (w : World) : (Instr.index 76 symsV (.int .i64 7)).run Tryd.prog w = .ok (.int .u8 115) w := by kernel_rfl
theorem sy_index8 (w : World) : (Instr.index 76 symsV (.int .i64 8)).run Tryd.prog w = .ok (.int .u8 99) w := by kernel_rfl
theorem sy_index (k : Nat) (h : k < 9) (w : World) : (Instr.index 76 symsV (.int .i64 (k : Int))).run Tryd.prog w = .ok (.int .u8 (sy k)) w := by
  have hk : k = 0 ∨ k = 1 ∨ k = 2 ∨ k = 3 ∨ k = 4 ∨ k = 5 ∨ k = 6 ∨ k = 7 ∨ k = 8 := by omega
  rcases hk with h | h | h | h | h | h | h | h | h <;> subst h
  · exact sy_index0 w
  · exact sy_index1 w
  · exact sy_index2 w
  · exact sy_index3 w
  · exact sy_index4 w
  · exact sy_index5 w
  · exact sy_index6 w
  · exact sy_index7 w
  · exact sy_index8 w
theorem sy_range (k : Nat) (h : k < 9) : 0 ≤ sy k ∧ sy k ≤ 255 := by
  have hk : k = 0 ∨ k = 1 ∨ k = 2 ∨ k = 3 ∨ k = 4 ∨ k = 5 ∨ k = 6 ∨ k = 7 ∨ k = 8 := by omega
  rcases hk with h | h | h | h | h | h | h | h | h <;> subst h <;> decide
theorem kindOf_range (c : UInt8) : 0 ≤ kindOf c ∧ kindOf c ≤ 8 := by unfold kindOf; repeat' split
                                                                     all_goals omega
theorem kindOf_sy (c : UInt8) (k : Nat) (h1 : 1 ≤ k) (h : k < 9) : ((sy k == (c.toNat : Int)) = true ↔ kindOf c = k) := by
  have hk : k = 1 ∨ k = 2 ∨ k = 3 ∨ k = 4 ∨ k = 5 ∨ k = 6 ∨ k = 7 ∨ k = 8 := by omega
  have hall : ∀ n : Fin 256, ∀ k : Fin 9, 1 ≤ k.val → ((sy k.val == ((UInt8.ofNat n.val).toNat : Int)) = true ↔ kindOf (UInt8.ofNat n.val) = (k.val : Int)) := by decide +kernel
  have := hall ⟨c.toNat, c.toNat_lt⟩ ⟨k, h⟩ h1
  simpa using this

theorem StOut.nocand {t : List UInt8} (h : cand t = none) : StOut t (.returned (.tuple #[St.zero.val, .int .i64 4])) := by
  have e : stParse t = none := by unfold stParse; rw [h]
  unfold StOut; rw [e]
theorem StOut.eq {t : List UInt8} {x : St} (h : cand t = some x) (h2 : stText x = t) : StOut t (.returned (.tuple #[x.val, .int .i64 0])) := by
  have e : stParse t = some x := by unfold stParse; rw [h]; exact if_pos h2
  unfold StOut; rw [e]
theorem StOut.ne {t : List UInt8} {x : St} (h : cand t = some x) (h2 : ¬ stText x = t) : StOut t (.returned (.tuple #[St.zero.val, .int .i64 4])) := by
  have e : stParse t = none := by unfold stParse; rw [h]; exact if_neg h2
  unfold StOut; rw [e]
theorem cand_other {c : UInt8} {r : List UInt8} (h : ¬ kindOf c = 8) : cand (c :: r) = some ⟨kindOf c, yarnOf r, 0, 0, false⟩ := by unfold cand; exact if_neg h
theorem cand_cable {c x y z : UInt8} {r : List UInt8} (h : kindOf c = 8) : cand (c :: x :: y :: z :: r) = some ⟨8, yarnOf r, (x.toNat : Int) - 48, (y.toNat : Int) - 48, z == 70⟩ := by unfold cand; exact if_pos h
theorem cand_short {c : UInt8} {r : List UInt8} (h : kindOf c = 8) (hl : r.length < 3) : cand (c :: r) = none := by
  match r, hl with
  | [], _ => exact if_pos h
  | [_], _ => exact if_pos h
  | [_, _], _ => exact if_pos h
  | _ :: _ :: _ :: _, hl => simp at hl; omega
theorem one_of {r : ByteArray} (h : r.size = 1) : r.data.toList = [r[0]] := by
  have h1 := drop_at (s := r) (k := 0) (by omega)
  rw [List.drop_zero, drop_end (s := r) (k := 0 + 1) (by omega)] at h1
  exact h1
theorem yarnOf_hi {r : ByteArray} (h : r.size = 1) (hx : 48 ≤ r[0].toNat) : yarnOf r.data.toList = (r[0].toNat : Int) - 48 := by
  rw [one_of h]; exact if_pos hx
theorem yarnOf_lo {r : ByteArray} (h : r.size = 1) (hx : ¬ 48 ≤ r[0].toNat) : yarnOf r.data.toList = (r[0].toNat : Int) + 208 := by
  rw [one_of h]; exact if_neg hx
theorem yarnOf_not {l : List UInt8} (h : l.length ≠ 1) : yarnOf l = 1 := by
  unfold yarnOf
  split
  · simp at h
  · rfl

/-- The kind found among the first k symbols. -/
def kUp (k : Nat) (c : UInt8) : Int := if kindOf c < k then kindOf c else 0
theorem kUp_zero (c : UInt8) : kUp 0 c = 0 := by unfold kUp; have := kindOf_range c; rw [if_neg (by omega)]
theorem kUp_one (c : UInt8) : kUp (0 + 1) c = 0 := by unfold kUp; have := kindOf_range c; split <;> omega
theorem kUp_nine (c : UInt8) : kUp 9 c = kindOf c := by unfold kUp; have := kindOf_range c; rw [if_pos (by omega)]
theorem kUp_hit {k : Nat} {c : UInt8} (h : kindOf c = k) : kUp (k + 1) c = k := by unfold kUp; rw [h, if_pos (by omega)]
theorem kUp_miss {k : Nat} {c : UInt8} (h : ¬ kindOf c = k) : kUp (k + 1) c = kUp k c := by
  unfold kUp
  split <;> split <;> omega

set_option maxHeartbeats 4000000 in
theorem stParse_any (s : ByteArray) (w : World) (hs : s.size ≤ 1000000) :
    Calls Tryd.prog 26 #[.string s] w fun e w' => StOut s.data.toList e ∧ Below w.heap.size w w' := by
  rcases Nat.eq_zero_or_pos s.size with h0 | hpos
  · have hnil : s.data.toList = [] := List.eq_nil_of_length_eq_zero (by simpa using h0)
    have HNIL := Lib.hid hnil; clear hnil
    have hb : ((s.size : Int) == 0) = true := by simp [h0]
    go_enter Tryd.func26, Tryd.ntmps26
    go_wp2_with fail
    exact bodyPost_ret (v := .tuple #[St.zero.val, .int .i64 4]) (by simp [results, Tryd.results26, go_sem, St.zero]) rfl ⟨by unfold StOut; rw [HNIL.out]; rfl, (Below.refl _ _).alloc (Nat.le_refl _) _⟩
  · have hb : ((s.size : Int) == 0) = false := by rw [beq_eq_false_iff_ne]; omega
    have hc0 : s[0].toNat < 256 := (s[0]'hpos).toNat_lt
    go_enter Tryd.func26, Tryd.ntmps26
    go_wp2_with fail
    refine (symbols_any _).mono ?_
    rintro e w1 ⟨rfl, hb1⟩
    have bk0 : Blk (((w.alloc (.cells #[.int .u8 0, .int .u8 0, .int .i64 0, .int .i64 0, .bool false] 29)).alloc (.cells #[.int .u8 0, .int .u8 1, .int .i64 0, .int .i64 0, .bool false] 29))) w.heap.size 29 [.int .u8 0, .int .u8 0, .int .i64 0, .int .i64 0, .bool false] := (Blk.new w _ _).alloc _
    have bk1 : Blk (((w.alloc (.cells #[.int .u8 0, .int .u8 0, .int .i64 0, .int .i64 0, .bool false] 29)).alloc (.cells #[.int .u8 0, .int .u8 1, .int .i64 0, .int .i64 0, .bool false] 29))) (w.heap.size + 1) 29 [.int .u8 0, .int .u8 1, .int .i64 0, .int .i64 0, .bool false] := by
      have h := Blk.new (w.alloc (.cells #[.int .u8 0, .int .u8 0, .int .i64 0, .int .i64 0, .bool false] 29)) 29 [.int .u8 0, .int .u8 1, .int .i64 0, .int .i64 0, .bool false]
      rwa [show (w.alloc (.cells #[.int .u8 0, .int .u8 0, .int .i64 0, .int .i64 0, .bool false] 29)).heap.size = w.heap.size + 1 by simp] at h
    have hB1 : Below w.heap.size w w1 := (((Below.refl _ w).alloc (Nat.le_refl _) _).alloc (by simp) _).trans (hb1.mono (by simp; omega))
    have bk0' := bk0.below hb1 bk0.lt
    have bk1' := bk1.below hb1 bk1.lt
    clear hb1 bk0 bk1
    have HSY := Lib.hid (fun k h => sy_range k h)
    have HIX := Lib.hid (fun k h w => sy_index k h w)
    go_wp2_with fail
    go_loopw [14] (fun i wr => ∃ k : Nat, k ≤ 9 ∧ i = .int .i64 k ∧ Blk wr (w.heap.size + 1) 29 [.int .u8 (kUp k s[0]), .int .u8 1, .int .i64 0, .int .i64 0, .bool false] ∧ Blk wr w.heap.size 29 [.int .u8 0, .int .u8 0, .int .i64 0, .int .i64 0, .bool false] ∧ Below w.heap.size w wr) (fun i _ => 9 - (intOf i).toNat)
    case atStart => exact ⟨0, by omega, rfl, by rw [kUp_zero]; exact bk1', bk0', hB1⟩
    case round =>
      clear bk0' bk1' hB1
      obtain ⟨k, hk, rfl, bk1, bk0, hbel⟩ := hrel
      rcases Nat.lt_or_ge k 9 with hlt | hge
      · have hix := HIX.out k hlt
        have hsr := HSY.out k hlt
        have cA := bk1.cell 0
        have fA := bk1.frozen 0
        simp only [List.getElem?_cons_zero] at cA
        rcases Nat.eq_zero_or_pos k with h0 | hp
        · subst h0
          clear hix
          have hix := fun W => sy_index0 W
          go_wp2_with fail
          go_roundw
          case rel => exact ⟨1, by omega, by go_num, by rw [kUp_one]; rw [kUp_zero] at bk1; exact bk1, bk0, hbel⟩
          case measure => simp [intOf]
        · have hkb : decide (0 < (k : Int)) = true := by simp; omega
          have HKS := Lib.hid (kindOf_sy s[0] k hp hlt)
          by_cases he : kindOf s[0] = k
          · have heb : (sy k == (s[0].toNat : Int)) = true := HKS.out.2 he
            have HU := Lib.hid (kUp_hit he)
            clear he
            have hbk2 := bk1.set_ 0 (.int .u8 (k : Int))
            have hbk0 := bk0.far (p := ⟨w.heap.size + 1, 0, none⟩) (by simp) (.int .u8 (k : Int))
            have hb2 : Below w.heap.size w (wr.setCell ⟨w.heap.size + 1, 0, none⟩ (.int .u8 (k : Int))) := hbel.setCell (by simp) _
            go_wp2_with fail
            go_roundw
            case rel => exact ⟨k + 1, by omega, by go_num, by rw [HU.out]; exact hbk2, hbk0, hb2⟩
            case measure => simp [intOf]; omega
          · have heb : (sy k == (s[0].toNat : Int)) = false := by
              cases h : (sy k == (s[0].toNat : Int)) with
              | false => rfl
              | true => exact absurd (HKS.out.1 h) he
            have HU := Lib.hid (kUp_miss he)
            clear he
            go_wp2_with fail
            go_roundw
            case rel => exact ⟨k + 1, by omega, by go_num, by rw [HU.out]; exact bk1, bk0, hbel⟩
            case measure => simp [intOf]; omega
      · obtain rfl : k = 9 := by omega
        rw [kUp_nine] at bk1
        have hkr := kindOf_range s[0]
        obtain ⟨r, hr⟩ : ∃ r, r = s.extract 1 s.size := ⟨_, rfl⟩
        have HLS : Hid (s.data.toList = s[0] :: r.data.toList) := Lib.hid (by
          have h1 := drop_at hpos
          rw [List.drop_zero] at h1
          rw [hr, Lib.extract_to_end]
          exact h1)
        have hrz : r.size = s.size - 1 := by rw [hr, ByteArray.size_extract]; omega
        have HRZ : Hid (r.data.toList.length = r.size) := Lib.hid (by simp)
        replace hr := hr.symm
        have hrl : r.size ≤ 1000000 := by omega
        have HRS := Lib.hid hrz
        clear hrz
        have cA := bk1.cell 0
        have cB := bk1.cell 1
        have cC := bk1.cell 2
        have cD := bk1.cell 3
        have cE := bk1.cell 4
        simp only [List.getElem?_cons_zero, List.getElem?_cons_succ] at cA cB cC cD cE
        by_cases hk8 : kindOf s[0] = 8
        · have HK8 := Lib.hid hk8
          have hk8b : (kindOf s[0] == 8) = true := by rw [beq_iff_eq]; exact hk8
          clear hk8
          rcases Nat.lt_or_ge r.size 3 with h3 | h3
          · have h3b : decide ((r.size : Int) < 3) = true := by simp; omega
            have HCA : Hid (cand s.data.toList = none) := Lib.hid (by rw [HLS.out]; exact cand_short HK8.out (by rw [HRZ.out]; exact h3))
            have e0 := bk0.cell 0
            have e1 := bk0.cell 1
            have e2 := bk0.cell 2
            have e3 := bk0.cell 3
            have e4 := bk0.cell 4
            have f0 := bk0.frozen 0
            have f1 := bk0.frozen 1
            have f2 := bk0.frozen 2
            have f3 := bk0.frozen 3
            have f4 := bk0.frozen 4
            simp only [List.getElem?_cons_zero, List.getElem?_cons_succ] at e0 e1 e2 e3 e4
            go_wp2_with fail
            have bk5 := bk0
            have hb5 := Below.refl wr.heap.size wr
            have hbz := hbel
            have bk05 := bk0
            have bkF := ((((bk05.set_ 0 (.int .u8 0)).set_ 1 (.int .u8 0)).set_ 2 (.int .i64 0)).set_ 3 (.int .i64 0)).set_ 4 (.bool false)
            simp only [List.set_cons_zero, List.set_cons_succ] at bkF
            have hbF : Below w.heap.size w _ := (((((hbz.trans (hb5.mono hbz.size)).setCell (p := ⟨w.heap.size, 0, none⟩) (Nat.le_refl _) (.int .u8 0)).setCell (p := ⟨w.heap.size, 1, none⟩) (Nat.le_refl _) (.int .u8 0)).setCell (p := ⟨w.heap.size, 2, none⟩) (Nat.le_refl _) (.int .i64 0)).setCell (p := ⟨w.heap.size, 3, none⟩) (Nat.le_refl _) (.int .i64 0)).setCell (p := ⟨w.heap.size, 4, none⟩) (Nat.le_refl _) (.bool false)
            have z0 := bkF.cell 0
            have z1 := bkF.cell 1
            have z2 := bkF.cell 2
            have z3 := bkF.cell 3
            have z4 := bkF.cell 4
            simp only [List.getElem?_cons_zero, List.getElem?_cons_succ] at z0 z1 z2 z3 z4
            clear e0 e1 e2 e3 e4 f0 f1 f2 f3 f4
            exact bodyPost_ret (v := .tuple #[St.val ⟨0, 0, 0, 0, false⟩, .int .i64 4]) (by simp [results, Tryd.results26, go_sem, z0, z1, z2, z3, z4]) rfl ⟨StOut.nocand HCA.out, hbF⟩
          · have h3b : decide ((r.size : Int) < 3) = false := by simp; omega
            have hx0 : r[0].toNat < 256 := r[0].toNat_lt
            have hx1 : r[1].toNat < 256 := r[1].toNat_lt
            have hi0 : 0 < r.size := by omega
            have hi1 : (1 : Int) < (r.size : Int) := by omega
            have hi2 : (2 : Int) < (r.size : Int) := by omega
            have fC := bk1.frozen 2
            have fD := bk1.frozen 3
            have fE := bk1.frozen 4
            go_wp2_with fail
            have hr0i : ∀ v : Int, IntKind.i64.wrap v = IntKind.i64.wrap v := fun _ => rfl
            clear hr0i
            obtain ⟨fr, hfr⟩ : ∃ fr : Bool, ((r[2].toNat : Int) == 70) = fr := ⟨_, rfl⟩
            obtain ⟨q, hq⟩ : ∃ q, q = r.extract 3 r.size := ⟨_, rfl⟩
            have hqz : q.size = r.size - 3 := by rw [hq, ByteArray.size_extract]; omega
            have HLR : Hid (r.data.toList = r[0] :: r[1] :: r[2] :: q.data.toList) := Lib.hid (by
              have h0 := drop_at (s := r) (k := 0) (by omega)
              have h1 := drop_at (s := r) (k := 0 + 1) (by omega)
              have h2 := drop_at (s := r) (k := 0 + 1 + 1) (by omega)
              rw [List.drop_zero, h1, h2] at h0
              rw [hq, Lib.extract_to_end]
              exact h0)
            have HFR : Hid ((r[2] == 70) = fr) := Lib.hid (by
              rw [← hfr, Bool.eq_iff_iff, beq_iff_eq, beq_iff_eq]
              constructor
              · intro e; rw [e]; rfl
              · intro e; exact UInt8.toNat_inj.1 (by simpa using Int.ofNat.inj e))
            replace hq := hq.symm
            have HQZ : Hid (q.data.toList.length = q.size) := Lib.hid (by simp)
            have hql : q.size ≤ 1000000 := by omega
            clear hqz
            have bkY := (((bk1.set_ 2 (.int .i64 ((r[0].toNat : Int) - 48))).set_ 3 (.int .i64 ((r[1].toNat : Int) - 48))).set_ 4 (.bool fr)).drew
            have bk0y := (((bk0.far (p := ⟨w.heap.size + 1, 2, none⟩) (by simp) (.int .i64 ((r[0].toNat : Int) - 48))).far (p := ⟨w.heap.size + 1, 3, none⟩) (by simp) (.int .i64 ((r[1].toNat : Int) - 48))).far (p := ⟨w.heap.size + 1, 4, none⟩) (by simp) (.bool fr)).drew
            have hby := (((hbel.setCell (p := ⟨w.heap.size + 1, 2, none⟩) (by simp) (.int .i64 ((r[0].toNat : Int) - 48))).setCell (p := ⟨w.heap.size + 1, 3, none⟩) (by simp) (.int .i64 ((r[1].toNat : Int) - 48))).setCell (p := ⟨w.heap.size + 1, 4, none⟩) (by simp) (.bool fr)).drew
            simp only [List.set_cons_zero, List.set_cons_succ] at bkY
            go_region
            generalize (((wr.setCell ⟨w.heap.size + 1, 2, none⟩ (.int .i64 ((r[0].toNat : Int) - 48))).setCell ⟨w.heap.size + 1, 3, none⟩ (.int .i64 ((r[1].toNat : Int) - 48))).setCell ⟨w.heap.size + 1, 4, none⟩ (.bool fr)).drew = wy at *
            clear cA cB cC cD cE fC fD fE
            have cA := bkY.cell 0
            have cB := bkY.cell 1
            have cC := bkY.cell 2
            have cD := bkY.cell 3
            have cE := bkY.cell 4
            simp only [List.getElem?_cons_zero, List.getElem?_cons_succ] at cA cB cC cD cE
            by_cases hy : q.size = 1
            · have hq0 : 0 < q.size := by omega
              by_cases hx : 48 ≤ q[0].toNat
              · have HX := Lib.hid hx
                clear hx
                have hyb : ((q.size : Int) == 1) = true := by rw [beq_iff_eq]; omega
                have hz0 : q[0].toNat < 256 := q[0].toNat_lt
                have hx48 : 48 ≤ (q[0].toNat : Int) := by have := HX.out; omega
                have HCA : Hid (cand s.data.toList = some ⟨kindOf s[0], (q[0].toNat : Int) - 48, (r[0].toNat : Int) - 48, (r[1].toNat : Int) - 48, fr⟩) := Lib.hid (by rw [HLS.out, HLR.out, cand_cable HK8.out, HFR.out, HK8.out, yarnOf_hi (by omega) HX.out])
                have fB := bkY.frozen 1
                have bkZ := bkY.set_ 1 (.int .u8 ((q[0].toNat : Int) - 48))
                have bk0z := bk0y.far (p := ⟨w.heap.size + 1, 1, none⟩) (by simp) (.int .u8 ((q[0].toNat : Int) - 48))
                have hbz : Below w.heap.size w (wy.setCell ⟨w.heap.size + 1, 1, none⟩ (.int .u8 ((q[0].toNat : Int) - 48))) := Below.setCell hby (by simp) _
                simp only [List.set_cons_zero, List.set_cons_succ] at bkZ
                have hwf : Hid (St.wf ⟨(kindOf s[0]), ((q[0].toNat : Int) - 48), ((r[0].toNat : Int) - 48), ((r[1].toNat : Int) - 48), fr⟩) := Lib.hid (by unfold St.wf; simp only; first | omega | (have := HX.out; omega))
                by_cases ht : stText ⟨(kindOf s[0]), ((q[0].toNat : Int) - 48), ((r[0].toNat : Int) - 48), ((r[1].toNat : Int) - 48), fr⟩ = s.toList
                · have HTE := Lib.hid (ht.trans (toList_eq s))
                  have htb : (stText ⟨(kindOf s[0]), ((q[0].toNat : Int) - 48), ((r[0].toNat : Int) - 48), ((r[1].toNat : Int) - 48), fr⟩ == s.toList) = true := beq_iff_eq.2 ht
                  clear ht
                  go_wp2_with fail
                  refine (stText_any ⟨(kindOf s[0]), ((q[0].toNat : Int) - 48), ((r[0].toNat : Int) - 48), ((r[1].toNat : Int) - 48), fr⟩ _ hwf.out).mono ?_
                  rintro e w5 ⟨rfl, hb5⟩
                  have bk5 := bkZ.below hb5 bkZ.lt
                  have d0 := bk5.cell 0
                  have d1 := bk5.cell 1
                  have d2 := bk5.cell 2
                  have d3 := bk5.cell 3
                  have d4 := bk5.cell 4
                  simp only [List.getElem?_cons_zero, List.getElem?_cons_succ] at d0 d1 d2 d3 d4
                  have bk05 := bk0z.below hb5 bk0z.lt
                  have e0 := bk05.cell 0
                  have e1 := bk05.cell 1
                  have e2 := bk05.cell 2
                  have e3 := bk05.cell 3
                  have e4 := bk05.cell 4
                  have f0 := bk05.frozen 0
                  have f1 := bk05.frozen 1
                  have f2 := bk05.frozen 2
                  have f3 := bk05.frozen 3
                  have f4 := bk05.frozen 4
                  simp only [List.getElem?_cons_zero, List.getElem?_cons_succ] at e0 e1 e2 e3 e4
                  go_wp2_with fail
                  have bkF := ((((bk05.set_ 0 (.int .u8 (kindOf s[0]))).set_ 1 (.int .u8 ((q[0].toNat : Int) - 48))).set_ 2 (.int .i64 ((r[0].toNat : Int) - 48))).set_ 3 (.int .i64 ((r[1].toNat : Int) - 48))).set_ 4 (.bool fr)
                  simp only [List.set_cons_zero, List.set_cons_succ] at bkF
                  have hbF : Below w.heap.size w _ := (((((hbz.trans (hb5.mono hbz.size)).setCell (p := ⟨w.heap.size, 0, none⟩) (Nat.le_refl _) (.int .u8 (kindOf s[0]))).setCell (p := ⟨w.heap.size, 1, none⟩) (Nat.le_refl _) (.int .u8 ((q[0].toNat : Int) - 48))).setCell (p := ⟨w.heap.size, 2, none⟩) (Nat.le_refl _) (.int .i64 ((r[0].toNat : Int) - 48))).setCell (p := ⟨w.heap.size, 3, none⟩) (Nat.le_refl _) (.int .i64 ((r[1].toNat : Int) - 48))).setCell (p := ⟨w.heap.size, 4, none⟩) (Nat.le_refl _) (.bool fr)
                  have z0 := bkF.cell 0
                  have z1 := bkF.cell 1
                  have z2 := bkF.cell 2
                  have z3 := bkF.cell 3
                  have z4 := bkF.cell 4
                  simp only [List.getElem?_cons_zero, List.getElem?_cons_succ] at z0 z1 z2 z3 z4
                  clear e0 e1 e2 e3 e4 f0 f1 f2 f3 f4
                  exact bodyPost_ret (v := .tuple #[St.val ⟨(kindOf s[0]), ((q[0].toNat : Int) - 48), ((r[0].toNat : Int) - 48), ((r[1].toNat : Int) - 48), fr⟩, .int .i64 0]) (by simp [results, Tryd.results26, go_sem, z0, z1, z2, z3, z4]) rfl ⟨StOut.eq HCA.out HTE.out, hbF⟩
                · have HTE : Hid (¬ stText ⟨(kindOf s[0]), ((q[0].toNat : Int) - 48), ((r[0].toNat : Int) - 48), ((r[1].toNat : Int) - 48), fr⟩ = s.data.toList) := Lib.hid (fun e => ht (e.trans (toList_eq s).symm))
                  have htb : (stText ⟨(kindOf s[0]), ((q[0].toNat : Int) - 48), ((r[0].toNat : Int) - 48), ((r[1].toNat : Int) - 48), fr⟩ == s.toList) = false := beq_eq_false_iff_ne.2 ht
                  clear ht
                  go_wp2_with fail
                  refine (stText_any ⟨(kindOf s[0]), ((q[0].toNat : Int) - 48), ((r[0].toNat : Int) - 48), ((r[1].toNat : Int) - 48), fr⟩ _ hwf.out).mono ?_
                  rintro e w5 ⟨rfl, hb5⟩
                  have bk05 := bk0z.below hb5 bk0z.lt
                  have e0 := bk05.cell 0
                  have e1 := bk05.cell 1
                  have e2 := bk05.cell 2
                  have e3 := bk05.cell 3
                  have e4 := bk05.cell 4
                  have f0 := bk05.frozen 0
                  have f1 := bk05.frozen 1
                  have f2 := bk05.frozen 2
                  have f3 := bk05.frozen 3
                  have f4 := bk05.frozen 4
                  simp only [List.getElem?_cons_zero, List.getElem?_cons_succ] at e0 e1 e2 e3 e4
                  go_wp2_with fail
                  have bkF := ((((bk05.set_ 0 (.int .u8 0)).set_ 1 (.int .u8 0)).set_ 2 (.int .i64 0)).set_ 3 (.int .i64 0)).set_ 4 (.bool false)
                  simp only [List.set_cons_zero, List.set_cons_succ] at bkF
                  have hbF : Below w.heap.size w _ := (((((hbz.trans (hb5.mono hbz.size)).setCell (p := ⟨w.heap.size, 0, none⟩) (Nat.le_refl _) (.int .u8 0)).setCell (p := ⟨w.heap.size, 1, none⟩) (Nat.le_refl _) (.int .u8 0)).setCell (p := ⟨w.heap.size, 2, none⟩) (Nat.le_refl _) (.int .i64 0)).setCell (p := ⟨w.heap.size, 3, none⟩) (Nat.le_refl _) (.int .i64 0)).setCell (p := ⟨w.heap.size, 4, none⟩) (Nat.le_refl _) (.bool false)
                  have z0 := bkF.cell 0
                  have z1 := bkF.cell 1
                  have z2 := bkF.cell 2
                  have z3 := bkF.cell 3
                  have z4 := bkF.cell 4
                  simp only [List.getElem?_cons_zero, List.getElem?_cons_succ] at z0 z1 z2 z3 z4
                  clear e0 e1 e2 e3 e4 f0 f1 f2 f3 f4
                  exact bodyPost_ret (v := .tuple #[St.val ⟨0, 0, 0, 0, false⟩, .int .i64 4]) (by simp [results, Tryd.results26, go_sem, z0, z1, z2, z3, z4]) rfl ⟨StOut.ne HCA.out HTE.out, hbF⟩
              · have HX := Lib.hid hx
                clear hx
                have hyb : ((q.size : Int) == 1) = true := by rw [beq_iff_eq]; omega
                have hz0 : q[0].toNat < 256 := q[0].toNat_lt
                have hwr : IntKind.u8.wrap ((q[0].toNat : Int) - 48) = (q[0].toNat : Int) + 208 := by have := HX.out; rw [IntKind.wrap_u8]; omega
                have HCA : Hid (cand s.data.toList = some ⟨kindOf s[0], (q[0].toNat : Int) + 208, (r[0].toNat : Int) - 48, (r[1].toNat : Int) - 48, fr⟩) := Lib.hid (by rw [HLS.out, HLR.out, cand_cable HK8.out, HFR.out, HK8.out, yarnOf_lo (by omega) HX.out])
                have fB := bkY.frozen 1
                have bkZ := bkY.set_ 1 (.int .u8 ((q[0].toNat : Int) + 208))
                have bk0z := bk0y.far (p := ⟨w.heap.size + 1, 1, none⟩) (by simp) (.int .u8 ((q[0].toNat : Int) + 208))
                have hbz : Below w.heap.size w (wy.setCell ⟨w.heap.size + 1, 1, none⟩ (.int .u8 ((q[0].toNat : Int) + 208))) := Below.setCell hby (by simp) _
                simp only [List.set_cons_zero, List.set_cons_succ] at bkZ
                have hwf : Hid (St.wf ⟨(kindOf s[0]), ((q[0].toNat : Int) + 208), ((r[0].toNat : Int) - 48), ((r[1].toNat : Int) - 48), fr⟩) := Lib.hid (by unfold St.wf; simp only; first | omega | (have := HX.out; omega))
                by_cases ht : stText ⟨(kindOf s[0]), ((q[0].toNat : Int) + 208), ((r[0].toNat : Int) - 48), ((r[1].toNat : Int) - 48), fr⟩ = s.toList
                · have HTE := Lib.hid (ht.trans (toList_eq s))
                  have htb : (stText ⟨(kindOf s[0]), ((q[0].toNat : Int) + 208), ((r[0].toNat : Int) - 48), ((r[1].toNat : Int) - 48), fr⟩ == s.toList) = true := beq_iff_eq.2 ht
                  clear ht
                  go_wp2_with fail
                  refine (stText_any ⟨(kindOf s[0]), ((q[0].toNat : Int) + 208), ((r[0].toNat : Int) - 48), ((r[1].toNat : Int) - 48), fr⟩ _ hwf.out).mono ?_
                  rintro e w5 ⟨rfl, hb5⟩
                  have bk5 := bkZ.below hb5 bkZ.lt
                  have d0 := bk5.cell 0
                  have d1 := bk5.cell 1
                  have d2 := bk5.cell 2
                  have d3 := bk5.cell 3
                  have d4 := bk5.cell 4
                  simp only [List.getElem?_cons_zero, List.getElem?_cons_succ] at d0 d1 d2 d3 d4
                  have bk05 := bk0z.below hb5 bk0z.lt
                  have e0 := bk05.cell 0
                  have e1 := bk05.cell 1
                  have e2 := bk05.cell 2
                  have e3 := bk05.cell 3
                  have e4 := bk05.cell 4
                  have f0 := bk05.frozen 0
                  have f1 := bk05.frozen 1
                  have f2 := bk05.frozen 2
                  have f3 := bk05.frozen 3
                  have f4 := bk05.frozen 4
                  simp only [List.getElem?_cons_zero, List.getElem?_cons_succ] at e0 e1 e2 e3 e4
                  go_wp2_with fail
                  have bkF := ((((bk05.set_ 0 (.int .u8 (kindOf s[0]))).set_ 1 (.int .u8 ((q[0].toNat : Int) + 208))).set_ 2 (.int .i64 ((r[0].toNat : Int) - 48))).set_ 3 (.int .i64 ((r[1].toNat : Int) - 48))).set_ 4 (.bool fr)
                  simp only [List.set_cons_zero, List.set_cons_succ] at bkF
                  have hbF : Below w.heap.size w _ := (((((hbz.trans (hb5.mono hbz.size)).setCell (p := ⟨w.heap.size, 0, none⟩) (Nat.le_refl _) (.int .u8 (kindOf s[0]))).setCell (p := ⟨w.heap.size, 1, none⟩) (Nat.le_refl _) (.int .u8 ((q[0].toNat : Int) + 208))).setCell (p := ⟨w.heap.size, 2, none⟩) (Nat.le_refl _) (.int .i64 ((r[0].toNat : Int) - 48))).setCell (p := ⟨w.heap.size, 3, none⟩) (Nat.le_refl _) (.int .i64 ((r[1].toNat : Int) - 48))).setCell (p := ⟨w.heap.size, 4, none⟩) (Nat.le_refl _) (.bool fr)
                  have z0 := bkF.cell 0
                  have z1 := bkF.cell 1
                  have z2 := bkF.cell 2
                  have z3 := bkF.cell 3
                  have z4 := bkF.cell 4
                  simp only [List.getElem?_cons_zero, List.getElem?_cons_succ] at z0 z1 z2 z3 z4
                  clear e0 e1 e2 e3 e4 f0 f1 f2 f3 f4
                  exact bodyPost_ret (v := .tuple #[St.val ⟨(kindOf s[0]), ((q[0].toNat : Int) + 208), ((r[0].toNat : Int) - 48), ((r[1].toNat : Int) - 48), fr⟩, .int .i64 0]) (by simp [results, Tryd.results26, go_sem, z0, z1, z2, z3, z4]) rfl ⟨StOut.eq HCA.out HTE.out, hbF⟩
                · have HTE : Hid (¬ stText ⟨(kindOf s[0]), ((q[0].toNat : Int) + 208), ((r[0].toNat : Int) - 48), ((r[1].toNat : Int) - 48), fr⟩ = s.data.toList) := Lib.hid (fun e => ht (e.trans (toList_eq s).symm))
                  have htb : (stText ⟨(kindOf s[0]), ((q[0].toNat : Int) + 208), ((r[0].toNat : Int) - 48), ((r[1].toNat : Int) - 48), fr⟩ == s.toList) = false := beq_eq_false_iff_ne.2 ht
                  clear ht
                  go_wp2_with fail
                  refine (stText_any ⟨(kindOf s[0]), ((q[0].toNat : Int) + 208), ((r[0].toNat : Int) - 48), ((r[1].toNat : Int) - 48), fr⟩ _ hwf.out).mono ?_
                  rintro e w5 ⟨rfl, hb5⟩
                  have bk05 := bk0z.below hb5 bk0z.lt
                  have e0 := bk05.cell 0
                  have e1 := bk05.cell 1
                  have e2 := bk05.cell 2
                  have e3 := bk05.cell 3
                  have e4 := bk05.cell 4
                  have f0 := bk05.frozen 0
                  have f1 := bk05.frozen 1
                  have f2 := bk05.frozen 2
                  have f3 := bk05.frozen 3
                  have f4 := bk05.frozen 4
                  simp only [List.getElem?_cons_zero, List.getElem?_cons_succ] at e0 e1 e2 e3 e4
                  go_wp2_with fail
                  have bkF := ((((bk05.set_ 0 (.int .u8 0)).set_ 1 (.int .u8 0)).set_ 2 (.int .i64 0)).set_ 3 (.int .i64 0)).set_ 4 (.bool false)
                  simp only [List.set_cons_zero, List.set_cons_succ] at bkF
                  have hbF : Below w.heap.size w _ := (((((hbz.trans (hb5.mono hbz.size)).setCell (p := ⟨w.heap.size, 0, none⟩) (Nat.le_refl _) (.int .u8 0)).setCell (p := ⟨w.heap.size, 1, none⟩) (Nat.le_refl _) (.int .u8 0)).setCell (p := ⟨w.heap.size, 2, none⟩) (Nat.le_refl _) (.int .i64 0)).setCell (p := ⟨w.heap.size, 3, none⟩) (Nat.le_refl _) (.int .i64 0)).setCell (p := ⟨w.heap.size, 4, none⟩) (Nat.le_refl _) (.bool false)
                  have z0 := bkF.cell 0
                  have z1 := bkF.cell 1
                  have z2 := bkF.cell 2
                  have z3 := bkF.cell 3
                  have z4 := bkF.cell 4
                  simp only [List.getElem?_cons_zero, List.getElem?_cons_succ] at z0 z1 z2 z3 z4
                  clear e0 e1 e2 e3 e4 f0 f1 f2 f3 f4
                  exact bodyPost_ret (v := .tuple #[St.val ⟨0, 0, 0, 0, false⟩, .int .i64 4]) (by simp [results, Tryd.results26, go_sem, z0, z1, z2, z3, z4]) rfl ⟨StOut.ne HCA.out HTE.out, hbF⟩
            · have hyb : ((q.size : Int) == 1) = false := by rw [beq_eq_false_iff_ne]; omega
              have HCA : Hid (cand s.data.toList = some ⟨kindOf s[0], 1, (r[0].toNat : Int) - 48, (r[1].toNat : Int) - 48, fr⟩) := Lib.hid (by rw [HLS.out, HLR.out, cand_cable HK8.out, HFR.out, HK8.out, yarnOf_not (by rw [HQZ.out]; omega)])
              have bkZ := bkY
              have bk0z := bk0y
              have hbz : Below w.heap.size w wy := hby
              have hwf : Hid (St.wf ⟨(kindOf s[0]), 1, ((r[0].toNat : Int) - 48), ((r[1].toNat : Int) - 48), fr⟩) := Lib.hid (by unfold St.wf; simp only; first | omega | (have := HX.out; omega))
              by_cases ht : stText ⟨(kindOf s[0]), 1, ((r[0].toNat : Int) - 48), ((r[1].toNat : Int) - 48), fr⟩ = s.toList
              · have HTE := Lib.hid (ht.trans (toList_eq s))
                have htb : (stText ⟨(kindOf s[0]), 1, ((r[0].toNat : Int) - 48), ((r[1].toNat : Int) - 48), fr⟩ == s.toList) = true := beq_iff_eq.2 ht
                clear ht
                go_wp2_with fail
                refine (stText_any ⟨(kindOf s[0]), 1, ((r[0].toNat : Int) - 48), ((r[1].toNat : Int) - 48), fr⟩ _ hwf.out).mono ?_
                rintro e w5 ⟨rfl, hb5⟩
                have bk5 := bkZ.below hb5 bkZ.lt
                have d0 := bk5.cell 0
                have d1 := bk5.cell 1
                have d2 := bk5.cell 2
                have d3 := bk5.cell 3
                have d4 := bk5.cell 4
                simp only [List.getElem?_cons_zero, List.getElem?_cons_succ] at d0 d1 d2 d3 d4
                have bk05 := bk0z.below hb5 bk0z.lt
                have e0 := bk05.cell 0
                have e1 := bk05.cell 1
                have e2 := bk05.cell 2
                have e3 := bk05.cell 3
                have e4 := bk05.cell 4
                have f0 := bk05.frozen 0
                have f1 := bk05.frozen 1
                have f2 := bk05.frozen 2
                have f3 := bk05.frozen 3
                have f4 := bk05.frozen 4
                simp only [List.getElem?_cons_zero, List.getElem?_cons_succ] at e0 e1 e2 e3 e4
                go_wp2_with fail
                have bkF := ((((bk05.set_ 0 (.int .u8 (kindOf s[0]))).set_ 1 (.int .u8 1)).set_ 2 (.int .i64 ((r[0].toNat : Int) - 48))).set_ 3 (.int .i64 ((r[1].toNat : Int) - 48))).set_ 4 (.bool fr)
                simp only [List.set_cons_zero, List.set_cons_succ] at bkF
                have hbF : Below w.heap.size w _ := (((((hbz.trans (hb5.mono hbz.size)).setCell (p := ⟨w.heap.size, 0, none⟩) (Nat.le_refl _) (.int .u8 (kindOf s[0]))).setCell (p := ⟨w.heap.size, 1, none⟩) (Nat.le_refl _) (.int .u8 1)).setCell (p := ⟨w.heap.size, 2, none⟩) (Nat.le_refl _) (.int .i64 ((r[0].toNat : Int) - 48))).setCell (p := ⟨w.heap.size, 3, none⟩) (Nat.le_refl _) (.int .i64 ((r[1].toNat : Int) - 48))).setCell (p := ⟨w.heap.size, 4, none⟩) (Nat.le_refl _) (.bool fr)
                have z0 := bkF.cell 0
                have z1 := bkF.cell 1
                have z2 := bkF.cell 2
                have z3 := bkF.cell 3
                have z4 := bkF.cell 4
                simp only [List.getElem?_cons_zero, List.getElem?_cons_succ] at z0 z1 z2 z3 z4
                clear e0 e1 e2 e3 e4 f0 f1 f2 f3 f4
                exact bodyPost_ret (v := .tuple #[St.val ⟨(kindOf s[0]), 1, ((r[0].toNat : Int) - 48), ((r[1].toNat : Int) - 48), fr⟩, .int .i64 0]) (by simp [results, Tryd.results26, go_sem, z0, z1, z2, z3, z4]) rfl ⟨StOut.eq HCA.out HTE.out, hbF⟩
              · have HTE : Hid (¬ stText ⟨(kindOf s[0]), 1, ((r[0].toNat : Int) - 48), ((r[1].toNat : Int) - 48), fr⟩ = s.data.toList) := Lib.hid (fun e => ht (e.trans (toList_eq s).symm))
                have htb : (stText ⟨(kindOf s[0]), 1, ((r[0].toNat : Int) - 48), ((r[1].toNat : Int) - 48), fr⟩ == s.toList) = false := beq_eq_false_iff_ne.2 ht
                clear ht
                go_wp2_with fail
                refine (stText_any ⟨(kindOf s[0]), 1, ((r[0].toNat : Int) - 48), ((r[1].toNat : Int) - 48), fr⟩ _ hwf.out).mono ?_
                rintro e w5 ⟨rfl, hb5⟩
                have bk05 := bk0z.below hb5 bk0z.lt
                have e0 := bk05.cell 0
                have e1 := bk05.cell 1
                have e2 := bk05.cell 2
                have e3 := bk05.cell 3
                have e4 := bk05.cell 4
                have f0 := bk05.frozen 0
                have f1 := bk05.frozen 1
                have f2 := bk05.frozen 2
                have f3 := bk05.frozen 3
                have f4 := bk05.frozen 4
                simp only [List.getElem?_cons_zero, List.getElem?_cons_succ] at e0 e1 e2 e3 e4
                go_wp2_with fail
                have bkF := ((((bk05.set_ 0 (.int .u8 0)).set_ 1 (.int .u8 0)).set_ 2 (.int .i64 0)).set_ 3 (.int .i64 0)).set_ 4 (.bool false)
                simp only [List.set_cons_zero, List.set_cons_succ] at bkF
                have hbF : Below w.heap.size w _ := (((((hbz.trans (hb5.mono hbz.size)).setCell (p := ⟨w.heap.size, 0, none⟩) (Nat.le_refl _) (.int .u8 0)).setCell (p := ⟨w.heap.size, 1, none⟩) (Nat.le_refl _) (.int .u8 0)).setCell (p := ⟨w.heap.size, 2, none⟩) (Nat.le_refl _) (.int .i64 0)).setCell (p := ⟨w.heap.size, 3, none⟩) (Nat.le_refl _) (.int .i64 0)).setCell (p := ⟨w.heap.size, 4, none⟩) (Nat.le_refl _) (.bool false)
                have z0 := bkF.cell 0
                have z1 := bkF.cell 1
                have z2 := bkF.cell 2
                have z3 := bkF.cell 3
                have z4 := bkF.cell 4
                simp only [List.getElem?_cons_zero, List.getElem?_cons_succ] at z0 z1 z2 z3 z4
                clear e0 e1 e2 e3 e4 f0 f1 f2 f3 f4
                exact bodyPost_ret (v := .tuple #[St.val ⟨0, 0, 0, 0, false⟩, .int .i64 4]) (by simp [results, Tryd.results26, go_sem, z0, z1, z2, z3, z4]) rfl ⟨StOut.ne HCA.out HTE.out, hbF⟩
        · have HK8 := Lib.hid hk8
          have hk8b : (kindOf s[0] == 8) = false := by rw [beq_eq_false_iff_ne]; exact hk8
          clear hk8
          by_cases hy : r.size = 1
          · have hr0 : 0 < r.size := by omega
            by_cases hx : 48 ≤ r[0].toNat
            · have HX := Lib.hid hx
              clear hx
              have hyb : ((r.size : Int) == 1) = true := by rw [beq_iff_eq]; omega
              have hx0 : r[0].toNat < 256 := r[0].toNat_lt
              have hx48 : 48 ≤ (r[0].toNat : Int) := by have := HX.out; omega
              have HCA : Hid (cand s.data.toList = some ⟨kindOf s[0], (r[0].toNat : Int) - 48, 0, 0, false⟩) := Lib.hid (by rw [HLS.out, cand_other HK8.out, yarnOf_hi (by omega) HX.out])
              have fB := bk1.frozen 1
              have bkZ := bk1.set_ 1 (.int .u8 ((r[0].toNat : Int) - 48))
              have bk0z := bk0.far (p := ⟨w.heap.size + 1, 1, none⟩) (by simp) (.int .u8 ((r[0].toNat : Int) - 48))
              have hbz : Below w.heap.size w (wr.setCell ⟨w.heap.size + 1, 1, none⟩ (.int .u8 ((r[0].toNat : Int) - 48))) := hbel.setCell (by simp) _
              simp only [List.set_cons_zero, List.set_cons_succ] at bkZ
              have hwf : Hid (St.wf ⟨(kindOf s[0]), ((r[0].toNat : Int) - 48), 0, 0, false⟩) := Lib.hid (by unfold St.wf; simp only; first | omega | (have := HX.out; omega))
              by_cases ht : stText ⟨(kindOf s[0]), ((r[0].toNat : Int) - 48), 0, 0, false⟩ = s.toList
              · have HTE := Lib.hid (ht.trans (toList_eq s))
                have htb : (stText ⟨(kindOf s[0]), ((r[0].toNat : Int) - 48), 0, 0, false⟩ == s.toList) = true := beq_iff_eq.2 ht
                clear ht
                go_wp2_with fail
                refine (stText_any ⟨(kindOf s[0]), ((r[0].toNat : Int) - 48), 0, 0, false⟩ _ hwf.out).mono ?_
                rintro e w5 ⟨rfl, hb5⟩
                have bk5 := bkZ.below hb5 bkZ.lt
                have d0 := bk5.cell 0
                have d1 := bk5.cell 1
                have d2 := bk5.cell 2
                have d3 := bk5.cell 3
                have d4 := bk5.cell 4
                simp only [List.getElem?_cons_zero, List.getElem?_cons_succ] at d0 d1 d2 d3 d4
                have bk05 := bk0z.below hb5 bk0z.lt
                have e0 := bk05.cell 0
                have e1 := bk05.cell 1
                have e2 := bk05.cell 2
                have e3 := bk05.cell 3
                have e4 := bk05.cell 4
                have f0 := bk05.frozen 0
                have f1 := bk05.frozen 1
                have f2 := bk05.frozen 2
                have f3 := bk05.frozen 3
                have f4 := bk05.frozen 4
                simp only [List.getElem?_cons_zero, List.getElem?_cons_succ] at e0 e1 e2 e3 e4
                go_wp2_with fail
                have bkF := ((((bk05.set_ 0 (.int .u8 (kindOf s[0]))).set_ 1 (.int .u8 ((r[0].toNat : Int) - 48))).set_ 2 (.int .i64 0)).set_ 3 (.int .i64 0)).set_ 4 (.bool false)
                simp only [List.set_cons_zero, List.set_cons_succ] at bkF
                have hbF : Below w.heap.size w _ := (((((hbz.trans (hb5.mono hbz.size)).setCell (p := ⟨w.heap.size, 0, none⟩) (Nat.le_refl _) (.int .u8 (kindOf s[0]))).setCell (p := ⟨w.heap.size, 1, none⟩) (Nat.le_refl _) (.int .u8 ((r[0].toNat : Int) - 48))).setCell (p := ⟨w.heap.size, 2, none⟩) (Nat.le_refl _) (.int .i64 0)).setCell (p := ⟨w.heap.size, 3, none⟩) (Nat.le_refl _) (.int .i64 0)).setCell (p := ⟨w.heap.size, 4, none⟩) (Nat.le_refl _) (.bool false)
                have z0 := bkF.cell 0
                have z1 := bkF.cell 1
                have z2 := bkF.cell 2
                have z3 := bkF.cell 3
                have z4 := bkF.cell 4
                simp only [List.getElem?_cons_zero, List.getElem?_cons_succ] at z0 z1 z2 z3 z4
                clear e0 e1 e2 e3 e4 f0 f1 f2 f3 f4
                exact bodyPost_ret (v := .tuple #[St.val ⟨(kindOf s[0]), ((r[0].toNat : Int) - 48), 0, 0, false⟩, .int .i64 0]) (by simp [results, Tryd.results26, go_sem, z0, z1, z2, z3, z4]) rfl ⟨StOut.eq HCA.out HTE.out, hbF⟩
              · have HTE : Hid (¬ stText ⟨(kindOf s[0]), ((r[0].toNat : Int) - 48), 0, 0, false⟩ = s.data.toList) := Lib.hid (fun e => ht (e.trans (toList_eq s).symm))
                have htb : (stText ⟨(kindOf s[0]), ((r[0].toNat : Int) - 48), 0, 0, false⟩ == s.toList) = false := beq_eq_false_iff_ne.2 ht
                clear ht
                go_wp2_with fail
                refine (stText_any ⟨(kindOf s[0]), ((r[0].toNat : Int) - 48), 0, 0, false⟩ _ hwf.out).mono ?_
                rintro e w5 ⟨rfl, hb5⟩
                have bk05 := bk0z.below hb5 bk0z.lt
                have e0 := bk05.cell 0
                have e1 := bk05.cell 1
                have e2 := bk05.cell 2
                have e3 := bk05.cell 3
                have e4 := bk05.cell 4
                have f0 := bk05.frozen 0
                have f1 := bk05.frozen 1
                have f2 := bk05.frozen 2
                have f3 := bk05.frozen 3
                have f4 := bk05.frozen 4
                simp only [List.getElem?_cons_zero, List.getElem?_cons_succ] at e0 e1 e2 e3 e4
                go_wp2_with fail
                have bkF := ((((bk05.set_ 0 (.int .u8 0)).set_ 1 (.int .u8 0)).set_ 2 (.int .i64 0)).set_ 3 (.int .i64 0)).set_ 4 (.bool false)
                simp only [List.set_cons_zero, List.set_cons_succ] at bkF
                have hbF : Below w.heap.size w _ := (((((hbz.trans (hb5.mono hbz.size)).setCell (p := ⟨w.heap.size, 0, none⟩) (Nat.le_refl _) (.int .u8 0)).setCell (p := ⟨w.heap.size, 1, none⟩) (Nat.le_refl _) (.int .u8 0)).setCell (p := ⟨w.heap.size, 2, none⟩) (Nat.le_refl _) (.int .i64 0)).setCell (p := ⟨w.heap.size, 3, none⟩) (Nat.le_refl _) (.int .i64 0)).setCell (p := ⟨w.heap.size, 4, none⟩) (Nat.le_refl _) (.bool false)
                have z0 := bkF.cell 0
                have z1 := bkF.cell 1
                have z2 := bkF.cell 2
                have z3 := bkF.cell 3
                have z4 := bkF.cell 4
                simp only [List.getElem?_cons_zero, List.getElem?_cons_succ] at z0 z1 z2 z3 z4
                clear e0 e1 e2 e3 e4 f0 f1 f2 f3 f4
                exact bodyPost_ret (v := .tuple #[St.val ⟨0, 0, 0, 0, false⟩, .int .i64 4]) (by simp [results, Tryd.results26, go_sem, z0, z1, z2, z3, z4]) rfl ⟨StOut.ne HCA.out HTE.out, hbF⟩
            · have HX := Lib.hid hx
              clear hx
              have hyb : ((r.size : Int) == 1) = true := by rw [beq_iff_eq]; omega
              have hx0 : r[0].toNat < 256 := r[0].toNat_lt
              have hwr : IntKind.u8.wrap ((r[0].toNat : Int) - 48) = (r[0].toNat : Int) + 208 := by have := HX.out; rw [IntKind.wrap_u8]; omega
              have HCA : Hid (cand s.data.toList = some ⟨kindOf s[0], (r[0].toNat : Int) + 208, 0, 0, false⟩) := Lib.hid (by rw [HLS.out, cand_other HK8.out, yarnOf_lo (by omega) HX.out])
              have fB := bk1.frozen 1
              have bkZ := bk1.set_ 1 (.int .u8 ((r[0].toNat : Int) + 208))
              have bk0z := bk0.far (p := ⟨w.heap.size + 1, 1, none⟩) (by simp) (.int .u8 ((r[0].toNat : Int) + 208))
              have hbz : Below w.heap.size w (wr.setCell ⟨w.heap.size + 1, 1, none⟩ (.int .u8 ((r[0].toNat : Int) + 208))) := hbel.setCell (by simp) _
              simp only [List.set_cons_zero, List.set_cons_succ] at bkZ
              have hwf : Hid (St.wf ⟨(kindOf s[0]), ((r[0].toNat : Int) + 208), 0, 0, false⟩) := Lib.hid (by unfold St.wf; simp only; first | omega | (have := HX.out; omega))
              by_cases ht : stText ⟨(kindOf s[0]), ((r[0].toNat : Int) + 208), 0, 0, false⟩ = s.toList
              · have HTE := Lib.hid (ht.trans (toList_eq s))
                have htb : (stText ⟨(kindOf s[0]), ((r[0].toNat : Int) + 208), 0, 0, false⟩ == s.toList) = true := beq_iff_eq.2 ht
                clear ht
                go_wp2_with fail
                refine (stText_any ⟨(kindOf s[0]), ((r[0].toNat : Int) + 208), 0, 0, false⟩ _ hwf.out).mono ?_
                rintro e w5 ⟨rfl, hb5⟩
                have bk5 := bkZ.below hb5 bkZ.lt
                have d0 := bk5.cell 0
                have d1 := bk5.cell 1
                have d2 := bk5.cell 2
                have d3 := bk5.cell 3
                have d4 := bk5.cell 4
                simp only [List.getElem?_cons_zero, List.getElem?_cons_succ] at d0 d1 d2 d3 d4
                have bk05 := bk0z.below hb5 bk0z.lt
                have e0 := bk05.cell 0
                have e1 := bk05.cell 1
                have e2 := bk05.cell 2
                have e3 := bk05.cell 3
                have e4 := bk05.cell 4
                have f0 := bk05.frozen 0
                have f1 := bk05.frozen 1
                have f2 := bk05.frozen 2
                have f3 := bk05.frozen 3
                have f4 := bk05.frozen 4
                simp only [List.getElem?_cons_zero, List.getElem?_cons_succ] at e0 e1 e2 e3 e4
                go_wp2_with fail
                have bkF := ((((bk05.set_ 0 (.int .u8 (kindOf s[0]))).set_ 1 (.int .u8 ((r[0].toNat : Int) + 208))).set_ 2 (.int .i64 0)).set_ 3 (.int .i64 0)).set_ 4 (.bool false)
                simp only [List.set_cons_zero, List.set_cons_succ] at bkF
                have hbF : Below w.heap.size w _ := (((((hbz.trans (hb5.mono hbz.size)).setCell (p := ⟨w.heap.size, 0, none⟩) (Nat.le_refl _) (.int .u8 (kindOf s[0]))).setCell (p := ⟨w.heap.size, 1, none⟩) (Nat.le_refl _) (.int .u8 ((r[0].toNat : Int) + 208))).setCell (p := ⟨w.heap.size, 2, none⟩) (Nat.le_refl _) (.int .i64 0)).setCell (p := ⟨w.heap.size, 3, none⟩) (Nat.le_refl _) (.int .i64 0)).setCell (p := ⟨w.heap.size, 4, none⟩) (Nat.le_refl _) (.bool false)
                have z0 := bkF.cell 0
                have z1 := bkF.cell 1
                have z2 := bkF.cell 2
                have z3 := bkF.cell 3
                have z4 := bkF.cell 4
                simp only [List.getElem?_cons_zero, List.getElem?_cons_succ] at z0 z1 z2 z3 z4
                clear e0 e1 e2 e3 e4 f0 f1 f2 f3 f4
                exact bodyPost_ret (v := .tuple #[St.val ⟨(kindOf s[0]), ((r[0].toNat : Int) + 208), 0, 0, false⟩, .int .i64 0]) (by simp [results, Tryd.results26, go_sem, z0, z1, z2, z3, z4]) rfl ⟨StOut.eq HCA.out HTE.out, hbF⟩
              · have HTE : Hid (¬ stText ⟨(kindOf s[0]), ((r[0].toNat : Int) + 208), 0, 0, false⟩ = s.data.toList) := Lib.hid (fun e => ht (e.trans (toList_eq s).symm))
                have htb : (stText ⟨(kindOf s[0]), ((r[0].toNat : Int) + 208), 0, 0, false⟩ == s.toList) = false := beq_eq_false_iff_ne.2 ht
                clear ht
                go_wp2_with fail
                refine (stText_any ⟨(kindOf s[0]), ((r[0].toNat : Int) + 208), 0, 0, false⟩ _ hwf.out).mono ?_
                rintro e w5 ⟨rfl, hb5⟩
                have bk05 := bk0z.below hb5 bk0z.lt
                have e0 := bk05.cell 0
                have e1 := bk05.cell 1
                have e2 := bk05.cell 2
                have e3 := bk05.cell 3
                have e4 := bk05.cell 4
                have f0 := bk05.frozen 0
                have f1 := bk05.frozen 1
                have f2 := bk05.frozen 2
                have f3 := bk05.frozen 3
                have f4 := bk05.frozen 4
                simp only [List.getElem?_cons_zero, List.getElem?_cons_succ] at e0 e1 e2 e3 e4
                go_wp2_with fail
                have bkF := ((((bk05.set_ 0 (.int .u8 0)).set_ 1 (.int .u8 0)).set_ 2 (.int .i64 0)).set_ 3 (.int .i64 0)).set_ 4 (.bool false)
                simp only [List.set_cons_zero, List.set_cons_succ] at bkF
                have hbF : Below w.heap.size w _ := (((((hbz.trans (hb5.mono hbz.size)).setCell (p := ⟨w.heap.size, 0, none⟩) (Nat.le_refl _) (.int .u8 0)).setCell (p := ⟨w.heap.size, 1, none⟩) (Nat.le_refl _) (.int .u8 0)).setCell (p := ⟨w.heap.size, 2, none⟩) (Nat.le_refl _) (.int .i64 0)).setCell (p := ⟨w.heap.size, 3, none⟩) (Nat.le_refl _) (.int .i64 0)).setCell (p := ⟨w.heap.size, 4, none⟩) (Nat.le_refl _) (.bool false)
                have z0 := bkF.cell 0
                have z1 := bkF.cell 1
                have z2 := bkF.cell 2
                have z3 := bkF.cell 3
                have z4 := bkF.cell 4
                simp only [List.getElem?_cons_zero, List.getElem?_cons_succ] at z0 z1 z2 z3 z4
                clear e0 e1 e2 e3 e4 f0 f1 f2 f3 f4
                exact bodyPost_ret (v := .tuple #[St.val ⟨0, 0, 0, 0, false⟩, .int .i64 4]) (by simp [results, Tryd.results26, go_sem, z0, z1, z2, z3, z4]) rfl ⟨StOut.ne HCA.out HTE.out, hbF⟩
          · have hyb : ((r.size : Int) == 1) = false := by rw [beq_eq_false_iff_ne]; omega
            have HCA : Hid (cand s.data.toList = some ⟨kindOf s[0], 1, 0, 0, false⟩) := Lib.hid (by rw [HLS.out, cand_other HK8.out, yarnOf_not (by rw [HRZ.out]; omega)])
            have bkZ := bk1
            have bk0z := bk0
            have hbz := hbel
            have hwf : Hid (St.wf ⟨(kindOf s[0]), 1, 0, 0, false⟩) := Lib.hid (by unfold St.wf; simp only; first | omega | (have := HX.out; omega))
            by_cases ht : stText ⟨(kindOf s[0]), 1, 0, 0, false⟩ = s.toList
            · have HTE := Lib.hid (ht.trans (toList_eq s))
              have htb : (stText ⟨(kindOf s[0]), 1, 0, 0, false⟩ == s.toList) = true := beq_iff_eq.2 ht
              clear ht
              go_wp2_with fail
              refine (stText_any ⟨(kindOf s[0]), 1, 0, 0, false⟩ _ hwf.out).mono ?_
              rintro e w5 ⟨rfl, hb5⟩
              have bk5 := bkZ.below hb5 bkZ.lt
              have d0 := bk5.cell 0
              have d1 := bk5.cell 1
              have d2 := bk5.cell 2
              have d3 := bk5.cell 3
              have d4 := bk5.cell 4
              simp only [List.getElem?_cons_zero, List.getElem?_cons_succ] at d0 d1 d2 d3 d4
              have bk05 := bk0z.below hb5 bk0z.lt
              have e0 := bk05.cell 0
              have e1 := bk05.cell 1
              have e2 := bk05.cell 2
              have e3 := bk05.cell 3
              have e4 := bk05.cell 4
              have f0 := bk05.frozen 0
              have f1 := bk05.frozen 1
              have f2 := bk05.frozen 2
              have f3 := bk05.frozen 3
              have f4 := bk05.frozen 4
              simp only [List.getElem?_cons_zero, List.getElem?_cons_succ] at e0 e1 e2 e3 e4
              go_wp2_with fail
              have bkF := ((((bk05.set_ 0 (.int .u8 (kindOf s[0]))).set_ 1 (.int .u8 1)).set_ 2 (.int .i64 0)).set_ 3 (.int .i64 0)).set_ 4 (.bool false)
              simp only [List.set_cons_zero, List.set_cons_succ] at bkF
              have hbF : Below w.heap.size w _ := (((((hbz.trans (hb5.mono hbz.size)).setCell (p := ⟨w.heap.size, 0, none⟩) (Nat.le_refl _) (.int .u8 (kindOf s[0]))).setCell (p := ⟨w.heap.size, 1, none⟩) (Nat.le_refl _) (.int .u8 1)).setCell (p := ⟨w.heap.size, 2, none⟩) (Nat.le_refl _) (.int .i64 0)).setCell (p := ⟨w.heap.size, 3, none⟩) (Nat.le_refl _) (.int .i64 0)).setCell (p := ⟨w.heap.size, 4, none⟩) (Nat.le_refl _) (.bool false)
              have z0 := bkF.cell 0
              have z1 := bkF.cell 1
              have z2 := bkF.cell 2
              have z3 := bkF.cell 3
              have z4 := bkF.cell 4
              simp only [List.getElem?_cons_zero, List.getElem?_cons_succ] at z0 z1 z2 z3 z4
              clear e0 e1 e2 e3 e4 f0 f1 f2 f3 f4
              exact bodyPost_ret (v := .tuple #[St.val ⟨(kindOf s[0]), 1, 0, 0, false⟩, .int .i64 0]) (by simp [results, Tryd.results26, go_sem, z0, z1, z2, z3, z4]) rfl ⟨StOut.eq HCA.out HTE.out, hbF⟩
            · have HTE : Hid (¬ stText ⟨(kindOf s[0]), 1, 0, 0, false⟩ = s.data.toList) := Lib.hid (fun e => ht (e.trans (toList_eq s).symm))
              have htb : (stText ⟨(kindOf s[0]), 1, 0, 0, false⟩ == s.toList) = false := beq_eq_false_iff_ne.2 ht
              clear ht
              go_wp2_with fail
              refine (stText_any ⟨(kindOf s[0]), 1, 0, 0, false⟩ _ hwf.out).mono ?_
              rintro e w5 ⟨rfl, hb5⟩
              have bk05 := bk0z.below hb5 bk0z.lt
              have e0 := bk05.cell 0
              have e1 := bk05.cell 1
              have e2 := bk05.cell 2
              have e3 := bk05.cell 3
              have e4 := bk05.cell 4
              have f0 := bk05.frozen 0
              have f1 := bk05.frozen 1
              have f2 := bk05.frozen 2
              have f3 := bk05.frozen 3
              have f4 := bk05.frozen 4
              simp only [List.getElem?_cons_zero, List.getElem?_cons_succ] at e0 e1 e2 e3 e4
              go_wp2_with fail
              have bkF := ((((bk05.set_ 0 (.int .u8 0)).set_ 1 (.int .u8 0)).set_ 2 (.int .i64 0)).set_ 3 (.int .i64 0)).set_ 4 (.bool false)
              simp only [List.set_cons_zero, List.set_cons_succ] at bkF
              have hbF : Below w.heap.size w _ := (((((hbz.trans (hb5.mono hbz.size)).setCell (p := ⟨w.heap.size, 0, none⟩) (Nat.le_refl _) (.int .u8 0)).setCell (p := ⟨w.heap.size, 1, none⟩) (Nat.le_refl _) (.int .u8 0)).setCell (p := ⟨w.heap.size, 2, none⟩) (Nat.le_refl _) (.int .i64 0)).setCell (p := ⟨w.heap.size, 3, none⟩) (Nat.le_refl _) (.int .i64 0)).setCell (p := ⟨w.heap.size, 4, none⟩) (Nat.le_refl _) (.bool false)
              have z0 := bkF.cell 0
              have z1 := bkF.cell 1
              have z2 := bkF.cell 2
              have z3 := bkF.cell 3
              have z4 := bkF.cell 4
              simp only [List.getElem?_cons_zero, List.getElem?_cons_succ] at z0 z1 z2 z3 z4
              clear e0 e1 e2 e3 e4 f0 f1 f2 f3 f4
              exact bodyPost_ret (v := .tuple #[St.val ⟨0, 0, 0, 0, false⟩, .int .i64 4]) (by simp [results, Tryd.results26, go_sem, z0, z1, z2, z3, z4]) rfl ⟨StOut.ne HCA.out HTE.out, hbF⟩

end Go.Proofs.YtgpkcooipadnpaaDoor
