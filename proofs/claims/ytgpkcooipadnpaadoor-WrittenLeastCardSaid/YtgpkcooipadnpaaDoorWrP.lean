/-
  The reference's Shorten, for valid rows of 1 to 16 stitches. No conditions beyond the stitches' ranges.
-/
import Derived.Test.YtgpkcooipadnpaaDoorWrO
import Derived.Deep.CutRange
import Derived.Deep.CutBlock
namespace Go.Proofs.YtgpkcooipadnpaaDoor
set_option linter.unusedSimpArgs false
set_option linter.unusedVariables false
open Go.RowKit
set_option maxRecDepth 100000

set_option maxHeartbeats 8000000 in
theorem refShorten_any (A : Option Addr) (n c : Nat) (l : List St) (w : World) (hl : Sts w A n l) (hw : ∀ x ∈ l, x.wf) (hnc : n ≤ c) (hc : c ≤ 9223372036854775807) (hn : n ≤ 16) (hpos : 1 ≤ n) (hv : ∀ x ∈ l, x.valid = true) :
    Calls Tryd.prog 10 #[.slice A n c] w fun e w' => e = .returned (str (shortL l)) ∧ Below w.heap.size w w' := by
  have hlen := hl.len
  obtain ⟨N, hN⟩ : ∃ N, N = (n + 1) * (n + 1) := ⟨_, rfl⟩
  have hmul : ((n : Int) + 1) * ((n : Int) + 1) = (N : Int) := by rw [hN]; simp
  have hN2 : N ≤ 289 := by rw [hN]; exact Nat.le_trans (Nat.mul_le_mul (by omega : n + 1 ≤ 17) (by omega : n + 1 ≤ 17)) (by omega)
  have hmk := fun W => run_make_block (P := Tryd.prog) 57 9 Tryd.underlying57 elemStrZ rfl .i64 .i64 N (by omega) W
  have HN := Lib.hid hN
  have HLN := Lib.hid hlen
  have HW := Lib.hid hw
  have HV := Lib.hid hv
  clear hN hlen hw hv
  go_enter Tryd.func10, Tryd.ntmps10
  go_wp2_with fail
  have hsb0 : SB (w.alloc (.cells (Array.replicate N (.string ByteArray.empty)) 9)) w.heap.size N (fun _ => []) := by
    have := SB.new w N
    rwa [List.toArray_replicate] at this
  have hbw0 : Below w.heap.size w (w.alloc (.cells (Array.replicate N (.string ByteArray.empty)) 9)) := (Below.refl _ w).alloc (by simp) _
  generalize w.alloc (.cells (Array.replicate N (.string ByteArray.empty)) 9) = w1 at *
  have HS1 := Lib.hid (hl.below hbw0)
  go_loopg [5] n (fun r v wr => ∃ (m : Nat) (T : Nat → List UInt8), 1 ≤ m ∧ m ≤ n + 1 ∧ v = .int .i64 m ∧ r = n + 1 - m ∧ SB wr w.heap.size N T ∧ Hid (TabF T l m 0) ∧ Below w.heap.size w wr)
  case atStart => exact ⟨1, _, by omega, by omega, rfl, by omega, hsb0, Lib.hid (TabF.zero _ l), hbw0⟩
  case round =>
    obtain ⟨m, T, hm1, hmn, rfl, hr, HM, HT, hbel⟩ := hrel
    have hnN : n < N := by rw [HN.out]; exact Nat.lt_of_lt_of_le (Nat.lt_succ_self n) (Nat.le_mul_of_pos_right _ (by omega))
    rcases Nat.lt_or_ge n m with hnm | hnm
    · have hmb : decide ((m : Int) ≤ (n : Int)) = false := by simp; omega
      have hT : T n = shortL l := by
        have := HT.out 0 n hpos (by rw [HLN.out]; omega) (.inl hnm)
        simp only [Nat.zero_mul, Nat.zero_add] at this
        rw [this, ← HLN.out, seg_all]
      have c0 := HM.cell hnN
      rw [hT] at c0
      go_wp2_with fail
      go_ret
      exact ⟨rfl, hbel⟩
    · have hmb : decide ((m : Int) ≤ (n : Int)) = true := by simp; omega
      go_wp2_with fail
      go_loopg [6] n (fun r2 v2 wr2 => ∃ (i : Nat) (T2 : Nat → List UInt8), i ≤ n ∧ v2 = .int .i64 i ∧ r2 = n - i ∧ SB wr2 w.heap.size N T2 ∧ Hid (TabF T2 l m i) ∧ Below w.heap.size w wr2)
      case atStart => exact ⟨0, T, by omega, rfl, by omega, HM, HT, hbel⟩
      case round =>
        obtain ⟨i, T2, hin, rfl, hr2, HM2, HT2, hbel2⟩ := hrel
        clear HM HT hbel
        rcases Nat.lt_or_ge n (i + m) with him | him
        · have hib : decide ((i : Int) + (m : Int) ≤ (n : Int)) = false := by simp; omega
          go_wp2_with fail
          go_roundg (n - m)
          case measure => omega
          case rel => exact ⟨m + 1, T2, by omega, by omega, by go_num, by omega, HM2, Lib.hid (HT2.out.next (by rw [HLN.out]; exact him)), hbel2⟩
        · have hib : decide ((i : Int) + (m : Int) ≤ (n : Int)) = true := by simp; omega
          have hilt : i < n := by omega
          obtain ⟨ad, rfl, hadb, c0, c1, c2, c3, c4⟩ := St.lit_at (hl.below hbel2) hilt
          have hil : i < l.length := by rw [HLN.out]; exact hilt
          obtain ⟨p, hp⟩ : ∃ p, p = i * (n + 1) := ⟨_, rfl⟩
          have hpm : (i : Int) * ((n : Int) + 1) = (p : Int) := by rw [hp]; simp
          have hpN : p + (n + 1) ≤ N := by
            rw [hp, HN.out]
            have := Nat.mul_le_mul_right (n + 1) (show i + 1 ≤ n + 1 by omega)
            rw [Nat.succ_mul] at this
            exact this
          have HP := Lib.hid hp
          clear hp
          rcases Nat.lt_or_ge 1 m with h1m | h1m
          · have h1b : ((m : Int) == 1) = false := by rw [beq_eq_false_iff_ne]; omega
            go_wp2_with fail
            rename World => w2
            go_loopg [7, 8] (m - 1) (fun r3 t3 v3 wr3 => ∃ (k : Nat) (tb : ByteArray), 1 ≤ k ∧ k ≤ m ∧ t3 = .string tb ∧ v3 = .int .i64 k ∧ r3 = m - k ∧ tb.size ≤ 1000 ∧ Hid (tb.data.toList = stepsF shortL (seg l i m) (k - 1)) ∧ Below w2.heap.size w2 wr3)
            case atStart => exact ⟨1, ⟨#[]⟩, by omega, by omega, rfl, rfl, by omega, by show 0 ≤ 1000; omega, Lib.hid rfl, Below.refl _ _⟩
            case round =>
              obtain ⟨k, tb, hk1, hkm, rfl, rfl, hr3, htb, HTT, hb3⟩ := hrel
              have HMr := HM2.below hb3 HM2.lt
              rcases Nat.lt_or_ge k m with hklt | hkge
              · have hkb : decide ((k : Int) < (m : Int)) = true := by simp; omega
                obtain ⟨p2, hp2⟩ : ∃ p2, p2 = (i + k) * (n + 1) := ⟨_, rfl⟩
                have hpm2 : ((i : Int) + (k : Int)) * ((n : Int) + 1) = (p2 : Int) := by rw [hp2]; simp
                have hpN2 : p2 + (n + 1) ≤ N := by
                  rw [hp2, HN.out]
                  have := Nat.mul_le_mul_right (n + 1) (show i + k + 1 ≤ n + 1 by omega)
                  rw [Nat.succ_mul] at this
                  exact this
                obtain ⟨b1, hb1', hb1s⟩ : ∃ b1 : ByteArray, b1.data.toList = shortL (seg l i k) ∧ b1.size ≤ 96 := ⟨⟨(shortL (seg l i k)).toArray⟩, by simp, by
                  have := seg_short HV.out (by rw [HLN.out]; exact hn) (s := i) (m := k) hk1 (by rw [HLN.out]; omega)
                  show (shortL (seg l i k)).toArray.size ≤ 96
                  simpa using this⟩
                obtain ⟨b2, hb2', hb2s⟩ : ∃ b2 : ByteArray, b2.data.toList = shortL (seg l (i + k) (m - k)) ∧ b2.size ≤ 96 := ⟨⟨(shortL (seg l (i + k) (m - k))).toArray⟩, by simp, by
                  have := seg_short HV.out (by rw [HLN.out]; exact hn) (s := i + k) (m := m - k) (by omega) (by rw [HLN.out]; omega)
                  show (shortL (seg l (i + k) (m - k))).toArray.size ≤ 96
                  simpa using this⟩
                have x1 : wr.cell? ⟨w.heap.size, p + i + k, none⟩ = some (.string b1) := by
                  have h := HMr.cell (j := p + i + k) (by omega)
                  have e := HT2.out i k hk1 (by rw [HLN.out]; omega) (.inl hklt)
                  rw [HLN.out, ← HP.out] at e
                  rw [h, e, ← hb1', ← st_str]
                have x2 : wr.cell? ⟨w.heap.size, p2 + i + m, none⟩ = some (.string b2) := by
                  have h := HMr.cell (j := p2 + i + m) (by omega)
                  have e := HT2.out (i + k) (m - k) (by omega) (by rw [HLN.out]; omega) (.inl (by omega))
                  rw [HLN.out, ← hp2, show p2 + (i + k) + (m - k) = p2 + i + m by omega] at e
                  rw [h, e, ← hb2', ← st_str]
                have HB1 := Lib.hid hb1'
                have HB2 := Lib.hid hb2'
                clear hb1' hb2' hp2
                have hI1 : (p : Int) + (i : Int) + (k : Int) < (N : Int) := by omega
                have hI2 : (0 : Int) ≤ (p : Int) + (i : Int) + (k : Int) := by omega
                have hI3 : (p2 : Int) + (i : Int) + (m : Int) < (N : Int) := by omega
                have hI4 : (0 : Int) ≤ (p2 : Int) + (i : Int) + (m : Int) := by omega
                go_upto_region 17 with fail
                obtain ⟨t1, ht1⟩ : ∃ t1 : ByteArray, t1.data.toList = betterL tb.data.toList (twoT shortL (seg l i m) k) := ⟨⟨(betterL tb.data.toList (twoT shortL (seg l i m) k)).toArray⟩, by simp⟩
                have HSG : Hid ((b1 ++ ⟨#[32]⟩ ++ b2).data.toList = twoT shortL (seg l i m) k) := Lib.hid (by unfold twoT; rw [seg_take l i hkm, seg_drop, ← HB1.out, ← HB2.out]; simp)
                have htw : (twoT shortL (seg l i m) k).length ≤ 200 := by
                  rw [← HSG.out]
                  simp only [ByteArray.data_append, Array.toList_append, List.length_append]
                  have e1 : b1.data.toList.length = b1.size := by simp
                  have e2 : b2.data.toList.length = b2.size := by simp
                  simp
                  omega
                have htn : twoT shortL (seg l i m) k ≠ [] := by unfold twoT; simp
                have ht1l : t1.size ≤ 1000 := by
                  have e1 : t1.data.toList.length = t1.size := by simp
                  have e2 : tb.data.toList.length = tb.size := by simp
                  rw [← e1, ht1]
                  rcases betterL_or tb.data.toList (twoT shortL (seg l i m) k) with e | e <;> rw [e] <;> omega
                have ht1n : t1.data.toList ≠ [] := by rw [ht1]; exact betterL_ne htn
                have HT1N := Lib.hid ht1n
                have HT1 := Lib.hid ht1
                have HTWN := Lib.hid htn
                clear ht1 ht1n htn htw
                obtain ⟨bb, hbb⟩ : ∃ bb : Bool, bb = (decide (tb.data.toList = []) || decide (lessL (twoT shortL (seg l i m) k) tb.data.toList = 1)) := ⟨_, rfl⟩
                have HBB := Lib.hid hbb
                clear hbb
                go_cut [82] from 43 to 135 (fun v wx => v = .bool bb ∧ wr = wx)
                case first =>
                  by_cases htb : tb.data.toList = []
                  · have hb1 : (tb.toList == []) = true := by rw [toL, htb]; rfl
                    have HE : Hid (true = bb) := Lib.hid (by rw [HBB.out, decide_eq_true htb, Bool.true_or])
                    clear htb
                    go_wp2_with fail
                    go_meet
                    exact ⟨congrArg Value.bool HE.out, rfl⟩
                  · have hb1 : (tb.toList == []) = false := by rw [toL, beq_eq_false_iff_ne]; exact htb
                    have HE : Hid ((lessL (b1.data.toList ++ 32 :: b2.data.toList) tb.data.toList == 1) = bb) := Lib.hid (by
                      rw [HBB.out, decide_eq_false htb, Bool.false_or, ← HSG.out]
                      simp
                      rfl)
                    clear htb
                    go_wp2_with fail
                    refine (less_any _ _ _).mono ?_
                    rintro e w4 ⟨rfl, rfl⟩
                    go_wp2_with fail
                    go_meet
                    exact ⟨congrArg Value.bool HE.out, rfl⟩
                case rest =>
                  obtain ⟨rfl, rfl⟩ := hcut
                  go_upto_if 82 with fail
                  go_cut [7] from 43 to 135 (fun v wx => v = .string t1 ∧ wr = wx)
                  case first =>
                    cases hbb : bb with
                    | true =>
                      have HE : Hid (Value.string (b1 ++ ⟨#[32]⟩ ++ b2) = .string t1) := Lib.hid (by
                        rw [st_str, st_str t1, HSG.out, HT1.out]
                        rw [HBB.out] at hbb
                        by_cases htb : tb.data.toList = []
                        · rw [htb, betterL_nil]
                        · rw [decide_eq_false htb, Bool.false_or, decide_eq_true_eq] at hbb
                          rw [less_better htb, if_pos hbb])
                      clear hbb
                      go_wp2_with fail
                      go_meet
                      exact ⟨HE.out, rfl⟩
                    | false =>
                      have HE : Hid (Value.string tb = .string t1) := Lib.hid (by
                        rw [st_str, st_str t1, HT1.out]
                        rw [HBB.out, Bool.or_eq_false_iff] at hbb
                        have htb := of_decide_eq_false hbb.1
                        rw [less_better htb, if_neg (of_decide_eq_false hbb.2)])
                      clear hbb
                      go_wp2_with fail
                      go_meet
                      exact ⟨HE.out, rfl⟩
                  case rest =>
                    obtain ⟨rfl, rfl⟩ := hcut
                    clear HB2 HBB
                    have hmod : (m : Int).tmod (k : Int) = ((m % k : Nat) : Int) := by rw [Int.tmod_eq_emod_of_nonneg (by omega)]; simp
                    by_cases h0 : m % k = 0
                    · have h0b : ((m : Int).tmod (k : Int) != 0) = false := by rw [hmod, h0]; rfl
                      have h0c : ((m : Int) % (k : Int) != 0) = false := by rw [show (m : Int) % (k : Int) = ((m % k : Nat) : Int) by simp, h0]; rfl
                      have hk0 : ¬ k = 0 := by omega
                      have HPS := Lib.hid (per_same (l := l) (i := i) (m := m) (k := k) (by rw [HLN.out]; omega) hk1 hklt h0)
                      clear hmod h0
                      go_wp2_with fail
                      rename World => w5
                      have hst5 : Sts w5 (some ad) n l := (hl.below hbel2).below hb3
                      have hgd : Tryd.prog.eqGuardType Tryd.prog.depth 29 = false := by kernel_rfl
                      go_loopg [11, 12] (m - k) (fun r4 s4 v4 wr4 => ∃ (j : Nat), i + k ≤ j ∧ j ≤ i + m ∧ s4 = .int .i64 (sameI l k i j) ∧ v4 = .int .i64 j ∧ r4 = i + m - j ∧ Hid (∃ q, wr4 = w5.drewN q))
                      case atStart => exact ⟨i + k, by omega, by omega, by rw [sameI_zero], by go_num, by omega, Lib.hid ⟨0, rfl⟩⟩
                      case round =>
                        obtain ⟨j, hj1, hj2, rfl, rfl, hr4, HQ4⟩ := hrel
                        have hstr : Sts wr (some ad) n l := by obtain ⟨q, hq⟩ := HQ4.out; rw [hq]; exact hst5.drewN q
                        rcases Nat.lt_or_ge j (i + m) with hjlt | hjge
                        · have hjn : j < n := by omega
                          obtain ⟨ad1, he1, _, e0, e1, e2, e3, e4⟩ := St.lit_at hstr hjn
                          injection he1 with he1
                          subst he1
                          obtain ⟨jk, hjk⟩ : ∃ jk, jk = j - k := ⟨_, rfl⟩
                          have hjkn : jk < n := by omega
                          obtain ⟨ad1, he1, _, d0, d1, d2, d3, d4⟩ := St.lit_at hstr hjkn
                          injection he1 with he1
                          subst he1
                          have hsub : (j : Int) - (k : Int) = (jk : Int) := by omega
                          have hwj : IntKind.i64.wrap (jk : Int) = (jk : Int) := IntWalk.i64_in _ (by omega)
                          have hjl : j < l.length := by rw [HLN.out]; exact hjn
                          have hjkl : jk < l.length := by rw [HLN.out]; exact hjkn
                          have hjb : decide ((j : Int) < (i : Int) + (m : Int)) = true := by simp; omega
                          have HE := fun W => eql_st l[j] l[jk] W
                          have HJ : Hid (l[j - k]? = some l[jk]) := Lib.hid (by rw [← hjk, List.getElem?_eq_getElem hjkl])
                          have HJ2 : Hid (l[j]? = some l[j]) := Lib.hid (List.getElem?_eq_getElem hjl)
                          by_cases hxy : l[j] = l[jk]
                          · have hxb : decide (l[j] = l[jk]) = true := decide_eq_true hxy
                            simp only [hxb] at HE
                            have HXY := Lib.hid hxy
                            clear hxy hxb hjk c0 c1 c2 c3 c4
                            go_wp2_with fail
                            go_quiet (fail)
                            go_wp2_with fail
                            go_roundg (i + m - j - 1)
                            case measure => omega
                            case rel => exact ⟨j + 1, by omega, by omega, by rw [sameI_yes hj1 (by rw [HJ.out, HJ2.out, HXY.out])], by go_num, by omega, Lib.hid (by obtain ⟨q, hq⟩ := HQ4.out; exact ⟨_, by rw [hq, World.drewN_drewN]⟩)⟩
                          · have hxb : decide (l[j] = l[jk]) = false := decide_eq_false hxy
                            simp only [hxb] at HE
                            have HXY := Lib.hid hxy
                            clear hxy hxb hjk c0 c1 c2 c3 c4
                            go_wp2_with fail
                            go_quiet (fail)
                            go_wp2_with fail
                            go_roundg (i + m - j - 1)
                            case measure => omega
                            case rel => exact ⟨j + 1, by omega, by omega, by rw [sameI_no hj1 (by rw [HJ.out, HJ2.out]; exact fun e => HXY.out (Option.some.inj e))], by go_num, by omega, Lib.hid (by obtain ⟨q, hq⟩ := HQ4.out; exact ⟨_, by rw [hq, World.drewN_drewN]⟩)⟩
                        · have hjb : decide ((j : Int) < (i : Int) + (m : Int)) = false := by simp; omega
                          obtain rfl : j = i + m := by omega
                          obtain ⟨sv, hsv⟩ : ∃ sv, sv = sameI l k i (i + m) := ⟨_, rfl⟩
                          rw [← hsv]
                          have HSV := Lib.hid hsv
                          clear hsv
                          obtain ⟨d, hd⟩ : ∃ d, d = m / k := ⟨_, rfl⟩
                          have hd16 : d ≤ 16 := by rw [hd]; exact Nat.le_trans (Nat.div_le_self _ _) (by omega)
                          have hquo : (m : Int).tdiv (k : Int) = (d : Int) := by rw [Int.tdiv_eq_ediv_of_nonneg (by omega), hd]; simp
                          have hwd : IntKind.i64.wrap (d : Int) = (d : Int) := IntWalk.i64_in _ (by omega)
                          have HD := Lib.hid hd
                          clear hd c0 c1 c2 c3 c4 hst5
                          obtain ⟨x, hx⟩ : ∃ x, x = d % 10 := ⟨_, rfl⟩
                          have hx9 : x ≤ 9 := by omega
                          have hxm : (d : Int) % 10 = (x : Int) := by rw [hx]; simp
                          have HXD := Lib.hid hx
                          clear hx
                          have HCV := fun (W : World) => run_str (P := Tryd.prog) (W.alloc (.cells #[.int .u8 (48 + (x : Int))] 5)) 68 5 9 Tryd.underlying68 Tryd.underlying5 Tryd.underlying9 (some ⟨W.heap.size, 0, none⟩) 1 1 [48 + (x : Int)] (Ints.lit8 W 5 [48 + (x : Int)])
                          go_upto_region 27 with fail
                          go_cut [14] from 43 to 135 (fun v wx => v = .string (strOfNums [48 + (x : Int)]) ∧ Below wr.heap.size wr wx)
                          case first =>
                            go_wp2_with fail
                            go_meet
                            exact ⟨rfl, (Below.refl _ _).alloc (Nat.le_refl _) _⟩
                          case rest =>
                            obtain ⟨rfl, hb4⟩ := hcut
                            clear HCV
                            obtain ⟨dg, hdg⟩ : ∃ dg : ByteArray, dg.data.toList = Lib.decDigits d := ⟨⟨(Lib.decDigits d).toArray⟩, by simp⟩
                            have hdgs : dg.size ≤ 2 := by
                              have e1 : dg.data.toList.length = dg.size := by simp
                              rw [← e1, hdg]
                              exact decDigits_le (by omega)
                            have hss : (strOfNums [48 + (x : Int)]).size ≤ 1 := Nat.le_refl 1
                            have HDG := Lib.hid hdg
                            clear hdg
                            go_upto_if 119 with fail
                            go_cut [14] from 43 to 135 (fun v wx => v = .string dg ∧ wc = wx)
                            case first =>
                              rcases Nat.lt_or_ge 9 d with h9 | h9
                              · have hdb : decide (9 < (d : Int)) = true := by simp; omega
                                have HE : Hid (Value.string (⟨#[49]⟩ ++ strOfNums [48 + (x : Int)]) = .string dg) := Lib.hid (by rw [st_str, st_str dg, HDG.out, dg_two h9 (by omega) HXD.out])
                                go_wp2_with fail
                                go_meet
                                exact ⟨HE.out, rfl⟩
                              · have hdb : decide (9 < (d : Int)) = false := by simp; omega
                                have HE : Hid (Value.string (strOfNums [48 + (x : Int)]) = .string dg) := Lib.hid (by rw [st_str, st_str dg, HDG.out, dg_one (by omega) HXD.out])
                                go_wp2_with fail
                                go_meet
                                exact ⟨HE.out, rfl⟩
                            case rest =>
                              obtain ⟨rfl, rfl⟩ := hcut
                              have hb34 : Below w2.heap.size w2 wc := by
                                obtain ⟨q, hq⟩ := HQ4.out
                                have h5 : Below w2.heap.size w2 wr := by rw [hq]; exact below_drewN hb3 q
                                exact h5.trans (hb4.mono h5.size)
                              have hsg := seg_length (l := l) (s := i) (m := m) (by rw [HLN.out]; omega)
                              have HRT : Hid ((⟨#[91]⟩ ++ b1 ++ ⟨#[93, 120]⟩ ++ dg).data.toList = repT shortL (seg l i m) k) := Lib.hid (by
                                unfold repT
                                rw [seg_take l i hkm, hsg, ← HD.out, Lib.itoa_nonneg, ← HB1.out, ← HDG.out]
                                simp)
                              have HRT2 : Hid (91 :: (b1.data.toList ++ 93 :: 120 :: dg.data.toList) = repT shortL (seg l i m) k) := Lib.hid (by
                                unfold repT
                                rw [seg_take l i hkm, hsg, ← HD.out, Lib.itoa_nonneg, ← HB1.out, ← HDG.out])
                              have hrs : (⟨#[91]⟩ ++ b1 ++ ⟨#[93, 120]⟩ ++ dg).size ≤ 1000 := by
                                simp only [ByteArray.size_append]
                                show 1 + b1.size + 2 + dg.size ≤ 1000
                                omega
                              have HRS := Lib.hid hrs
                              clear hsg hrs
                              have HS1 : Hid (t1.data.toList = betterL (stepsF shortL (seg l i m) (k - 1)) (twoT shortL (seg l i m) k)) := Lib.hid (by rw [HT1.out, HTT.out])
                              rcases sameI_or l k i (i + m) with hs1 | hs0
                              · have hsv1 : sv = 1 := by rw [HSV.out, hs1]
                                subst hsv1
                                have HP : Hid (per (seg l i m) k = true) := Lib.hid (by rw [HPS.out, hs1]; rfl)
                                clear hs1 hb4
                                by_cases hls : lessL (repT shortL (seg l i m) k) t1.data.toList = 1
                                · have hlb : (lessL (91 :: (b1.data.toList ++ 93 :: 120 :: dg.data.toList)) t1.data.toList == 1) = true := by rw [HRT2.out, hls]; rfl
                                  have HLS := Lib.hid hls
                                  clear hls
                                  go_wp2_with fail
                                  refine (less_any _ _ _).mono ?_
                                  rintro e w4 ⟨rfl, rfl⟩
                                  go_wp2_with fail
                                  go_roundg (m - k - 1)
                                  case measure => omega
                                  case rel =>
                                    refine ⟨k + 1, _, by omega, by omega, rfl, by go_num, by omega, HRS.out, Lib.hid ?_, hb34⟩
                                    obtain ⟨k', rfl⟩ : ∃ k', k = k' + 1 := ⟨k - 1, by omega⟩
                                    have e := HS1.out
                                    rw [Nat.add_sub_cancel] at e
                                    rw [Nat.add_sub_cancel, stepsF_succ]
                                    unfold stepK
                                    rw [HP.out, ← e, HRT.out]
                                    exact ((less_better HT1N.out).trans (if_pos HLS.out)).symm
                                · have hlb : (lessL (91 :: (b1.data.toList ++ 93 :: 120 :: dg.data.toList)) t1.data.toList == 1) = false := by rw [HRT2.out, beq_eq_false_iff_ne]; exact hls
                                  have HLS := Lib.hid hls
                                  clear hls
                                  go_wp2_with fail
                                  refine (less_any _ _ _).mono ?_
                                  rintro e w4 ⟨rfl, rfl⟩
                                  go_wp2_with fail
                                  go_roundg (m - k - 1)
                                  case measure => omega
                                  case rel =>
                                    refine ⟨k + 1, t1, by omega, by omega, rfl, by go_num, by omega, ht1l, Lib.hid ?_, hb34⟩
                                    obtain ⟨k', rfl⟩ : ∃ k', k = k' + 1 := ⟨k - 1, by omega⟩
                                    have e := HS1.out
                                    rw [Nat.add_sub_cancel] at e
                                    rw [Nat.add_sub_cancel, stepsF_succ]
                                    unfold stepK
                                    rw [HP.out, ← e]
                                    exact ((less_better HT1N.out).trans (if_neg HLS.out)).symm
                              · have hsv0 : sv = 0 := by rw [HSV.out, hs0]
                                subst hsv0
                                have HP : Hid (per (seg l i m) k = false) := Lib.hid (by rw [HPS.out, hs0]; rfl)
                                clear hs0 hb4
                                go_wp2_with fail
                                go_roundg (m - k - 1)
                                case measure => omega
                                case rel =>
                                  refine ⟨k + 1, t1, by omega, by omega, rfl, by go_num, by omega, ht1l, Lib.hid ?_, hb34⟩
                                  obtain ⟨k', rfl⟩ : ∃ k', k = k' + 1 := ⟨k - 1, by omega⟩
                                  have e := HS1.out
                                  rw [Nat.add_sub_cancel] at e
                                  rw [Nat.add_sub_cancel, stepsF_succ]
                                  unfold stepK
                                  rw [HP.out, ← e]
                                  rfl
                    · have h0b : ((m : Int) % (k : Int) != 0) = true := by rw [show (m : Int) % (k : Int) = ((m % k : Nat) : Int) by simp, bne_iff_ne]; omega
                      have HPF : Hid (per (seg l i m) k = false) := Lib.hid (by
                        unfold per
                        rw [seg_length (by rw [HLN.out]; omega), decide_eq_false h0, Bool.false_and])
                      clear hmod h0
                      go_wp2_with fail
                      go_roundg (m - k - 1)
                      case measure => omega
                      case rel =>
                        refine ⟨k + 1, t1, by omega, by omega, rfl, by go_num, by omega, ht1l, Lib.hid ?_, hb3⟩
                        obtain ⟨k', rfl⟩ : ∃ k', k = k' + 1 := ⟨k - 1, by omega⟩
                        rw [Nat.add_sub_cancel, stepsF_succ, HT1.out, HTT.out, Nat.add_sub_cancel]
                        unfold stepK
                        rw [HPF.out]
                        rfl
              · have hkb : decide ((k : Int) < (m : Int)) = false := by simp; omega
                have hkm2 : k = m := by omega
                subst hkm2
                have hsg := seg_length (l := l) (s := i) (m := k) (by rw [HLN.out]; omega)
                have HTE : Hid (Value.string tb = str (shortL (seg l i k))) := Lib.hid (by rw [st_str, shortL_more (by rw [hsg]; omega), hsg, HTT.out])
                have hbelr : Below w.heap.size w wr := hbel2.trans (hb3.mono hbel2.size)
                have x0 := HMr.cell (j := p + i + k) (by omega)
                have f0 := HMr.frozen (p + i + k)
                have hI1 : (p : Int) + (i : Int) + (k : Int) < (N : Int) := by omega
                have hI2 : (0 : Int) ≤ (p : Int) + (i : Int) + (k : Int) := by omega
                clear hsg
                go_wp2_with fail
                go_roundg (n - i - 1)
                case measure => omega
                case rel =>
                  refine ⟨i + 1, updS T2 (p + i + k) (shortL (seg l i k)), by omega, by go_num, by omega, ?_, Lib.hid ?_, hbelr.setCell (Nat.le_refl _) _⟩
                  · rw [HTE.out]
                    exact HMr.set_ (p + i + k) _
                  · have := HT2.out.put (by rw [HLN.out]; omega)
                    rwa [HLN.out, ← HP.out] at this
          · have hme : m = 1 := by omega
            subst hme
            have HTX := Lib.hid (refText_any l[i] wr (HW.out _ (List.getElem_mem hil)))
            go_wp2_with fail
            refine HTX.out.mono ?_
            rintro e w3 ⟨rfl, hb3⟩
            go_wp2_with fail
            have hM3 := HM2.below hb3 HM2.lt
            have x0 := hM3.cell (j := p + i + 1) (by omega)
            have f0 := hM3.frozen (p + i + 1)
            have hbel3 : Below w.heap.size w w3 := hbel2.trans (hb3.mono hbel2.size)
            have hI1 : (p : Int) + (i : Int) + 1 < (N : Int) := by omega
            have hI2 : (0 : Int) ≤ (p : Int) + (i : Int) + 1 := by omega
            go_loopg [7, 8] 0 (fun r3 t3 v3 wr3 => t3 = str (stText l[i]) ∧ v3 = .int .i64 1 ∧ wr3 = w3)
            case atStart => exact ⟨rfl, rfl, rfl⟩
            case round =>
              obtain ⟨rfl, rfl, rfl⟩ := hrel
              go_wp2_with fail
              go_roundg (n - i - 1)
              case measure => omega
              case rel =>
                refine ⟨i + 1, updS T2 (p + i + 1) (stText l[i]), by omega, by go_num, by omega, hM3.set_ (p + i + 1) _, Lib.hid ?_, hbel3.setCell (Nat.le_refl _) _⟩
                have := HT2.out.put (by omega)
                rwa [seg_one hil, shortL_one, HLN.out, ← HP.out] at this
end Go.Proofs.YtgpkcooipadnpaaDoor
