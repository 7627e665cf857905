/-
  written.Shorten, for rows of at most 1000 stitches. No conditions beyond the stitches' ranges.
-/
import Derived.Test.YtgpkcooipadnpaaDoorWrG
import Derived.Test.YtgpkcooipadnpaaDoorWrH
namespace Go.Proofs.YtgpkcooipadnpaaDoor
set_option linter.unusedSimpArgs false
set_option linter.unusedVariables false
open Go.RowKit
set_option maxRecDepth 100000

def seg (l : List St) (s m : Nat) : List St := (l.drop s).take m
theorem seg_length {l : List St} {s m : Nat} (h : s + m ≤ l.length) : (seg l s m).length = m := by simp [seg]; omega
theorem seg_take (l : List St) (s : Nat) {m k : Nat} (h : k ≤ m) : (seg l s m).take k = seg l s k := by simp [seg, List.take_take, Nat.min_eq_left h]
theorem seg_drop (l : List St) (s m k : Nat) : (seg l s m).drop k = seg l (s + k) (m - k) := by simp [seg, List.drop_take, List.drop_drop]
theorem seg_valid {l : List St} (h : ∀ x ∈ l, x.valid = true) (s m : Nat) : ∀ x ∈ seg l s m, x.valid = true := fun x hx => h x (List.mem_of_mem_drop (List.mem_of_mem_take hx))
theorem seg_short {l : List St} (hv : ∀ x ∈ l, x.valid = true) (h16 : l.length ≤ 16) {s m : Nat} (hm : 1 ≤ m) (h : s + m ≤ l.length) : (shortL (seg l s m)).length ≤ 96 := by
  have hl := seg_length h
  have := short_length (l := seg l s m) (fun e => by rw [e] at hl; simp at hl; omega) (seg_valid hv s m) (by omega)
  omega
theorem seg_one {l : List St} {s : Nat} (h : s < l.length) : seg l s 1 = [l[s]] := by
  unfold seg
  rw [List.drop_eq_getElem_cons h]
  rfl
theorem seg_all (l : List St) : seg l 0 l.length = l := by simp [seg]

/-- What the table holds before the text of n stitches from i on is found. -/
def Tab (T : Nat → Nat → List UInt8) (l : List St) (n i : Nat) : Prop := ∀ s m, 1 ≤ m → s + m ≤ l.length → (m < n ∨ (m = n ∧ s < i)) → T s (s + m) = shortL (seg l s m)
theorem Tab.zero (T : Nat → Nat → List UInt8) (l : List St) : Tab T l 1 0 := fun s m h1 h2 h3 => by omega
theorem Tab.next {T : Nat → Nat → List UInt8} {l : List St} {n i : Nat} (h : Tab T l n i) (hi : l.length < i + n) : Tab T l (n + 1) 0 := fun s m h1 h2 h3 => h s m h1 h2 (by omega)
theorem Tab.put {T : Nat → Nat → List UInt8} {l : List St} {n i : Nat} (h : Tab T l n i) : Tab (updT T i (i + n) (shortL (seg l i n))) l n (i + 1) := fun s m h1 h2 h3 => by
  unfold updT
  by_cases he : s = i ∧ s + m = i + n
  · rw [if_pos he, he.1, show m = n by omega]
  · rw [if_neg he]
    exact h s m h1 h2 (by omega)

/-- What Shorten answers. -/
def SOut (l : List St) (e : Ending) : Prop :=
  if 16 < l.length then e = .returned (.tuple #[str [], .int .i64 3])
  else if l = [] ∨ l.any (fun x => !x.valid) = true then e = .returned (.tuple #[str [], .int .i64 1])
  else e = .returned (.tuple #[str (shortL l), .int .i64 0])

theorem better_to (a b : ByteArray) (ta tb t1 : List UInt8) (ha : a.data.toList = ta) (hb : b.data.toList = tb) (h : t1 = betterL ta tb) (w : World) :
    Calls Tryd.prog 19 #[.string a, .string b] w fun e w' => e = .returned (str t1) ∧ w' = w := by
  subst ha
  subst hb
  subst h
  exact better_any a b w

set_option maxHeartbeats 8000000 in
theorem shorten_any (A : Option Addr) (n c : Nat) (l : List St) (w : World) (hl : Sts w A n l) (hw : ∀ x ∈ l, x.wf) (hnc : n ≤ c) (hc : c ≤ 9223372036854775807) (hn : n ≤ 1000) :
    Calls Tryd.prog 6 #[.slice A n c] w fun e w' => SOut l e ∧ Below w.heap.size w w' := by
  have hlen := hl.len
  rcases Nat.lt_or_ge 16 n with h16 | h16
  · have HX : Hid (∀ e, SOut l e = (e = .returned (.tuple #[str [], .int .i64 3]))) := Lib.hid (fun e => by unfold SOut; rw [if_pos (by omega)])
    have hb : decide (16 < (n : Int)) = true := by simp; omega
    clear hw hlen
    go_enter Tryd.func6, Tryd.ntmps6
    go_wp2_with fail
    go_ret2
    exact ⟨by rw [HX.out]; rfl, Below.refl _ _⟩
  · have hb : decide (16 < (n : Int)) = false := by simp; omega
    rcases Nat.eq_zero_or_pos n with h0 | hpos
    · have hl0 : l = [] := List.eq_nil_of_length_eq_zero (by omega)
      have HX : Hid (∀ e, SOut l e = (e = .returned (.tuple #[str [], .int .i64 1]))) := Lib.hid (fun e => by unfold SOut; rw [if_neg (by omega), if_pos (.inl hl0)])
      have h0b : ((n : Int) == 0) = true := by rw [h0]; rfl
      clear hw hlen hl0 h0
      go_enter Tryd.func6, Tryd.ntmps6
      go_wp2_with fail
      go_ret2
      exact ⟨by rw [HX.out]; rfl, Below.refl _ _⟩
    · have h0b : ((n : Int) == 0) = false := by rw [beq_eq_false_iff_ne]; omega
      have hne : l ≠ [] := fun e => by rw [e] at hlen; simp at hlen; omega
      have HB := Lib.hid (contains_bad A n c l w hl hw (by omega))
      cases hv : l.any (fun x => !x.valid) with
      | true =>
        have HX : Hid (∀ e, SOut l e = (e = .returned (.tuple #[str [], .int .i64 1]))) := Lib.hid (fun e => by unfold SOut; rw [if_neg (by omega), if_pos (.inr hv)])
        have HV := Lib.hid hv
        clear hw hlen hv
        go_enter Tryd.func6, Tryd.ntmps6
        go_wp2_with fail
        refine HB.out.mono ?_
        rintro e w1 ⟨rfl, hb1⟩
        rw [HV.out]
        go_wp2_with fail
        go_ret2
        exact ⟨by rw [HX.out]; rfl, hb1⟩
      | false =>
        have HX : Hid (∀ e, SOut l e = (e = .returned (.tuple #[str (shortL l), .int .i64 0]))) := Lib.hid (fun e => by unfold SOut; rw [if_neg (by omega), if_neg (by rw [hv]; rintro (h | h); exact hne h; cases h)])
        have hval : Hid (∀ x ∈ l, x.valid = true) := Lib.hid (fun x hx => by
          have := List.any_eq_false.1 hv x hx
          simpa using this)
        have HV := Lib.hid hv
        have HW := Lib.hid hw
        have HLN := Lib.hid hlen
        clear hw hlen hv hne
        have hmm := fun t W => run_makeMap (P := Tryd.prog) t W
        go_enter Tryd.func6, Tryd.ntmps6
        go_wp2_with fail
        refine HB.out.mono ?_
        rintro e w1 ⟨rfl, hb1⟩
        rw [HV.out]
        clear HB
        have hw1 : w.heap.size ≤ w1.heap.size := hb1.size
        have hst1 := hl.below hb1
        have HS1 := Lib.hid hst1
        clear hst1
        go_wp2_with fail
        go_loopg [5] n (fun r v wr => ∃ (m : Nat) (T : Nat → Nat → List UInt8) (cn : Nat), 1 ≤ m ∧ m ≤ n + 1 ∧ v = .int .i64 m ∧ r = n + 1 - m ∧ BMap wr w1.heap.size cn T ∧ cn ≤ m * 20 ∧ Hid (Tab T l m 0) ∧ Below w1.heap.size w1 wr)
        case atStart => exact ⟨1, _, 0, by omega, by omega, rfl, by omega, BMap.made w1, by omega, Lib.hid (Tab.zero _ l), (Below.refl _ w1).alloc (Nat.le_refl _) _⟩
        case round =>
          obtain ⟨m, T, cn, hm1, hmn, rfl, hr, HM, hcn, HT, hbel⟩ := hrel
          rcases Nat.lt_or_ge n m with hnm | hnm
          · have hmb : decide ((m : Int) ≤ (n : Int)) = false := by simp; omega
            have hT : T 0 n = shortL l := by
              have := HT.out 0 n hpos (by rw [HLN.out]; omega) (.inl hnm)
              rw [Nat.zero_add] at this
              rw [this, ← HLN.out, seg_all]
            have HL := HM.lookup (i := 0) (j := n) (by omega) (by omega)
            rw [hT, show (((0 : Nat) : Int)) = 0 from rfl] at HL
            go_wp2_with fail
            go_ret2
            exact ⟨by rw [HX.out]; rfl, hb1.trans (hbel.mono hw1)⟩
          · have hmb : decide ((m : Int) ≤ (n : Int)) = true := by simp; omega
            go_wp2_with fail
            go_loopg [6] n (fun r2 v2 wr2 => ∃ (i : Nat) (T2 : Nat → Nat → List UInt8) (cn2 : Nat), i ≤ n ∧ v2 = .int .i64 i ∧ r2 = n - i ∧ BMap wr2 w1.heap.size cn2 T2 ∧ cn2 ≤ m * 20 + i ∧ Hid (Tab T2 l m i) ∧ Below w1.heap.size w1 wr2)
            case atStart => exact ⟨0, T, cn, by omega, rfl, by omega, HM, by omega, HT, hbel⟩
            case round =>
              obtain ⟨i, T2, cn2, hin, rfl, hr2, HM2, hcn2, HT2, hbel2⟩ := hrel
              clear HM HT hbel
              rcases Nat.lt_or_ge n (i + m) with him | him
              · have hib : decide ((i : Int) + (m : Int) ≤ (n : Int)) = false := by simp; omega
                go_wp2_with fail
                go_roundg (n - m)
                case measure => omega
                case rel => exact ⟨m + 1, T2, cn2, by omega, by omega, by go_num, by omega, HM2, by omega, Lib.hid (HT2.out.next (by rw [HLN.out]; exact him)), hbel2⟩
              · have hib : decide ((i : Int) + (m : Int) ≤ (n : Int)) = true := by simp; omega
                have hilt : i < n := by omega
                have hst2 := HS1.out.below hbel2
                obtain ⟨ad, rfl, hadb, c0, c1, c2, c3, c4⟩ := St.lit_at hst2 hilt
                have hil : i < l.length := by rw [HLN.out]; exact hilt
                rcases Nat.lt_or_ge 1 m with h1m | h1m
                · have h1b : ((m : Int) == 1) = false := by rw [beq_eq_false_iff_ne]; omega
                  rename World => w2
                  go_wp2_with fail
                  go_loopg [7, 8] (m - 1) (fun r3 t3 v3 wr3 => ∃ (k : Nat) (t : List UInt8), 1 ≤ k ∧ k ≤ m ∧ t3 = str t ∧ v3 = .int .i64 k ∧ r3 = m - k ∧ t.length ≤ 1000 ∧ Hid (t = stepsF shortL (seg l i m) (k - 1)) ∧ Hid (∃ q, wr3 = w2.drewN q))
                  case atStart => exact ⟨1, [], by omega, by omega, rfl, rfl, by omega, by simp, Lib.hid rfl, Lib.hid ⟨0, rfl⟩⟩
                  case round =>
                    obtain ⟨k, t, hk1, hkm, rfl, rfl, hr3, ht, HTT, HQ⟩ := hrel
                    rcases Nat.lt_or_ge k m with hklt | hkge
                    · have hkb : decide ((k : Int) < (m : Int)) = true := by simp; omega
                      have HMr : BMap wr w1.heap.size cn2 T2 := by obtain ⟨q, hq⟩ := HQ.out; rw [hq]; exact HM2.drewN q
                      have hstr : Sts wr (some ad) n l := by obtain ⟨q, hq⟩ := HQ.out; rw [hq]; exact hst2.drewN q
                      obtain ⟨b1, hb1', hb1s⟩ : ∃ b1 : ByteArray, b1.data.toList = shortL (seg l i k) ∧ b1.size ≤ 96 := ⟨⟨(shortL (seg l i k)).toArray⟩, by simp, by
                        have := seg_short hval.out (by rw [HLN.out]; exact h16) (s := i) (m := k) hk1 (by rw [HLN.out]; omega)
                        show (shortL (seg l i k)).toArray.size ≤ 96
                        simpa using this⟩
                      obtain ⟨b2, hb2', hb2s⟩ : ∃ b2 : ByteArray, b2.data.toList = shortL (seg l (i + k) (m - k)) ∧ b2.size ≤ 96 := ⟨⟨(shortL (seg l (i + k) (m - k))).toArray⟩, by simp, by
                        have := seg_short hval.out (by rw [HLN.out]; exact h16) (s := i + k) (m := m - k) (by omega) (by rw [HLN.out]; omega)
                        show (shortL (seg l (i + k) (m - k))).toArray.size ≤ 96
                        simpa using this⟩
                      have HB1 := Lib.hid hb1'
                      have HB2 := Lib.hid hb2'
                      have L1 : ∀ q, (Instr.lookup 51 (.map (some w1.heap.size)) (.agg #[.int .i64 (i : Int), .int .i64 ((i : Int) + (k : Int))]) false).run Tryd.prog (wr.drewN q) = .ok (.string b1) (wr.drewN q) := fun q => by
                        have := (HMr.drewN q).lookup (i := i) (j := i + k) (by omega) (by omega)
                        rw [HT2.out i k hk1 (by rw [HLN.out]; omega) (.inl hklt), ← hb1', ← st_str] at this
                        exact this
                      have L2 : ∀ q, (Instr.lookup 51 (.map (some w1.heap.size)) (.agg #[.int .i64 ((i : Int) + (k : Int)), .int .i64 ((i : Int) + (m : Int))]) false).run Tryd.prog (wr.drewN q) = .ok (.string b2) (wr.drewN q) := fun q => by
                        have := (HMr.drewN q).lookup (i := i + k) (j := i + m) (by omega) (by omega)
                        have e := HT2.out (i + k) (m - k) (by omega) (by rw [HLN.out]; omega) (.inl (by omega))
                        rw [show i + k + (m - k) = i + m by omega] at e
                        rw [e, ← hb2', ← st_str] at this
                        exact this
                      clear hb1' hb2'
                      obtain ⟨t1, ht1⟩ : ∃ t1, t1 = betterL t (twoT shortL (seg l i m) k) := ⟨_, rfl⟩
                      have HT1 := Lib.hid ht1
                      clear ht1
                      have HSG : Hid (shortL (seg l i k) ++ 32 :: shortL (seg l (i + k) (m - k)) = twoT shortL (seg l i m) k) := Lib.hid (by unfold twoT; rw [seg_take l i hkm, seg_drop])
                      go_wp2_with fail
                      go_quiet (first | (go_at_call 19; exact Calls.quiet_of_same (better_to _ _ t (twoT shortL (seg l i m) k) t1 (by simp) (by rw [← HSG.out, ← HB1.out, ← HB2.out]; simp) HT1.out _)))
                      have HSEG : Hid (Sts wr (some (ad.add (i * 5))) m (seg l i m)) := Lib.hid ((hstr.drop (k := i) (by omega)).take (k := m) (by omega))
                      have HPER := fun q => periodic_any (ad.add (i * 5)) m (c - i) k (seg l i m) (wr.drewN q) (HSEG.out.drewN q) hk1 hklt (by omega) (by omega) (by omega)
                      have HPER := Lib.hid HPER
                      have htw : (twoT shortL (seg l i m) k).length ≤ 200 := by
                        rw [← HSG.out, ← HB1.out, ← HB2.out]
                        simp only [List.length_append, List.length_cons]
                        have e1 : b1.data.toList.length = b1.size := by simp
                        have e2 : b2.data.toList.length = b2.size := by simp
                        omega
                      have ht1l : t1.length ≤ 1000 := by
                        rw [HT1.out]
                        rcases betterL_or t (twoT shortL (seg l i m) k) with e | e <;> rw [e] <;> omega
                      have hsg := seg_length (l := l) (s := i) (m := m) (by rw [HLN.out]; omega)
                      have HSL := Lib.hid hsg
                      clear hsg
                      go_wp2_with fail
                      refine (HPER.out _).mono ?_
                      rintro e w4 ⟨rfl, q4, hw4⟩
                      have HW4 := Lib.hid hw4
                      clear hw4
                      cases hper : per (seg l i m) k with
                      | false =>
                        have HP := Lib.hid hper
                        clear hper
                        go_wp2_with fail
                        go_roundg (m - k - 1)
                        case measure => omega
                        case rel =>
                          refine ⟨k + 1, t1, by omega, by omega, rfl, by go_num, by omega, ht1l, Lib.hid ?_, Lib.hid ?_⟩
                          · obtain ⟨k', rfl⟩ : ∃ k', k = k' + 1 := ⟨k - 1, by omega⟩
                            rw [Nat.add_sub_cancel, stepsF_succ, HT1.out, HTT.out, Nat.add_sub_cancel]
                            unfold stepK
                            rw [HP.out]
                            rfl
                          · obtain ⟨q, hq⟩ := HQ.out
                            exact ⟨_, by rw [HW4.out, hq, World.drewN_drewN, World.drewN_drewN]⟩
                      | true =>
                        have HP := Lib.hid hper
                        clear hper
                        obtain ⟨d, hd⟩ : ∃ d, d = m / k := ⟨_, rfl⟩
                        have hd16 : d ≤ 16 := by rw [hd]; exact Nat.le_trans (Nat.div_le_self _ _) (by omega)
                        have hquo : (m : Int).tdiv (k : Int) = (d : Int) := by rw [Int.tdiv_eq_ediv_of_nonneg (by omega), hd]; simp
                        have hwd : IntKind.i64.wrap (d : Int) = (d : Int) := IntWalk.i64_in _ (by omega)
                        have hk0 : ¬ k = 0 := by omega
                        have hdl : (Lib.decDigits d).length ≤ 2 := by
                          rw [← Lib.itoa_nonneg]
                          rcases Nat.lt_or_ge d 10 with h | h
                          · rw [itoa_pos h]; simp
                          · rw [itoa_two h (by omega)]; simp
                        have HRT : Hid (91 :: (shortL (seg l i k) ++ 93 :: 120 :: Lib.decDigits d) = repT shortL (seg l i m) k) := Lib.hid (by unfold repT; rw [seg_take l i hkm, HSL.out, ← hd, Lib.itoa_nonneg])
                        obtain ⟨t2, ht2⟩ : ∃ t2, t2 = betterL t1 (repT shortL (seg l i m) k) := ⟨_, rfl⟩
                        have HT2' := Lib.hid ht2
                        have ht2l : t2.length ≤ 1000 := by
                          rw [ht2]
                          rcases betterL_or t1 (repT shortL (seg l i m) k) with e | e
                          · rw [e]; exact ht1l
                          · rw [e, ← HRT.out, ← HB1.out]
                            simp only [List.length_append, List.length_cons]
                            have e1 : b1.data.toList.length = b1.size := by simp
                            omega
                        clear ht2 hd
                        have L3 : ∀ q, (Instr.lookup 51 (.map (some w1.heap.size)) (.agg #[.int .i64 (i : Int), .int .i64 ((i : Int) + (k : Int))]) false).run Tryd.prog (w4.drewN q) = .ok (.string b1) (w4.drewN q) := fun q => by rw [HW4.out, World.drewN_drewN, World.drewN_drewN]; exact L1 _
                        clear L1 L2
                        go_wp2_with fail
                        go_quiet (first
                          | (go_at_call 21; exact Calls.quiet_of_same (Tryd.strconv_Itoa_small d (by omega) _))
                          | (go_at_call 19; exact Calls.quiet_of_same (better_to _ _ t1 (repT shortL (seg l i m) k) t2 (by simp) (by rw [← HRT.out, ← HB1.out]; simp) HT2'.out _)))
                        go_wp2_with fail
                        go_roundg (m - k - 1)
                        case measure => omega
                        case rel =>
                          refine ⟨k + 1, t2, by omega, by omega, rfl, by go_num, by omega, ht2l, Lib.hid ?_, Lib.hid ?_⟩
                          · obtain ⟨k', rfl⟩ : ∃ k', k = k' + 1 := ⟨k - 1, by omega⟩
                            rw [Nat.add_sub_cancel, stepsF_succ, HT2'.out, HT1.out, HTT.out, Nat.add_sub_cancel]
                            unfold stepK
                            rw [HP.out]
                            rfl
                          · obtain ⟨q, hq⟩ := HQ.out
                            exact ⟨_, by rw [HW4.out, hq, World.drewN_drewN, World.drewN_drewN, World.drewN_drewN]⟩
                    · have hkb : decide ((k : Int) < (m : Int)) = false := by simp; omega
                      have hkm2 : k = m := by omega
                      subst hkm2
                      have hsg := seg_length (l := l) (s := i) (m := k) (by rw [HLN.out]; omega)
                      have hte : t = shortL (seg l i k) := by rw [shortL_more (by rw [hsg]; omega), hsg]; exact HTT.out
                      have HMr : BMap wr w1.heap.size cn2 T2 := by obtain ⟨q, hq⟩ := HQ.out; rw [hq]; exact HM2.drewN q
                      obtain ⟨w4, hrun, hM4, hg4⟩ := HMr.update (i := i) (j := i + k) (by omega) (by omega) (by omega) t (by omega)
                      have hrun2 : (Instr.mapUpdate 51 (.map (some w1.heap.size)) (.agg #[.int .i64 (i : Int), .int .i64 ((i : Int) + (k : Int))]) (str t)).run Tryd.prog wr = .ok () w4 := hrun
                      have hbelr : Below w1.heap.size w1 wr := by obtain ⟨q, hq⟩ := HQ.out; rw [hq]; exact below_drewN hbel2 q
                      have hbel4 : Below w1.heap.size w1 w4 := hbelr.trans ⟨hg4.os, hg4.tape, hg4.output, hg4.size, fun x hx => hg4.block x (by have := hbelr.size; omega) (fun e => by injection e with e; omega)⟩
                      have HT4 : Hid (Tab (updT T2 i (i + k) t) l k (i + 1)) := Lib.hid (by
                        rw [hte]
                        exact HT2.out.put)
                      clear hrun hg4 hsg hte
                      go_wp2_with fail
                      go_roundg (n - i - 1)
                      case measure => omega
                      case rel => exact ⟨i + 1, _, _, by omega, by go_num, by omega, hM4, by omega, HT4, hbel4⟩
                · have hme : m = 1 := by omega
                  subst hme
                  have HTX := Lib.hid (stText_any l[i] wr (HW.out _ (List.getElem_mem hil)))
                  go_wp2_with fail
                  refine HTX.out.mono ?_
                  rintro e w3 ⟨rfl, hb3⟩
                  have hM3 := HM2.below hb3 HM2.lt
                  have htl : (stText l[i]).length ≤ 1000000 := by
                    have := seg_short hval.out (by rw [HLN.out]; exact h16) (s := i) (m := 1) (by omega) (by rw [HLN.out]; omega)
                    rw [seg_one hil, shortL_one] at this
                    omega
                  obtain ⟨w4, hrun, hM4, hg4⟩ := hM3.update (i := i) (j := i + 1) (by omega) (by omega) (by omega) (stText l[i]) htl
                  rw [show (((i + 1 : Nat) : Int)) = (i : Int) + 1 from rfl] at hrun
                  have hbel4 : Below w1.heap.size w1 w4 := (hbel2.trans (hb3.mono hbel2.size)).trans ⟨hg4.os, hg4.tape, hg4.output, hg4.size, fun k hk => hg4.block k (by have := hbel2.size; have := hb3.size; omega) (fun e => by injection e with e; omega)⟩
                  have HT4 : Hid (Tab (updT T2 i (i + 1) (stText l[i])) l 1 (i + 1)) := Lib.hid (by
                    have := HT2.out.put
                    rwa [seg_one hil, shortL_one] at this)
                  clear htl hg4 HTX
                  go_wp2_with fail
                  go_loopg [7, 8] 0 (fun r3 t3 v3 wr3 => t3 = str (stText l[i]) ∧ v3 = .int .i64 1 ∧ wr3 = w3)
                  case atStart => exact ⟨rfl, rfl, rfl⟩
                  case round =>
                    obtain ⟨rfl, rfl, rfl⟩ := hrel
                    go_wp2_with fail
                    go_roundg (n - i - 1)
                    case measure => omega
                    case rel => exact ⟨i + 1, _, _, by omega, by go_num, by omega, hM4, by omega, HT4, hbel4⟩


end Go.Proofs.YtgpkcooipadnpaaDoor
