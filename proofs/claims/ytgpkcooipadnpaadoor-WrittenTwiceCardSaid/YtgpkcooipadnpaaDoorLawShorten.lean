/-
  The law WrittenShorten, walked. Condition: strconv's variables hold what their initialisers lay (Vars).
-/
import Derived.Test.YtgpkcooipadnpaaDoorLawLeast
import Derived.Test.YtgpkcooipadnpaaDoorOpenSts
namespace Go.Proofs.YtgpkcooipadnpaaDoor
set_option linter.unusedSimpArgs false
set_option linter.unusedVariables false
open Go.RowKit
set_option maxRecDepth 100000

theorem SOut.form {l : List St} {e : Ending} (h : SOut l e) : ∃ t E, e = .returned (.tuple #[.string t, .int .i64 E]) ∧ ((16 < l.length ∧ E = 3 ∧ t = ⟨#[]⟩) ∨ (l.length ≤ 16 ∧ (l = [] ∨ l.any (fun x => !x.valid) = true) ∧ E = 1 ∧ t = ⟨#[]⟩) ∨ (l.length ≤ 16 ∧ l ≠ [] ∧ l.any (fun x => !x.valid) = false ∧ E = 0 ∧ t.data.toList = shortL l)) := by
  unfold SOut at h
  by_cases h1 : 16 < l.length
  · rw [if_pos h1] at h
    exact ⟨_, _, h, .inl ⟨h1, rfl, rfl⟩⟩
  · rw [if_neg h1] at h
    by_cases h2 : l = [] ∨ l.any (fun x => !x.valid) = true
    · rw [if_pos h2] at h
      exact ⟨_, _, h, .inr (.inl ⟨by omega, h2, rfl, rfl⟩)⟩
    · rw [if_neg h2] at h
      refine ⟨⟨(shortL l).toArray⟩, 0, h, .inr (.inr ⟨by omega, fun e => h2 (.inl e), ?_, rfl, by simp⟩)⟩
      cases hb : l.any (fun x => !x.valid) with
      | false => rfl
      | true => exact absurd (.inr hb) h2
/-- What the law's loop gathers. -/
def wantI (l : List St) (i : Nat) : Int := if (l.take i).any (fun x => !x.valid) = true then 1 else 0
theorem wantI_zero (l : List St) : wantI l 0 = 0 := by simp [wantI]
theorem wantI_yes {l : List St} {i : Nat} (h : i < l.length) (hv : l[i].valid = true) : wantI l (i + 1) = wantI l i := by
  unfold wantI
  rw [List.take_add_one, List.getElem?_eq_getElem h, List.any_append]
  simp [hv]
theorem wantI_no {l : List St} {i : Nat} (h : i < l.length) (hv : l[i].valid = false) : wantI l (i + 1) = 1 := by
  unfold wantI
  rw [List.take_add_one, List.getElem?_eq_getElem h, List.any_append]
  simp [hv]
theorem wantI_all (l : List St) : wantI l l.length = if l.any (fun x => !x.valid) = true then 1 else 0 := by unfold wantI; rw [List.take_length]

set_option maxHeartbeats 8000000 in
theorem law_shorten (A : Option Addr) (n c : Nat) (l : List St) (w : World) (hl : Sts w A n l) (hw : ∀ x ∈ l, x.wf) (hnc : n ≤ c) (hc : c ≤ 9223372036854775807) (hV : Vars w) (hg : 5 ≤ w.heap.size) :
    Calls Tryd.prog 3 #[.slice A n c] w fun e w' => e = .returned (.bool true) ∧ Below w.heap.size w w' := by
  have HV := Lib.hid hV; clear hV
  rcases Nat.lt_or_ge 20 n with h20 | h20
  · have hb : decide (20 < (n : Int)) = true := by simp; omega
    clear hw
    go_enter Tryd.func3, Tryd.ntmps3
    go_wp2_with fail
    go_ret
    exact ⟨rfl, Below.refl _ _⟩
  · have hb : decide (20 < (n : Int)) = false := by simp; omega
    have HS := Lib.hid (shorten_any A n c l w hl hw hnc hc (by omega))
    have HL := Lib.hid hl
    have HLN := Lib.hid hl.len
    have HW := Lib.hid hw
    clear hw hl
    go_enter Tryd.func3, Tryd.ntmps3
    go_wp2_with fail
    refine HS.out.mono ?_
    rintro e w1 ⟨hso, hb1⟩
    have hl1 := HL.out.below hb1
    obtain ⟨t, E, rfl, hcase⟩ := hso.form
    have hw1 := hb1.size
    clear HS HL
    rcases hcase with ⟨h16, rfl, rfl⟩ | ⟨h16, hbad, rfl, rfl⟩ | ⟨h16, hne, hgood, rfl, ht⟩
    · go_wp2_with fail
      rename World => w2
      go_loopg [5, 6] n (fun r v5 v6 wr => ∃ i : Nat, i ≤ n ∧ v5 = .int .i64 (wantI l i) ∧ v6 = .int .i64 i ∧ r = n - i ∧ Below w2.heap.size w2 wr)
      case atStart => exact ⟨0, by omega, by rw [wantI_zero], rfl, rfl, Below.refl _ _⟩
      case round =>
        obtain ⟨i, hi, rfl, rfl, hr, hb2⟩ := hrel
        have hlr := hl1.below hb2
        have hb12 := hb1.trans (hb2.mono hw1)
        rcases Nat.lt_or_ge i n with hlt | hge
        · have hib : decide ((i : Int) < (n : Int)) = true := by simp; omega
          obtain ⟨ad, rfl, hadb, c0, c1, c2, c3, c4⟩ := St.lit_at hlr hlt
          have hil : i < l.length := by rw [HLN.out]; exact hlt
          have HVD := Lib.hid (valid_any l[i] wr (HW.out _ (List.getElem_mem hil)))
          cases hv : l[i].valid with
          | true =>
            have HY : Hid (validI l[i] = 1) := Lib.hid (validI_yes hv)
            have HWI := Lib.hid (wantI_yes hil hv)
            clear hv
            go_wp2_with fail
            refine HVD.out.mono ?_
            rintro e w3 ⟨rfl, hb3⟩
            rw [HY.out]
            go_wp2_with fail
            go_roundg (n - i - 1)
            case measure => omega
            case rel => exact ⟨i + 1, by omega, by rw [HWI.out], by go_num, by omega, hb2.trans (hb3.mono hb2.size)⟩
          | false =>
            have HY : Hid (validI l[i] = 0) := Lib.hid (validI_no hv)
            have HWI := Lib.hid (wantI_no hil hv)
            clear hv
            go_wp2_with fail
            refine HVD.out.mono ?_
            rintro e w3 ⟨rfl, hb3⟩
            rw [HY.out]
            go_wp2_with fail
            go_roundg (n - i - 1)
            case measure => omega
            case rel => exact ⟨i + 1, by omega, by rw [HWI.out], by go_num, by omega, hb2.trans (hb3.mono hb2.size)⟩
        · have hib : decide ((i : Int) < (n : Int)) = false := by simp; omega
          have hin : i = l.length := by rw [HLN.out]; omega
          have hwi := wantI_all l
          rw [← hin] at hwi
          clear hin
          have hg2 : 5 ≤ wr.heap.size := by have := hb12.size; omega
          obtain ⟨wv, hwv⟩ : ∃ wv, wv = wantI l i := ⟨_, rfl⟩
          rw [← hwv] at hwi ⊢
          have HWV := Lib.hid hwv
          clear hwv
          have h16n : 16 < n := by have := HLN.out; omega
          have hn0 : ((n : Int) == 0) = false := by rw [beq_eq_false_iff_ne]; omega
          have hn16 : decide (16 < (n : Int)) = true := by simp; omega
          have HWI := Lib.hid hwi
          clear hwi h16
          go_wp2_with fail
          refine (lives_any wr (HV.out.below hb12) hg2).mono ?_
          rintro e w4 ⟨rfl, hb4⟩
          go_wp2_with fail
          go_ret
          exact ⟨rfl, hb12.trans (hb4.mono hb12.size)⟩
    · go_wp2_with fail
      rename World => w2
      go_loopg [5, 6] n (fun r v5 v6 wr => ∃ i : Nat, i ≤ n ∧ v5 = .int .i64 (wantI l i) ∧ v6 = .int .i64 i ∧ r = n - i ∧ Below w2.heap.size w2 wr)
      case atStart => exact ⟨0, by omega, by rw [wantI_zero], rfl, rfl, Below.refl _ _⟩
      case round =>
        obtain ⟨i, hi, rfl, rfl, hr, hb2⟩ := hrel
        have hlr := hl1.below hb2
        have hb12 := hb1.trans (hb2.mono hw1)
        rcases Nat.lt_or_ge i n with hlt | hge
        · have hib : decide ((i : Int) < (n : Int)) = true := by simp; omega
          obtain ⟨ad, rfl, hadb, c0, c1, c2, c3, c4⟩ := St.lit_at hlr hlt
          have hil : i < l.length := by rw [HLN.out]; exact hlt
          have HVD := Lib.hid (valid_any l[i] wr (HW.out _ (List.getElem_mem hil)))
          cases hv : l[i].valid with
          | true =>
            have HY : Hid (validI l[i] = 1) := Lib.hid (validI_yes hv)
            have HWI := Lib.hid (wantI_yes hil hv)
            clear hv
            go_wp2_with fail
            refine HVD.out.mono ?_
            rintro e w3 ⟨rfl, hb3⟩
            rw [HY.out]
            go_wp2_with fail
            go_roundg (n - i - 1)
            case measure => omega
            case rel => exact ⟨i + 1, by omega, by rw [HWI.out], by go_num, by omega, hb2.trans (hb3.mono hb2.size)⟩
          | false =>
            have HY : Hid (validI l[i] = 0) := Lib.hid (validI_no hv)
            have HWI := Lib.hid (wantI_no hil hv)
            clear hv
            go_wp2_with fail
            refine HVD.out.mono ?_
            rintro e w3 ⟨rfl, hb3⟩
            rw [HY.out]
            go_wp2_with fail
            go_roundg (n - i - 1)
            case measure => omega
            case rel => exact ⟨i + 1, by omega, by rw [HWI.out], by go_num, by omega, hb2.trans (hb3.mono hb2.size)⟩
        · have hib : decide ((i : Int) < (n : Int)) = false := by simp; omega
          have hin : i = l.length := by rw [HLN.out]; omega
          have hwi := wantI_all l
          rw [← hin] at hwi
          clear hin
          have hg2 : 5 ≤ wr.heap.size := by have := hb12.size; omega
          obtain ⟨wv, hwv⟩ : ∃ wv, wv = wantI l i := ⟨_, rfl⟩
          rw [← hwv] at hwi ⊢
          have HWV := Lib.hid hwv
          clear hwv
          have h16n : n ≤ 16 := by have := HLN.out; omega
          have hn16 : decide (16 < (n : Int)) = false := by simp; omega
          rcases Nat.eq_zero_or_pos n with hn | hn
          · have hn0 : ((n : Int) == 0) = true := by rw [hn]; rfl
            have HWI := Lib.hid hwi
            have HN0 := Lib.hid hn
            have HBAD := Lib.hid hbad
            clear hwi h16 hn hbad
            go_wp2_with fail
            refine (lives_any wr (HV.out.below hb12) hg2).mono ?_
            rintro e w4 ⟨rfl, hb4⟩
            go_wp2_with fail
            go_ret
            exact ⟨rfl, hb12.trans (hb4.mono hb12.size)⟩
          · have hn0 : ((n : Int) == 0) = false := by rw [beq_eq_false_iff_ne]; omega
            have hwv1 : wv = 1 := by
              rw [hwi]
              refine if_pos ?_
              rcases hbad with h | h
              · exfalso
                have := HLN.out
                rw [h] at this
                simp at this
                omega
              · exact h
            subst hwv1
            have HBAD := Lib.hid hbad
            clear hwi h16 hbad
            go_wp2_with fail
            refine (lives_any wr (HV.out.below hb12) hg2).mono ?_
            rintro e w4 ⟨rfl, hb4⟩
            go_wp2_with fail
            go_ret
            exact ⟨rfl, hb12.trans (hb4.mono hb12.size)⟩
    · go_wp2_with fail
      rename World => w2
      go_loopg [5, 6] n (fun r v5 v6 wr => ∃ i : Nat, i ≤ n ∧ v5 = .int .i64 (wantI l i) ∧ v6 = .int .i64 i ∧ r = n - i ∧ Below w2.heap.size w2 wr)
      case atStart => exact ⟨0, by omega, by rw [wantI_zero], rfl, rfl, Below.refl _ _⟩
      case round =>
        obtain ⟨i, hi, rfl, rfl, hr, hb2⟩ := hrel
        have hlr := hl1.below hb2
        have hb12 := hb1.trans (hb2.mono hw1)
        rcases Nat.lt_or_ge i n with hlt | hge
        · have hib : decide ((i : Int) < (n : Int)) = true := by simp; omega
          obtain ⟨ad, rfl, hadb, c0, c1, c2, c3, c4⟩ := St.lit_at hlr hlt
          have hil : i < l.length := by rw [HLN.out]; exact hlt
          have HVD := Lib.hid (valid_any l[i] wr (HW.out _ (List.getElem_mem hil)))
          cases hv : l[i].valid with
          | true =>
            have HY : Hid (validI l[i] = 1) := Lib.hid (validI_yes hv)
            have HWI := Lib.hid (wantI_yes hil hv)
            clear hv
            go_wp2_with fail
            refine HVD.out.mono ?_
            rintro e w3 ⟨rfl, hb3⟩
            rw [HY.out]
            go_wp2_with fail
            go_roundg (n - i - 1)
            case measure => omega
            case rel => exact ⟨i + 1, by omega, by rw [HWI.out], by go_num, by omega, hb2.trans (hb3.mono hb2.size)⟩
          | false =>
            have HY : Hid (validI l[i] = 0) := Lib.hid (validI_no hv)
            have HWI := Lib.hid (wantI_no hil hv)
            clear hv
            go_wp2_with fail
            refine HVD.out.mono ?_
            rintro e w3 ⟨rfl, hb3⟩
            rw [HY.out]
            go_wp2_with fail
            go_roundg (n - i - 1)
            case measure => omega
            case rel => exact ⟨i + 1, by omega, by rw [HWI.out], by go_num, by omega, hb2.trans (hb3.mono hb2.size)⟩
        · have hib : decide ((i : Int) < (n : Int)) = false := by simp; omega
          have hin : i = l.length := by rw [HLN.out]; omega
          have hwi := wantI_all l
          rw [← hin] at hwi
          clear hin
          have hg2 : 5 ≤ wr.heap.size := by have := hb12.size; omega
          obtain ⟨wv, hwv⟩ : ∃ wv, wv = wantI l i := ⟨_, rfl⟩
          rw [← hwv] at hwi ⊢
          have HWV := Lib.hid hwv
          clear hwv
          have h16n : n ≤ 16 := by have := HLN.out; omega
          have hn16 : decide (16 < (n : Int)) = false := by simp; omega
          have hnp : 1 ≤ n := by
            rcases Nat.eq_zero_or_pos n with h | h
            · exact absurd (List.eq_nil_of_length_eq_zero (by rw [HLN.out, h])) hne
            · exact h
          have hn0 : ((n : Int) == 0) = false := by rw [beq_eq_false_iff_ne]; omega
          have hwv1 : wv = 0 := by rw [hwi, hgood]; rfl
          subst hwv1
          have hval : ∀ x ∈ l, x.valid = true := fun x hx => by
            have := List.any_eq_false.1 hgood x hx
            simpa using this
          have HEX := Lib.hid (expand_short hne hval h16)
          have htl := short_length hne hval h16
          have HVAL := Lib.hid hval
          have HT := Lib.hid ht
          have hts : t.size ≤ 200 := by
            have e1 : t.data.toList.length = t.size := by simp
            rw [← e1, ht]
            omega
          have HX := Lib.hid (expand_any t wr (by omega) (HV.out.below hb12) hg2)
          clear hwi hne hgood hval ht htl h16
          go_wp2_with fail
          refine HX.out.mono ?_
          rintro e w4 ⟨heo, hb4⟩
          rw [HT.out, HEX.out] at heo
          obtain ⟨A2, n2, rfl, hst2, _, hn2⟩ := heo
          have hb14 := hb12.trans (hb4.mono hb12.size)
          have hlr4 := hlr.below hb4
          have HST2 := Lib.hid hst2
          have HLR4 := Lib.hid hlr4
          have HRS := Lib.hid (refShorten_any A n c l w4 hlr4 HW.out hnc hc h16n hnp HVAL.out)
          clear hst2 hlr4 hlr hl1 hb4
          go_wp2_with fail
          refine HRS.out.mono ?_
          rintro e w5 ⟨rfl, hb5⟩
          have hte : str (shortL l) = .string t := by rw [← HT.out, ← st_str]
          rw [hte]
          clear hte
          have hb15 := hb14.trans (hb5.mono hb14.size)
          have HDF := Lib.hid (differ_any A2 A n2 n n2 c l l w5 (HST2.out.below hb5) (HLR4.out.below hb5) (by omega) (by omega))
          clear hb5
          go_wp2_with fail
          refine HDF.out.mono ?_
          rintro e w6 ⟨rfl, hb6⟩
          rw [difI_eq rfl]
          have hb16 := hb15.trans (hb6.mono hb15.size)
          clear hb6
          go_wp2_with fail
          refine (lives_any w6 (HV.out.below hb16) (by have := hb16.size; omega)).mono ?_
          rintro e w7 ⟨rfl, hb7⟩
          go_wp2_with fail
          go_ret
          exact ⟨rfl, hb16.trans (hb7.mono hb16.size)⟩

end Go.Proofs.YtgpkcooipadnpaaDoor
