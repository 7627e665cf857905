/-
  Contract of words.Parse: every text of at most 100000 bytes. Condition: strconv's variables hold what their initialisers lay (Vars).
-/
import Derived.Test.YtkanbechahhmkaaDoorTextA
namespace Go.Proofs.YtkanbechahhmkaaDoor
set_option linter.unusedSimpArgs false
set_option linter.unusedVariables false
open Go.RowKit
set_option maxRecDepth 100000

/-- The result of Parse. -/
def ParseOut (s : List UInt8) (w : World) (e : Ending) (w' : World) : Prop :=
  Below w.heap.size w w' ∧ match parseL s with
  | some l => ∃ A, e = .returned (.tuple #[.slice A l.length l.length, .int .i64 0]) ∧ Own w' w.heap.size 3 1 A l.length l.length (iv .i64 l)
  | none => e = .returned (.tuple #[.slice none 0 0, .int .i64 4])

theorem ba_eq {a b : ByteArray} (h : a.data.toList = b.data.toList) : a = b := by
  cases a; cases b
  simp only [ByteArray.mk.injEq]
  exact Array.toList_inj.1 h
theorem toList_eq (s : ByteArray) : s.toList = s.data.toList := by simp [ByteArray.toList_eq]
theorem toList_ne_lit {s : ByteArray} {l : List UInt8} (h : s ≠ ⟨l.toArray⟩) : (s.toList == l) = false := by
  rw [beq_eq_false_iff_ne, toList_eq]
  intro e
  exact h (ba_eq (by simpa using e))
theorem ba_mk (s : ByteArray) : (⟨s.data.toList.toArray⟩ : ByteArray) = s := by cases s; simp

theorem splitK_piece : ∀ (k : Nat) (s : List UInt8), ∀ t ∈ Lib.splitK [32] 0 k s, t.length ≤ s.length
  | 0, s => by simp [Lib.splitK]
  | k + 1, s => by
    intro t ht
    unfold Lib.splitK at ht
    split at ht
    · simp at ht; subst ht; omega
    · rcases List.mem_cons.1 ht with rfl | ht
      · simp; omega
      · have := splitK_piece k _ t ht
        simp at this; omega

/-- strings.Split at a space. -/
theorem split_any (s : ByteArray) (w : World) (hs : s.size ≤ 1000000) (hV : Vars w) :
    Calls Tryd.prog 21 #[.string s, .string ⟨#[32]⟩] w fun e w' => ∃ (N : Nat) (ts : List ByteArray), e = .returned (.slice (some ⟨w.heap.size, 0, none⟩) N N) ∧
      Hid (ts.length = N ∧ ts.map (·.data.toList) = sp s.data.toList ∧ ∀ t ∈ ts, t.size ≤ s.size) ∧ w' = w.alloc (.cells (ts.map Value.string).toArray 9) := by
  obtain ⟨m, hm⟩ := hV.2.2.2
  refine (Tryd.strings_Split s ⟨#[32]⟩ m w (by omega) hm (by decide)).mono ?_
  rintro e w' ⟨he, hw⟩
  have e1 : (Lib.splitB ⟨#[32]⟩ 0 (Lib.countB s ⟨#[32]⟩) s).map (·.data.toList) = sp s.data.toList := by
    rw [Lib.splitB_data]
    exact splitK_eq s.data.toList
  refine ⟨_, _, he, Lib.hid ⟨Lib.splitB_all ⟨#[32]⟩ (by decide) 0 _ s rfl, e1, fun t ht => ?_⟩, hw⟩
  have h1 : t.data.toList ∈ sp s.data.toList := e1 ▸ List.mem_map.2 ⟨t, ht, rfl⟩
  rw [← splitK_eq] at h1
  have h2 := splitK_piece _ _ _ h1
  rw [Lib.size_eq, Lib.size_eq]
  exact h2

theorem sp_count (s : List UInt8) : 1 ≤ (sp s).length := by
  cases h : sp s with
  | nil => exact absurd h (sp_ne s)
  | cons a b => simp

theorem ParseOut.no {s : List UInt8} {w w' : World} (h : parseL s = none) (hb : Below w.heap.size w w') : ParseOut s w (.returned (.tuple #[.slice none 0 0, .int .i64 4])) w' := by
  unfold ParseOut; rw [h]; exact ⟨hb, rfl⟩
theorem ParseOut.yes {s : List UInt8} {w w' : World} {l : List Int} {A : Option Addr} {n : Nat} (h : parseL s = some l) (hn : l.length = n) (hb : Below w.heap.size w w') (ho : Own w' w.heap.size 3 1 A n n (iv .i64 l)) : ParseOut s w (.returned (.tuple #[.slice A n n, .int .i64 0])) w' := by
  subst hn
  unfold ParseOut; rw [h]; exact ⟨hb, A, rfl, ho⟩
theorem parse_none_at {s t : List UInt8} {k : Nat} (h45 : ¬ s = [45]) (h : (sp s)[k]? = some t) (ht : tok t = none) : parseL s = none := by
  unfold parseL; rw [if_neg h45]
  split
  · rfl
  · exact toks_none_at h ht
theorem tok_none_of {t : List UInt8} (h : ∀ k, Lib.atoiAll t ≠ .ok k) : tok t = none := by
  cases e : tok t with
  | none => rfl
  | some k => exact absurd (tok_atoi e) (h k)
theorem atoi_range {t : List UInt8} {v : Int} (h : Lib.atoiAll t = .ok v) : -9223372036854775808 ≤ v ∧ v ≤ 9223372036854775807 := by
  unfold Lib.atoiAll at h
  split at h
  · cases h
  · simp only [] at h
    split at h
    · cases h
    · cases h
    · split at h
      · cases h
      · split at h
        · cases h
        · injection h with h
          subst h
          split <;> omega
theorem atoi_ok_any (s : ByteArray) (w : World) (v : Int) (hs : s.size ≤ 1000000) (h : Lib.atoiAll s.data.toList = .ok v) :
    Calls Tryd.prog 22 #[.string s] w fun e w' => e = .returned (.tuple #[.int .i64 v, .nilIface]) ∧ Below w.heap.size w w' := by
  refine (Tryd.strconv_Atoi_ok s (by omega) v h w).mono ?_
  rintro e w' ⟨he, h⟩
  refine ⟨he, ?_⟩
  rcases h with rfl | ⟨t, rfl⟩
  · exact Below.refl _ _
  · exact Lib.bytesWorld_below w _ t

set_option maxHeartbeats 2000000 in
theorem parse_any (s : ByteArray) (w : World) (hs : s.size ≤ 100000) (hV : Vars w) :
    Calls Tryd.prog 7 #[.string s] w fun e w' => ParseOut s.data.toList w e w' := by
  by_cases h45 : s = ⟨#[45]⟩
  · subst h45
    go_enter Tryd.func7, Tryd.ntmps7
    go_wp2
    go_ret2
    exact ⟨Below.refl _ _, none, rfl, Own.nil_⟩
  · have hsb : (s.toList == [45]) = false := toList_ne_lit h45
    have H45 : Hid (¬ s.data.toList = [45]) := Lib.hid (fun e => h45 (ba_eq (by simpa using e)))
    clear h45
    go_enter Tryd.func7, Tryd.ntmps7
    go_wp2_with fail
    refine (split_any s w (by omega) hV).mono ?_
    rintro e w1 ⟨N, ts, rfl, HT, hw1⟩
    have hbel0 : Below w.heap.size w w1 := hw1 ▸ (Below.refl _ _).alloc (Nat.le_refl _) _
    have hsz0 : w1.heap.size = w.heap.size + 1 := by rw [hw1]; simp
    have hcs : Hid (∀ (j : Nat) (t : ByteArray), ts[j]? = some t → w1.cell? ⟨w.heap.size, j, none⟩ = some (.string t)) := by
      refine Lib.hid (fun j t ht => ?_)
      rw [hw1, cell_of_row (w.alloc _) w.heap.size j _ _ (0, 0) (heap_alloc_new w _)]
      simp [ht]
    have HSZ := Lib.hid hsz0
    clear hw1 hsz0
    have hN1 : 1 ≤ N := by
      have := sp_count s.data.toList
      have h2 := HT.out.1
      have h3 := congrArg List.length HT.out.2.1
      simp at h3
      omega
    by_cases h64 : N ≤ 64
    · have h64b : decide (64 < (N : Int)) = false := by simp; omega
      go_wp2_with (at_make; go_must (refine wpList_mk w1 rfl (.tmp 18) (.tmp 18) 25 rfl w1.heap.size 3 Tryd.underlying25 elemIntZ rfl .i64 .i64 N N N rfl rfl rfl rfl (by omega) (Nat.le_refl _) ?_); intro w2 hown1 hg1)
      have hbel1 : Below w1.heap.size w1 w2 := below_of_grown_none hg1 (Nat.le_refl _)
      have hsz2 : w1.heap.size < w2.heap.size := (hown1.low _ rfl).2
      clear hg1
      go_loopw [22] (fun i wr => ∃ (k : Nat) (l : List Int), k ≤ N ∧ i = .int .i64 k ∧ Hid (toks ((sp s.data.toList).take k) = some l ∧ l.length = k) ∧ Own wr w1.heap.size 3 1 (some ⟨w1.heap.size, 0, none⟩) N N (iv .i64 l ++ List.replicate (N - k) (.int .i64 0)) ∧ Below w1.heap.size w1 wr) (fun i _ => N - (intOf i).toNat)
      case atStart => exact ⟨0, [], by omega, rfl, Lib.hid ⟨by simp [toks], rfl⟩, by simpa [iv] using hown1, hbel1⟩
      case round =>
        obtain ⟨k, l, hk, rfl, HL, hown, hbel⟩ := hrel
        rcases Nat.lt_or_ge k N with hlt | hge
        · obtain ⟨t, htk⟩ : ∃ t, ts[k]? = some t := ⟨_, List.getElem?_eq_getElem (by have := HT.out.1; omega)⟩
          have hc : wr.cell? ⟨w.heap.size, k, none⟩ = some (.string t) := (hbel.cell (p := ⟨w.heap.size, k, none⟩) (by have := HSZ.out; simp; omega)).trans (hcs.out k t htk)
          have HTk : Hid ((sp s.data.toList)[k]? = some t.data.toList) := Lib.hid (by rw [← HT.out.2.1, List.getElem?_map, htk]; rfl)
          have htsz : t.size ≤ 100000 := Nat.le_trans (HT.out.2.2 t (List.mem_of_getElem? htk)) hs
          have hVr : Hid (Vars wr) := Lib.hid ((hV.below hbel0).below hbel)
          clear htk
          cases hat : Lib.atoiAll t.data.toList with
          | ok v =>
            have HAT := Lib.hid hat; clear hat
            go_wp2_with fail
            refine (atoi_ok_any t wr v (by omega) HAT.out).mono ?_
            rintro e w3 ⟨rfl, hb3⟩
            have hvr := atoi_range HAT.out
            have HI := Lib.hid (itoa_any v w3 (by omega) (by omega) (hVr.out.below hb3))
            go_wp2_with fail
            refine HI.out.mono ?_
            rintro e w4 ⟨rfl, hb4⟩
            by_cases hT : Lib.itoa v = t.toList
            · have hT2 : Lib.itoa v = t.data.toList := hT.trans (toList_eq t)
              have HT2 := Lib.hid hT2; clear hT2
              go_wp2_with fail
              clear hT
              have hv4 : Ints .i64 (w4.alloc (.cells #[.int .i64 v] 3)) (some ⟨w4.heap.size, 0, none⟩) 1 [v] := Ints.lit w4 3 [v]
              have hbA := hbel.trans ((hb3.mono hbel.size).trans (hb4.mono (Nat.le_trans hbel.size hb3.size)))
              refine (check_any 8 _ 1 1 [v] _ hv4 (by omega) (by omega) (by omega)).mono ?_
              rintro e w5 ⟨rfl, hb5⟩
              have hb5' : Below w1.heap.size w1 w5 := (hbA.alloc hbA.size _).trans (hb5.mono (by simp; have := hbA.size; omega))
              have hown5 := ((((hown.below hb3).below hb4).alloc (.cells #[.int .i64 v] 3)).below hb5)
              have hg5 := (hown5.low _ rfl).2
              cases htok : tok t.data.toList with
              | none =>
                have HTOK := Lib.hid htok; clear htok
                have hcz : checkOf 8 [v] = 1 := by
                  have h1 : ¬ (v ≠ 0 ∧ -8 < v ∧ v < 8) := by
                    rintro ⟨a1, a2, a3⟩
                    have := tok_itoa a1 a2 a3
                    rw [HT2.out, HTOK.out] at this
                    cases this
                  have h2 : bad 8 v = true := by
                    unfold bad
                    rcases Int.lt_trichotomy v 0 with h0 | h0 | h0
                    · have : v ≤ -8 := by omega
                      simp [this]
                    · simp [h0]
                    · have : 8 ≤ v := by omega
                      simp [this]
                  simp [checkOf, h2]
                rw [hcz]
                clear hcz
                go_wp2_with fail
                go_ret2
                exact ParseOut.no (parse_none_at H45.out HTk.out HTOK.out) (hbel0.trans (hb5'.mono hbel0.size))
              | some x =>
                have hxv : x = v := by
                  have h1 := tok_atoi htok
                  rw [HAT.out] at h1
                  injection h1 with h1
                  exact h1.symm
                subst hxv
                have HTOK := Lib.hid htok; clear htok
                have hcz : checkOf 8 [x] = 0 := by
                  have h1 := tok_range HTOK.out
                  have h2 : bad 8 x = false := by
                    unfold bad
                    have a1 : ¬ x ≤ -8 := by omega
                    have a2 : ¬ 8 ≤ x := by omega
                    simp [h1.1, a1, a2]
                  simp [checkOf, h2]
                rw [hcz]
                clear hcz
                have hlk := HL.out.2
                have hlenk : (iv .i64 l).length = k := by simpa [iv] using hlk
                have hcell : w5.cell? ⟨w1.heap.size, k, none⟩ = some (.int .i64 0) := by
                  rw [hown5.cellAt (by omega), List.getElem?_append_right (by omega), hlenk, List.getElem?_replicate]; simp; omega
                have hfr := hown5.frozenAt k
                have e1 : (iv .i64 l ++ List.replicate (N - k) (Value.int .i64 0)).set k (Value.int .i64 x) = iv .i64 (l ++ [x]) ++ List.replicate (N - (k + 1)) (Value.int .i64 0) := by
                  rw [List.set_append_right _ _ (by omega), hlenk, show N - k = (N - (k + 1)) + 1 by omega, List.replicate_succ]
                  simp [iv]
                have HS := Lib.hid (e1 ▸ hown5.stored k (.int .i64 x))
                have HB := Lib.hid (hb5'.trans (hown5.stored_below k (.int .i64 x)))
                have HNX : Hid (toks ((sp s.data.toList).take (k + 1)) = some (l ++ [x]) ∧ (l ++ [x]).length = k + 1) := Lib.hid ⟨toks_take HL.out.1 HTk.out HTOK.out, by simp [hlk]⟩
                clear e1 hlk hlenk
                go_wp2_with fail
                go_roundw
                case rel => exact ⟨k + 1, l ++ [x], by omega, by go_num, HNX.out, HS.out, HB.out⟩
                case measure => simp [intOf]; omega
            · have HT2 : Hid (¬ Lib.itoa v = t.data.toList) := Lib.hid (fun e => hT (e.trans (toList_eq t).symm))
              go_wp2_with fail
              go_ret2
              refine ParseOut.no (parse_none_at H45.out HTk.out ?_) (hbel0.trans ((hbel.trans ((hb3.mono hbel.size).trans (hb4.mono (Nat.le_trans hbel.size hb3.size)))).mono hbel0.size))
              cases e : tok t.data.toList with
              | none => rfl
              | some y =>
                have h1 := tok_atoi e
                rw [HAT.out] at h1
                injection h1 with h1
                exact absurd (h1 ▸ tok_text e) HT2.out
          | range =>
            have HAT := Lib.hid hat; clear hat
            obtain ⟨tp, pp, hes⟩ := hVr.out.2.2.1
            have HES := Lib.hid hes; clear hes
            go_wp2_with fail
            refine (Tryd.strconv_Atoi_range_var t (by omega) HAT.out tp pp wr HES.out).mono ?_
            rintro e w3 ⟨NE, rfl, _, _, hb3⟩
            go_wp2_with fail
            go_ret2
            exact ParseOut.no (parse_none_at H45.out HTk.out (tok_none_of (fun k hk => by rw [HAT.out] at hk; cases hk))) (hbel0.trans ((hbel.trans (hb3.mono hbel.size)).mono hbel0.size))
          | _ =>
            have HAT := Lib.hid hat; clear hat
            obtain ⟨tp, pp, hes⟩ := hVr.out.2.1
            have HES := Lib.hid hes; clear hes
            go_wp2_with fail
            refine (Tryd.strconv_Atoi_syntax_var t (by omega) ⟨fun v hv => (by rw [HAT.out] at hv; cases hv), fun hv => (by rw [HAT.out] at hv; cases hv)⟩ tp pp wr HES.out).mono ?_
            rintro e w3 ⟨NE, rfl, _, _, hb3⟩
            go_wp2_with fail
            go_ret2
            exact ParseOut.no (parse_none_at H45.out HTk.out (tok_none_of (fun k hk => by rw [HAT.out] at hk; cases hk))) (hbel0.trans ((hbel.trans (hb3.mono hbel.size)).mono hbel0.size))
        · obtain rfl : N = k := by omega
          have h1 := HL.out
          rw [List.take_of_length_le (by have := congrArg List.length HT.out.2.1; have := HT.out.1; simp at *; omega)] at h1
          have h2 : parseL s.data.toList = some l := by
            unfold parseL
            rw [if_neg H45.out, if_neg, h1.1]
            rw [← toks_length h1.1]; omega
          have H2 := Lib.hid h2
          have H1 := Lib.hid h1.2
          clear h1 h2
          go_wp2_with fail
          go_ret2
          refine ParseOut.yes H2.out H1.out (hbel0.trans (hbel.mono hbel0.size)) ?_
          have := hown.lower (base' := w.heap.size) hbel0.size
          simpa using this
    · have h64b : decide (64 < (N : Int)) = true := by simp; omega
      have H2 : Hid (parseL s.data.toList = none) := by
        refine Lib.hid ?_
        unfold parseL
        rw [if_neg H45.out, if_pos]
        have h3 := congrArg List.length HT.out.2.1
        have h4 := HT.out.1
        simp at h3
        omega
      go_wp2_with fail
      go_ret2
      exact ParseOut.no H2.out hbel0

end Go.Proofs.YtkanbechahhmkaaDoor
