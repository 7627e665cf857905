/-
  Contracts of slices.Grow (of nil), slices.Concat, slices.Clone at ints; join and Reduce.
-/
import Derived.Test.YtkanbechahhmkaaDoorWordsC
namespace Go.Proofs.YtkanbechahhmkaaDoor
set_option linter.unusedSimpArgs false
set_option linter.unusedVariables false
open Go.RowKit
set_option maxRecDepth 100000

set_option maxHeartbeats 400000 in
theorem grow_nil_any (n : Nat) (w : World) (hN : n ≤ 1000000000) :
    Calls Tryd.prog 63 #[.slice none 0 0, .int .i64 n] w fun e w' => ∃ A c, e = .returned (.slice A 0 c) ∧ Own w' w.heap.size 3 1 A 0 c [] ∧ Below w.heap.size w w' := by
  rcases Nat.eq_zero_or_pos n with h0 | h0
  · subst h0
    go_enter Tryd.func63, Tryd.ntmps63
    go_wp2
    go_ret
    exact ⟨none, 0, rfl, Own.nil_, Below.refl _ _⟩
  · go_enter Tryd.func63, Tryd.ntmps63
    go_wp2_with (at_builtin; go_must (refine wpList_appz w rfl (.tmp 20) (.tmp 21) 25 3 rfl 3 .i64 .i64 Tryd.underlying25 Tryd.underlying3 elemInt n n rfl rfl rfl h0 hN ?_); intro c1 w1 hc1 hown1 hg1)
    go_ret
    exact ⟨_, c1, rfl, hown1, below_of_grown_none hg1 (Nat.le_refl _)⟩

set_option maxHeartbeats 800000 in
theorem concat_any (A : Option Addr) (n c : Nat) (ls : List (List Int)) (w : World) (hl : Grid .i64 w A n ls) (hn : n ≤ 1000000000) (hN : (ls.map List.length).sum ≤ 1000000000) :
    Calls Tryd.prog 46 #[.slice A n c] w fun e w' => ∃ A' m c', e = .returned (.slice A' m c') ∧ Own w' w.heap.size 3 1 A' m c' (iv .i64 ls.flatten) ∧ Below w.heap.size w w' := by
  have hlen := Lib.hid hl.len
  go_enter Tryd.func46, Tryd.ntmps46
  go_wp2
  go_loop [3, 11] (fun s i => ∃ (k : Nat), k ≤ n ∧ i = .int .i64 k ∧ s = .int .i64 ((((ls.take k).map List.length).sum : Nat) : Int)) (fun _ i => n - (intOf i).toNat)
  case atStart => exact ⟨0, by omega, rfl, by simp⟩
  case round =>
    obtain ⟨k, hk, rfl, rfl⟩ := hrel
    have hs1 := sum_take_le ls k
    rcases Nat.lt_or_ge k n with hlt | hge
    · obtain ⟨ad, r, m, c2, l, rfl, hadl, hcell, hmc, hcm, hlk, hints⟩ := hl.at_ hlt
      have hs2 := sum_take_le ls (k + 1)
      have hs3 := sum_take_succ ls k l hlk
      rw [hints.len] at hs3
      have hs4 : ((ls.take k).map List.length).sum + m ≤ 1000000000 := by omega
      have HS3 := Lib.hid hs3; clear hs3
      generalize ((ls.take k).map List.length).sum = S at *
      have HLK := Lib.hid hlk; clear hlk hs2
      go_wp2
      go_round
      case rel => exact ⟨k + 1, by omega, by go_num, by rw [HS3.out]; go_num⟩
      case measure => simp [intOf]; omega
    · have e0 : ls.take k = ls := List.take_of_length_le (by have := hlen.out; omega)
      rw [e0]
      rw [e0] at hs1
      generalize hSS : (ls.map List.length).sum = S at *
      have HSS := Lib.hid hSS; clear hSS
      clear e0
      go_wp2_with fail
      refine (grow_nil_any S w hN).mono ?_
      rintro e w1 ⟨A1, c1, rfl, hown1, hbel1⟩
      go_wp2
      go_loopw [6, 27] (fun v i wr => ∃ (k m : Nat) (A' : Option Addr) (c' : Nat), k ≤ n ∧ i = .int .i64 k ∧ v = .slice A' m c' ∧ Own wr w.heap.size 3 1 A' m c' (iv .i64 (ls.take k).flatten) ∧ Below w.heap.size w wr) (fun _ i _ => n - (intOf i).toNat)
      case atStart => exact ⟨0, 0, A1, c1, by omega, rfl, rfl, by simpa [iv] using hown1, hbel1⟩
      case round =>
        rename_i k0 hk0 hge0 wr0 _ _ _
        obtain ⟨k, m, A', c', hk, rfl, rfl, hown, hbel⟩ := hrel
        have hB := hbel.size
        rcases Nat.lt_or_ge k n with hlt | hge
        · obtain ⟨ad, r, m2, c2, l, rfl, hadl, hcell0, hmc, hcm, hlk, hints⟩ := hl.at_ hlt
          have hcell := (hbel.cell (p := ad.add k) (by rw [block_of_add]; exact hadl)).trans hcell0
          clear hcell0
          have hi2 := Reads.below hints hbel
          have hfl := flatten_take_succ ls k l hlk
          have hlm : m = (ls.take k).flatten.length := by have := hown.ints.len; omega
          have hlm2 : l.length = m2 := hints.len
          have hbound : m + m2 ≤ 1000000000 := by
            have h1 := sum_take_le ls (k + 1)
            rw [sum_take_succ ls k l hlk] at h1
            have h2 : ((ls.take k).map List.length).sum = m := by rw [hlm, List.length_flatten]
            have := HSS.out
            omega
          have HFL := Lib.hid hfl
          have HLM := Lib.hid hlm2
          clear hfl hlm hlm2 hlk
          go_wp2_with (at_builtin; go_must (refine wpList_app wr rfl (.tmp 31) (.tmp 32) 25 rfl w.heap.size 3 Tryd.underlying25 elemInt A' m c' _ rfl hown _ r m2 c2 _ rfl hi2 (iv_one _ _) hbound hB ?_); intro A2 c3 w2 hown2 hg2 _)
          go_roundw
          case rel => exact ⟨k + 1, m + m2, A2, c3, by omega, by go_num, rfl, by rw [HFL.out, iv_append]; exact hown2, hbel.trans (hown.belowG hg2 hB)⟩
          case measure => simp [intOf]; omega
        · go_wp2
          go_ret
          refine ⟨A', m, c', rfl, ?_, hbel⟩
          rw [List.take_of_length_le (by have := hlen.out; omega)] at hown
          exact hown

set_option maxHeartbeats 400000 in
theorem clone_any (A : Option Addr) (n c : Nat) (l : List Int) (w : World) (hl : Ints .i64 w A n l) (hN : n ≤ 1000000000) :
    Calls Tryd.prog 34 #[.slice A n c] w fun e w' => ∃ A' c', e = .returned (.slice A' n c') ∧ Own w' w.heap.size 3 1 A' n c' (iv .i64 l) ∧ Below w.heap.size w w' := by
  have hnil := fun W => Lib.run_eql_slice_nil (P := Tryd.prog) W 25 3 A n c 0 0 Tryd.underlying25
  rcases A with _ | ad
  · have hn : n = 0 := by
      rcases Nat.eq_zero_or_pos n with h | h
      · exact h
      · obtain ⟨ad, h1, _⟩ := hl.at_ h; cases h1
    subst hn
    have hl0 : l = [] := List.eq_nil_of_length_eq_zero hl.len
    subst hl0
    go_enter Tryd.func34, Tryd.ntmps34
    go_wp2
    go_ret
    exact ⟨none, 0, rfl, Own.nil_, Below.refl _ _⟩
  · go_enter Tryd.func34, Tryd.ntmps34
    go_wp2_with (at_builtin; go_must (refine wpList_app0 w rfl (.tmp 5) (.tmp 6) 25 rfl 3 Tryd.underlying25 elemInt rfl (some ad) n c _ rfl hl (iv_one _ _) hN ?_); intro A2 c3 w2 hown2 hb2)
    go_ret
    exact ⟨A2, c3, rfl, hown2, hb2⟩

/-- How many letters cancel where two lists meet (the first one backwards). -/
def meets : List Int → List Int → Nat
  | x :: ra, y :: b => if x = -y then meets ra b + 1 else 0
  | _, _ => 0
def joinL (a b : List Int) : List Int := a.take (a.length - meets a.reverse b) ++ b.drop (meets a.reverse b)

theorem meets_step {ra b : List Int} {k : Nat} {x y : Int} (hx : ra[k]? = some x) (hy : b[k]? = some y) :
    meets (ra.drop k) (b.drop k) = if x = -y then meets (ra.drop (k + 1)) (b.drop (k + 1)) + 1 else 0 := by
  obtain ⟨h1, h2⟩ := List.getElem?_eq_some_iff.1 hx
  obtain ⟨h3, h4⟩ := List.getElem?_eq_some_iff.1 hy
  rw [List.drop_eq_getElem_cons h1, List.drop_eq_getElem_cons h3, h2, h4]
  rfl
theorem meets_nil_left {b : List Int} : meets [] b = 0 := by cases b <;> rfl
theorem meets_nil_right {a : List Int} : meets a [] = 0 := by cases a <;> rfl
theorem meets_le : ∀ (ra b : List Int), meets ra b ≤ ra.length ∧ meets ra b ≤ b.length
  | [], b => by simp [meets_nil_left]
  | x :: ra, [] => by simp [meets_nil_right]
  | x :: ra, y :: b => by
    have := meets_le ra b
    unfold meets
    split <;> simp <;> omega

set_option maxHeartbeats 800000 in
theorem join_any (A B : Option Addr) (n c m d : Nat) (a b : List Int) (w : World) (ha : Ints .i64 w A n a) (hb : Ints .i64 w B m b) (hc : n ≤ c) (hc2 : c ≤ 9223372036854775807) (hd : m ≤ d) (hd2 : d ≤ 9223372036854775807)
    (hsa : Small a) (hsb : Small b) (hN : n + m ≤ 1000000000) :
    Calls Tryd.prog 25 #[.slice A n c, .slice B m d] w fun e w' => ∃ A' n' c', e = .returned (.slice A' n' c') ∧ Own w' w.heap.size 3 1 A' n' c' (iv .i64 (joinL a b)) ∧ Below w.heap.size w w' := by
  have hla := Lib.hid ha.len
  have hlb := Lib.hid hb.len
  go_enter Tryd.func25, Tryd.ntmps25
  go_wp2
  go_loopw [5] (fun i wr => ∃ (k : Nat), k ≤ n ∧ k ≤ m ∧ i = .int .i64 k ∧ Hid (meets a.reverse b = k + meets (a.reverse.drop k) (b.drop k)) ∧ ∃ q, wr = w.drewN q) (fun i _ => n - (intOf i).toNat)
  case atStart => exact ⟨0, by omega, by omega, rfl, Lib.hid (by simp), 0, rfl⟩
  case round =>
    obtain ⟨k, hk1, hk2, rfl, HM, q, rfl⟩ := hrel
    by_cases hgo : k < n ∧ k < m
    · obtain ⟨h1, h2⟩ := hgo
      obtain ⟨a1, rfl, _, x, hx, hca⟩ := ha.at_ (k := n - 1 - k) (by omega)
      obtain ⟨b1, rfl, _, y, hy, hcb⟩ := hb.at_ h2
      have hx' : a.reverse[k]? = some x := by rw [List.getElem?_reverse (by have := hla.out; omega), hla.out]; exact hx
      have hst := meets_step hx' hy
      have hys := hsb y (List.mem_of_getElem? hy)
      have hxs := hsa x (List.mem_of_getElem? hx)
      have HSA := Lib.hid hsa
      have HSB := Lib.hid hsb
      clear hsa hsb hx hx' hy
      by_cases he : x = -y
      · rw [if_pos he] at hst
        have HST := Lib.hid hst
        have heb : (x == -y) = true := by simp [he]
        clear hst he
        go_wp2_with fail
        go_quiet (fail)
        go_wp2
        go_roundw
        case rel => exact ⟨k + 1, by omega, by omega, by go_num, Lib.hid (by rw [HM.out, HST.out]; omega), _, rfl⟩
        case measure => simp [intOf]; omega
      · rw [if_neg he] at hst
        have HST := Lib.hid hst
        have heb : (x == -y) = false := by simp [he]
        clear hst he
        have hd1 : decide (k < n) = true := by simpa using h1
        have hd2 : decide (k < m) = true := by simpa using h2
        go_wp2_with fail
        go_quiet (fail)
        have hj : joinL a b = a.take (n - k) ++ b.drop k := by
          have h := HM.out
          rw [HST.out] at h
          unfold joinL
          rw [h, hla.out]
          rfl
        have HJ := Lib.hid hj; clear hj
        have hw1 : IntKind.i64.wrap ((n : Int) - (k : Int)) = (n : Int) - (k : Int) := IntWalk.i64_in _ (by omega)
        have hw2 : (0 : Int) ≤ (n : Int) - (k : Int) := by omega
        have hw3 : ((n : Int) - (k : Int)).toNat = n - k := by omega
        have hw4 : (n : Int) - (k : Int) ≤ (c : Int) := by omega
        have hw5 : (k : Int) ≤ (m : Int) := by omega
        go_wp2
        go_still_tail 13, (by kernel_rfl)
        change wpList _ _ _ _ _ ((w.drewN q).drewN nq).drew
        generalize hW : ((w.drewN q).drewN nq).drew = w2
        have HW := Lib.hid hW; clear hW
        clear hw1 hw2 hw3 hw4
        have hi1 : Ints .i64 w2 (some a1) (n - k) (a.take (n - k)) := by
          rw [← HW.out]; exact Ints.take ha (by omega)
        have hi2 : Ints .i64 w2 (some (b1.add k)) (m - k) (b.drop k) := by
          rw [← HW.out]; exact Ints.drop hb (by omega)
        have hg := Grid.two (t := 25) (c1 := n - k) (c2 := d - k) hi1 hi2 (by omega) (by omega) (by omega) (by omega)
        have hcc := Lib.hid (concat_any _ 2 2 [a.take (n - k), b.drop k] _ hg (by omega) (by simp; have := hla.out; have := hlb.out; omega))
        have hbw : Below w.heap.size w w2 := by rw [← HW.out]; exact Below.drew (below_drewN (below_drewN (Below.refl _ _) _) _)
        clear hi1 hi2 hg
        go_wp2_with fail
        refine hcc.out.mono ?_
        rintro e w3 ⟨A3, n3, c3, rfl, hown3, hbel3⟩
        have hsz : w.heap.size ≤ w2.heap.size := hbw.size
        have HO : Own w3 w.heap.size 3 1 A3 n3 c3 (iv .i64 (joinL a b)) := by
          rw [HJ.out]
          have := hown3.lower (base' := w.heap.size) (by simp; omega)
          simpa using this
        have HB : Below w.heap.size w w3 := hbw.trans (((Below.refl _ w2).alloc hsz _).trans (hbel3.mono (by simp; omega)))
        clear hown3
        go_wp2
        go_ret
        exact ⟨A3, n3, c3, rfl, HO, HB⟩
    · have hz : meets (a.reverse.drop k) (b.drop k) = 0 := by
        rcases Nat.lt_or_ge k n with h | h
        · rw [drop_all b (by have := hlb.out; omega), meets_nil_right]
        · rw [drop_all a.reverse (by have := hla.out; simp; omega), meets_nil_left]
      have HST := Lib.hid hz
      clear hz
      have HSA := Lib.hid hsa
      have HSB := Lib.hid hsb
      clear hsa hsb
      have hj : joinL a b = a.take (n - k) ++ b.drop k := by
        have h := HM.out
        rw [HST.out] at h
        unfold joinL
        rw [h, hla.out]
        rfl
      have HJ := Lib.hid hj; clear hj
      have hw1 : IntKind.i64.wrap ((n : Int) - (k : Int)) = (n : Int) - (k : Int) := IntWalk.i64_in _ (by omega)
      have hw2 : (0 : Int) ≤ (n : Int) - (k : Int) := by omega
      have hw3 : ((n : Int) - (k : Int)).toNat = n - k := by omega
      have hw4 : (n : Int) - (k : Int) ≤ (c : Int) := by omega
      have hw5 : (k : Int) ≤ (m : Int) := by omega
      rcases Nat.lt_or_ge k n with h1 | h1
      · have hd1 : decide (k < n) = true := by simpa using h1
        have hd2 : decide (k < m) = false := by simp; omega
        go_wp2_with fail
        go_quiet (fail)
        go_wp2
        go_still_tail 13, (by kernel_rfl)
        change wpList _ _ _ _ _ ((w.drewN q).drewN nq).drew
        generalize hW : ((w.drewN q).drewN nq).drew = w2
        have HW := Lib.hid hW; clear hW
        clear hw1 hw2 hw3 hw4
        have hi1 : Hid (Ints .i64 w2 A (n - k) (a.take (n - k))) := by
          rw [← HW.out]; exact Lib.hid (Ints.take ha (by omega))
        have hi2 : Hid (Ints .i64 w2 (B.map (·.add k)) (m - k) (b.drop k)) := by
          rw [← HW.out]; exact Lib.hid (Ints.drop hb (by omega))
        have hcc := Lib.hid (fun n1 (h1 : n - k = n1) A2 d2 (h2 : Ints .i64 w2 A2 (m - k) (b.drop k)) (h3 : m - k ≤ d2) (h4 : d2 ≤ 9223372036854775807) =>
          concat_any _ 2 2 [a.take (n - k), b.drop k] _ (Grid.two (t := 25) (n1 := n1) (c1 := n1) (c2 := d2) (A1 := A) (by rw [← h1]; exact hi1.out) h2 (by omega) h3 (by omega) h4) (by omega) (by simp; have := hla.out; have := hlb.out; omega))
        have hbw : Below w.heap.size w w2 := by rw [← HW.out]; exact Below.drew (below_drewN (below_drewN (Below.refl _ _) _) _)
        have hsz : w.heap.size ≤ w2.heap.size := hbw.size
        go_wp2_with fail
        all_goals
          first
            | with_reducible refine (hcc.out (n - k) rfl (B.map (·.add k)) (d - k) hi2.out (by omega) (by omega)).mono ?_
            | with_reducible refine (hcc.out 0 (by omega) (B.map (·.add k)) (d - k) hi2.out (by omega) (by omega)).mono ?_
            | (with_reducible refine (hcc.out 0 (by omega) B 0 (by rw [drop_all b (by have := hlb.out; omega), show m - k = 0 by omega]; exact Ints.nil_) (by omega) (by omega)).mono ?_)
            | (with_reducible refine (hcc.out (n - k) rfl B 0 (by rw [drop_all b (by have := hlb.out; omega), show m - k = 0 by omega]; exact Ints.nil_) (by omega) (by omega)).mono ?_)
          rintro e w3 ⟨A3, n3, c3, rfl, hown3, hbel3⟩
          have HO : Own w3 w.heap.size 3 1 A3 n3 c3 (iv .i64 (joinL a b)) := by
            rw [HJ.out]
            have := hown3.lower (base' := w.heap.size) (by simp; omega)
            simpa using this
          have HB : Below w.heap.size w w3 := hbw.trans (((Below.refl _ w2).alloc hsz _).trans (hbel3.mono (by simp; omega)))
          clear hown3
          go_wp2
          go_ret
          exact ⟨A3, n3, c3, rfl, HO, HB⟩
      · have hd1 : decide (k < n) = false := by simp; omega
        go_wp2_with fail
        go_quiet (fail)
        go_wp2
        go_still_tail 13, (by kernel_rfl)
        change wpList _ _ _ _ _ ((w.drewN q).drewN nq).drew
        generalize hW : ((w.drewN q).drewN nq).drew = w2
        have HW := Lib.hid hW; clear hW
        clear hw1 hw2 hw3 hw4
        have hi1 : Hid (Ints .i64 w2 A (n - k) (a.take (n - k))) := by
          rw [← HW.out]; exact Lib.hid (Ints.take ha (by omega))
        have hi2 : Hid (Ints .i64 w2 (B.map (·.add k)) (m - k) (b.drop k)) := by
          rw [← HW.out]; exact Lib.hid (Ints.drop hb (by omega))
        have hcc := Lib.hid (fun n1 (h1 : n - k = n1) A2 d2 (h2 : Ints .i64 w2 A2 (m - k) (b.drop k)) (h3 : m - k ≤ d2) (h4 : d2 ≤ 9223372036854775807) =>
          concat_any _ 2 2 [a.take (n - k), b.drop k] _ (Grid.two (t := 25) (n1 := n1) (c1 := n1) (c2 := d2) (A1 := A) (by rw [← h1]; exact hi1.out) h2 (by omega) h3 (by omega) h4) (by omega) (by simp; have := hla.out; have := hlb.out; omega))
        have hbw : Below w.heap.size w w2 := by rw [← HW.out]; exact Below.drew (below_drewN (below_drewN (Below.refl _ _) _) _)
        have hsz : w.heap.size ≤ w2.heap.size := hbw.size
        go_wp2_with fail
        all_goals
          first
            | with_reducible refine (hcc.out (n - k) rfl (B.map (·.add k)) (d - k) hi2.out (by omega) (by omega)).mono ?_
            | with_reducible refine (hcc.out 0 (by omega) (B.map (·.add k)) (d - k) hi2.out (by omega) (by omega)).mono ?_
            | (with_reducible refine (hcc.out 0 (by omega) B 0 (by rw [drop_all b (by have := hlb.out; omega), show m - k = 0 by omega]; exact Ints.nil_) (by omega) (by omega)).mono ?_)
            | (with_reducible refine (hcc.out (n - k) rfl B 0 (by rw [drop_all b (by have := hlb.out; omega), show m - k = 0 by omega]; exact Ints.nil_) (by omega) (by omega)).mono ?_)
          rintro e w3 ⟨A3, n3, c3, rfl, hown3, hbel3⟩
          have HO : Own w3 w.heap.size 3 1 A3 n3 c3 (iv .i64 (joinL a b)) := by
            rw [HJ.out]
            have := hown3.lower (base' := w.heap.size) (by simp; omega)
            simpa using this
          have HB : Below w.heap.size w w3 := hbw.trans (((Below.refl _ w2).alloc hsz _).trans (hbel3.mono (by simp; omega)))
          clear hown3
          go_wp2
          go_ret
          exact ⟨A3, n3, c3, rfl, HO, HB⟩

end Go.Proofs.YtkanbechahhmkaaDoor
