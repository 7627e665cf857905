/-
  Contracts of permutations.Check, back, Inverse, and of words.Permutation.
-/
import Derived.Test.YtkanbechahhmkaaDoorWordsH
namespace Go.Proofs.YtkanbechahhmkaaDoor
set_option linter.unusedSimpArgs false
set_option linter.unusedVariables false
open Go.RowKit
set_option maxRecDepth 100000

set_option maxHeartbeats 400000 in
theorem indexU8_any (v : Int) (A : Option Addr) (n c : Nat) (l : List Int) (w : World) (hl : Ints .u8 w A n l) (hn : n ≤ 1000000) (hv0 : 0 ≤ v) (hv : v ≤ 255) :
    Calls Tryd.prog 83 #[.slice A n c, .int .u8 v] w fun e w' => ∃ k : Int, e = .returned (.int .i64 k) ∧ w = w' ∧ (decide (0 ≤ k) = decide (v ∈ l)) := by
  have hlen := Lib.hid hl.len
  go_enter Tryd.func83, Tryd.ntmps83
  go_wp2
  go_loop [8] (fun i => ∃ (k : Nat), k ≤ n ∧ i = .int .i64 k ∧ Hid (v ∉ l.take k)) (fun i => n - (intOf i).toNat)
  case atStart => exact ⟨0, by omega, rfl, Lib.hid (by simp)⟩
  case round =>
    obtain ⟨k, hk, rfl, HA⟩ := hrel
    rcases Nat.lt_or_ge k n with hlt | hge
    · obtain ⟨ad, rfl, hadl, x, hxk, hc⟩ := hl.at_ hlt
      have HX := Lib.hid hxk; clear hxk
      by_cases he : v = x
      · have heb : (v == x) = true := by simp [he]
        have HE := Lib.hid he; clear he
        go_wp2
        go_ret
        refine ⟨_, rfl, rfl, ?_⟩
        have : v ∈ l := by rw [HE.out]; exact List.mem_of_getElem? HX.out
        exact iff_of_true (by omega) this
      · have heb : (v == x) = false := by simp [he]
        have HE := Lib.hid he; clear he
        go_wp2
        go_round
        case rel =>
          refine ⟨k + 1, by omega, by go_num, Lib.hid ?_⟩
          rw [List.take_add_one, HX.out]
          intro hm
          rcases List.mem_append.1 hm with h | h
          · exact HA.out h
          · simp at h; exact HE.out h
        case measure => simp [intOf]; omega
    · go_wp2
      go_ret
      refine ⟨_, rfl, rfl, ?_⟩
      have h := HA.out
      rw [List.take_of_length_le (by have := hlen.out; omega)] at h
      exact iff_of_false (by omega) h

set_option maxHeartbeats 400000 in
theorem containsU8_any (v : Int) (A : Option Addr) (n c : Nat) (l : List Int) (w : World) (hl : Ints .u8 w A n l) (hn : n ≤ 1000000) (hv0 : 0 ≤ v) (hv : v ≤ 255) :
    Calls Tryd.prog 68 #[.slice A n c, .int .u8 v] w fun e w' => e = .returned (.bool (decide (v ∈ l))) ∧ w = w' := by
  have HI := Lib.hid (indexU8_any v A n c l w hl hn hv0 hv)
  go_enter Tryd.func68, Tryd.ntmps68
  go_wp2_with fail
  refine HI.out.mono ?_
  rintro e w' ⟨k, rfl, rfl, hk⟩
  have HK := Lib.hid hk; clear hk
  go_wp2
  go_ret
  exact ⟨ret_bool HK.out, rfl⟩

/-- The strands are each number from 1 to n, once. -/
def Full (n : Nat) (p : List Int) : Prop := Perm n p ∧ (∀ i : Nat, i < n → (i : Int) + 1 ∈ p) ∧ (∀ i j : Nat, i < n → j < n → p[i]? = p[j]? → i = j)
theorem full_ids (n : Nat) : Full n (ids n) := by
  refine ⟨perm_ids n, fun i hi => ?_, fun i j hi hj h => ?_⟩
  · simp only [ids, List.mem_map, List.mem_range]; exact ⟨i, hi, rfl⟩
  · simp [ids, hi, hj] at h; omega
theorem swapAt_get {n : Nat} {a : List Int} (h : a.length = n) {i : Nat} (hi : i + 1 < n) (j : Nat) (hj : j < n) :
    (swapAt a i)[j]? = if j = i then a[i + 1]? else if j = i + 1 then a[i]? else a[j]? := by
  unfold swapAt
  rw [getD_lt _ _ (by omega), getD_lt _ _ (by omega), List.getElem?_set, List.getElem?_set]
  by_cases h1 : i + 1 = j
  · subst h1
    rw [if_pos rfl, if_pos (by simp; omega), if_neg (by omega), if_pos rfl]
    simp
  · rw [if_neg h1]
    by_cases h2 : i = j
    · subst h2
      rw [if_pos rfl, if_pos (by omega), if_pos rfl]
      simp
    · rw [if_neg h2, if_neg (by omega), if_neg (by omega)]
def swIdx (i j : Nat) : Nat := if j = i then i + 1 else if j = i + 1 then i else j
theorem swapAt_get' {n : Nat} {a : List Int} (h : a.length = n) {i : Nat} (hi : i + 1 < n) (j : Nat) (hj : j < n) : (swapAt a i)[j]? = a[swIdx i j]? := by
  rw [swapAt_get h hi j hj]
  unfold swIdx
  by_cases h1 : j = i
  · simp [h1]
  · by_cases h2 : j = i + 1
    · simp [h2]
    · simp [h1, h2]
theorem swIdx_lt {n i j : Nat} (hi : i + 1 < n) (hj : j < n) : swIdx i j < n := by unfold swIdx; split <;> (try split) <;> omega
theorem swIdx_inj {i j k : Nat} (h : swIdx i j = swIdx i k) : j = k := by unfold swIdx at h; repeat' split at h <;> try omega
theorem swIdx_swIdx (i j : Nat) : swIdx i (swIdx i j) = j := by
  unfold swIdx
  by_cases h1 : j = i
  · subst h1; simp
  · by_cases h2 : j = i + 1
    · subst h2; simp
    · simp [h1, h2]
theorem full_swap {n : Nat} {a : List Int} (h : Full n a) (i : Nat) (hi : i + 1 < n) : Full n (swapAt a i) := by
  obtain ⟨h1, h2, h3⟩ := h
  refine ⟨perm_swap h1 i hi, fun j hj => ?_, fun j k hj hk e => ?_⟩
  · obtain ⟨q, hq, hqe⟩ := List.getElem_of_mem (h2 j hj)
    have hqn : q < n := by have := h1.1; omega
    refine List.mem_of_getElem? (i := swIdx i q) ?_
    rw [swapAt_get' h1.1 hi _ (swIdx_lt hi hqn), swIdx_swIdx]
    simp [hqe, hq]
  · rw [swapAt_get' h1.1 hi j hj, swapAt_get' h1.1 hi k hk] at e
    exact swIdx_inj (h3 _ _ (swIdx_lt hi hj) (swIdx_lt hi hk) e)
theorem full_follow {σ : Type} (step : σ → Int → Int → Int → σ) (s : σ) (n : Nat) (l : List Int) (h : ∀ k ∈ l, k ≠ 0 ∧ -(n : Int) < k ∧ k < n) : Full n (followL step s n l).2 := by
  have key : ∀ (l : List Int) (s : σ × List Int), Full n s.2 → (∀ k ∈ l, k ≠ 0 ∧ -(n : Int) < k ∧ k < n) → Full n (l.foldl (followStep step) s).2 := by
    intro l
    induction l with
    | nil => intro s hs _; exact hs
    | cons x l ih =>
      intro s hs hl
      have hx := placeOf_lt (hl x (by simp))
      exact ih _ (full_swap hs (placeOf x) (by omega)) (fun k hk => hl k (by simp [hk]))
  exact key l _ (full_ids n) h

set_option maxHeartbeats 400000 in
theorem permCheck_any (A : Option Addr) (n c : Nat) (p : List Int) (w : World) (hl : Ints .u8 w A n p) (hn : 1 ≤ n) (hn2 : n ≤ 8) (hp : Full n p) :
    Calls Tryd.prog 50 #[.slice A n c] w fun e w' => e = .returned (.int .i64 0) ∧ w = w' := by
  have HP := Lib.hid hp
  clear hp
  have hz : ((n : Int) == 0) = false := by simp; omega
  go_enter Tryd.func50, Tryd.ntmps50
  go_wp2
  go_loop [9] (fun i => ∃ (k : Nat), k ≤ n ∧ i = .int .i64 k) (fun i => n - (intOf i).toNat)
  case atStart => exact ⟨0, by omega, rfl⟩
  case round =>
    obtain ⟨k, hk, rfl⟩ := hrel
    rcases Nat.lt_or_ge k n with hlt | hge
    · have HC := Lib.hid (containsU8_any ((k : Int) + 1) A n c p w hl (by omega) (by omega) (by omega))
      rw [decide_eq_true (HP.out.2.1 k hlt)] at HC
      go_wp2_with fail
      refine HC.out.mono ?_
      rintro e w' ⟨rfl, rfl⟩
      go_wp2
      go_round
      case rel => exact ⟨k + 1, by omega, by go_num⟩
      case measure => simp [intOf]; omega
    · go_wp2
      go_ret
      exact ⟨rfl, rfl⟩

/-- The way back, after k places. -/
def backTo (p : List Int) (n k : Nat) : List Int := (List.range k).foldl (fun out i => out.set ((p.getD i 0).toNat - 1) ((i : Int) + 1)) (List.replicate n 0)
theorem backTo_succ (p : List Int) (n k : Nat) : backTo p n (k + 1) = (backTo p n k).set ((p.getD k 0).toNat - 1) ((k : Int) + 1) := by simp [backTo, List.range_succ]
theorem backTo_length (p : List Int) (n k : Nat) : (backTo p n k).length = n := by
  induction k with
  | zero => simp [backTo]
  | succ k ih => rw [backTo_succ]; simp [ih]
def backL (p : List Int) : List Int := backTo p p.length p.length

set_option maxHeartbeats 400000 in
theorem permBack_any (A : Option Addr) (n c : Nat) (p : List Int) (w : World) (hl : Ints .u8 w A n p) (hn : 1 ≤ n) (hn2 : n ≤ 8) (hp : Perm n p) :
    Calls Tryd.prog 51 #[.slice A n c] w fun e w' => ∃ A', e = .returned (.slice A' n n) ∧ Own w' w.heap.size 5 1 A' n n (iv .u8 (backL p)) ∧ Below w.heap.size w w' := by
  have HP := Lib.hid hp
  clear hp
  go_enter Tryd.func51, Tryd.ntmps51
  go_wp2_with (at_make; go_must (refine wpList_mk w rfl (.tmp 7) (.tmp 7) 22 rfl w.heap.size 5 Tryd.underlying22 elemU8Z rfl .i64 .i64 n n n rfl rfl rfl rfl (by omega) (Nat.le_refl _) ?_); intro w2 hown2 hg2)
  have hbel2 : Below w.heap.size w w2 := below_of_grown_none hg2 (Nat.le_refl _)
  go_loopw [11] (fun i wr => ∃ (k : Nat), k ≤ n ∧ i = .int .i64 k ∧ Own wr w.heap.size 5 1 (some ⟨w.heap.size, 0, none⟩) n n (iv .u8 (backTo p n k)) ∧ Below w.heap.size w wr) (fun i _ => n - (intOf i).toNat)
  case atStart => exact ⟨0, by omega, rfl, by simpa [backTo, iv] using hown2, hbel2⟩
  case round =>
    clear hown2 hbel2
    obtain ⟨k, hk, rfl, hown, hbel⟩ := hrel
    rcases Nat.lt_or_ge k n with hlt | hge
    · obtain ⟨ad, rfl, hadl, x, hxk, hc0⟩ := hl.at_ hlt
      have hc := (hbel.cell (p := ad.add k) (by rw [block_of_add]; exact hadl)).trans hc0
      clear hc0
      have hx := HP.out.2 x (List.mem_of_getElem? hxk)
      obtain ⟨j, rfl⟩ : ∃ j : Nat, x = (j : Int) + 1 := ⟨(x - 1).toNat, by omega⟩
      have hj : j < n := by omega
      have hcell : ∃ v, wr.cell? ⟨w.heap.size, j, none⟩ = some v := by
        rw [hown.cellAt (by omega)]
        exact ⟨_, List.getElem?_eq_getElem (by rw [iv_length, backTo_length]; omega)⟩
      obtain ⟨v, hcell⟩ := hcell
      have hfr := hown.frozenAt j
      have e1 : backTo p n (k + 1) = (backTo p n k).set j ((k : Int) + 1) := by
        rw [backTo_succ, List.getD_eq_getElem?_getD, hxk]
        simp only [Option.getD_some]
        rw [show ((j : Int) + 1).toNat - 1 = j by omega]
      have HE := Lib.hid e1
      have HS := Lib.hid (hown.stored j (.int .u8 ((k : Int) + 1)))
      have HB := Lib.hid (hbel.trans (hown.stored_below j (.int .u8 ((k : Int) + 1))))
      clear e1 hxk
      go_wp2
      go_roundw
      case rel => exact ⟨k + 1, by omega, by go_num, by rw [HE.out, iv_set]; exact HS.out, HB.out⟩
      case measure => simp [intOf]; omega
    · go_wp2
      go_ret
      obtain rfl : k = n := by omega
      refine ⟨_, rfl, ?_, hbel⟩
      unfold backL
      rw [HP.out.1]
      exact hown

set_option maxHeartbeats 400000 in
theorem permInverse_any (A : Option Addr) (n c : Nat) (p : List Int) (w : World) (hl : Ints .u8 w A n p) (hn : 1 ≤ n) (hn2 : n ≤ 8) (hp : Full n p) :
    Calls Tryd.prog 30 #[.slice A n c] w fun e w' => ∃ A', e = .returned (.tuple #[.slice A' n n, .int .i64 0]) ∧ Own w' w.heap.size 5 1 A' n n (iv .u8 (backL p)) ∧ Below w.heap.size w w' := by
  have HC := Lib.hid (permCheck_any A n c p w hl hn hn2 hp)
  have HB := Lib.hid (permBack_any A n c p w hl hn hn2 hp.1)
  clear hp
  go_enter Tryd.func30, Tryd.ntmps30
  go_wp2_with fail
  refine HC.out.mono ?_
  rintro e w' ⟨rfl, rfl⟩
  go_wp2_with fail
  refine HB.out.mono ?_
  rintro e w2 ⟨A2, rfl, hown2, hb2⟩
  go_wp2
  go_ret2
  exact ⟨A2, rfl, hown2, hb2⟩

theorem permutation1_any (a b s : Int) (w : World) : Calls Tryd.prog 32 #[.int .i64 a, .int .i64 b, .int .i64 s] w fun e w' => e = .returned (.tuple #[]) ∧ w = w' := by
  go_enter Tryd.func32, Tryd.ntmps32
  go_wp2
  go_end0
  exact ⟨rfl, rfl⟩
theorem entered_permutation1 : Entered Tryd.prog 32 := entered_of Tryd.func32 (by kernel_rfl) (by kernel_rfl)

/-- Where the strands go. -/
def permL (n : Nat) (l : List Int) : List Int := backL (followL (fun (_ : Unit) _ _ _ => ()) () n l).2

set_option maxHeartbeats 400000 in
theorem permutation_any (n : Nat) (A : Option Addr) (m c : Nat) (l : List Int) (w : World) (hl : Ints .i64 w A m l) (hn : 1 ≤ n) (hn2 : n ≤ 8) (hw : Wd n l) :
    Calls Tryd.prog 15 #[.int .i64 n, .slice A m c] w fun e w' => ∃ A', e = .returned (.tuple #[.slice A' n n, .int .i64 0]) ∧ Ints .u8 w' A' n (permL n l) ∧ Below w.heap.size w w' := by
  have hm : m ≤ 64 := by have := hl.len; have := hw.1; omega
  have HC := Lib.hid (hw.check ▸ check_any n A m c l w hl (by omega) (by omega) (by omega))
  have hfull := full_follow (fun (_ : Unit) _ _ _ => ()) () n l hw.2
  have HFULL := Lib.hid hfull
  have HW := Lib.hid hw
  clear hw hfull
  go_enter Tryd.func15, Tryd.ntmps15
  go_wp2_with fail
  refine HC.out.mono ?_
  rintro e w1 ⟨rfl, hbel1⟩
  have HFO := Lib.hid (follow_any (fun (_ : Unit) _ _ _ => ()) (fun _ _ _ => True) (fun _ => False) 32 #[] n A m c l w1 () (hl.below hbel1) hn hn2 HW.out entered_permutation1
    (fun _ h => h.elim) (fun _ _ _ h => h) trivial (fun _ _ _ _ _ _ _ => trivial) (fun s p x a b W _ _ _ _ _ _ _ _ => (permutation1_any a b _ W).mono fun e w' h => ⟨h.1, trivial, by rw [h.2]; exact KeptOut.refl _⟩))
  go_wp2_with fail
  refine HFO.out.mono ?_
  rintro e w2 ⟨A2, rfl, hown2, -, hk2⟩
  have hb2 : Below w1.heap.size w1 w2 := hk2.below
  have HI := Lib.hid (permInverse_any A2 n n _ w2 hown2.ints hn hn2 HFULL.out)
  go_wp2_with fail
  refine HI.out.mono ?_
  rintro e w3 ⟨A3, rfl, hown3, hb3⟩
  go_wp2
  go_ret2
  exact ⟨A3, rfl, hown3.ints, hbel1.trans ((hb2.mono hbel1.size).trans (hb3.mono (Nat.le_trans hbel1.size hb2.size)))⟩

end Go.Proofs.YtkanbechahhmkaaDoor
