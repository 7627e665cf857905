/-
  Contracts of the words' functions that take a function.
-/
import Derived.Test.YtkanbechahhmkaaDoorWordsA
namespace Go.Proofs.YtkanbechahhmkaaDoor
set_option linter.unusedSimpArgs false
set_option linter.unusedVariables false
open Go.RowKit

set_option maxHeartbeats 400000 in
theorem each_any (fid : FuncId) (cap : Array Value) (g : Int → Int) (A : Option Addr) (n c : Nat) (l : List Int) (w : World) (hl : Ints .i64 w A n l) (hn : n ≤ 1000000) (he : Entered Tryd.prog fid)
    (hf : ∀ x ∈ l, ∀ W, Below w.heap.size w W → Calls Tryd.prog fid (#[.int .i64 x] ++ cap) W fun e w' => e = .returned (.int .i64 (g x)) ∧ W = w') :
    Calls Tryd.prog 35 #[.slice A n c, .func (.func fid) #[] cap] w fun e w' => ∃ A', e = .returned (.slice A' n n) ∧ Own w' w.heap.size 3 1 A' n n (iv .i64 (l.map g)) ∧ Below w.heap.size w w' := by
  have HF := Lib.hid hf; clear hf
  have hcf : ∀ args W, (callFunc fid args).run Tryd.prog W = .ok (.enter fid args) W := he
  have hlen := Lib.hid hl.len
  go_enter Tryd.func35, Tryd.ntmps35
  go_wp2_with (at_make; go_must (refine wpList_mk w rfl (.tmp 9) (.tmp 9) 25 rfl w.heap.size 3 Tryd.underlying25 elemIntZ rfl .i64 .i64 n n n rfl rfl rfl rfl (by omega) (Nat.le_refl _) ?_); intro w1 hown1 hg1)
  have hbel1 : Below w.heap.size w w1 := below_of_grown_none hg1 (Nat.le_refl _)
  have hsz1 : w.heap.size < w1.heap.size := (hown1.low _ rfl).2
  go_loopw [13] (fun i wr => ∃ (k : Nat), k ≤ n ∧ i = .int .i64 k ∧ Own wr w.heap.size 3 1 (some ⟨w.heap.size, 0, none⟩) n n (iv .i64 ((l.take k).map g) ++ List.replicate (n - k) (.int .i64 0)) ∧ Below w.heap.size w wr) (fun i _ => n - (intOf i).toNat)
  case atStart => exact ⟨0, by omega, rfl, by simpa [iv] using hown1, hbel1⟩
  case round =>
    obtain ⟨k, hk, rfl, hown, hbel⟩ := hrel
    rcases Nat.lt_or_ge k n with hlt | hge
    · obtain ⟨ad, rfl, hadl, x, hxk, hc0⟩ := hl.at_ hlt
      have hc := (hbel.cell (p := ad.add k) (by rw [block_of_add]; exact hadl)).trans hc0
      clear hc0
      have hlenk : ((iv .i64 ((l.take k).map g))).length = k := by have := hlen.out; simp [iv]; omega
      have hcell : wr.cell? ⟨w.heap.size, k, none⟩ = some (.int .i64 0) := by
        rw [hown.cellAt (by omega), List.getElem?_append_right (by omega), hlenk, List.getElem?_replicate]; simp; omega
      have hfr := hown.frozenAt k
      have e1 : (iv .i64 ((l.take k).map g) ++ List.replicate (n - k) (Value.int .i64 0)).set k (Value.int .i64 (g x)) = iv .i64 ((l.take (k + 1)).map g) ++ List.replicate (n - (k + 1)) (Value.int .i64 0) := by
        rw [List.set_append_right _ _ (by omega), hlenk, List.take_add_one, hxk, show n - k = (n - (k + 1)) + 1 by omega, List.replicate_succ]
        simp [iv]
      have HS := Lib.hid (e1 ▸ hown.stored k (.int .i64 (g x)))
      have HB := Lib.hid (hbel.trans (hown.stored_below k (.int .i64 (g x))))
      have HC := Lib.hid (HF.out x (List.mem_of_getElem? hxk) wr hbel)
      clear e1 hxk hlenk
      go_wp2_with fail
      refine HC.out.mono ?_
      rintro e w' ⟨rfl, rfl⟩
      go_wp2
      go_roundw
      case rel => exact ⟨k + 1, by omega, by go_num, HS.out, HB.out⟩
      case measure => simp [intOf]; omega
    · go_wp2
      go_ret
      refine ⟨_, rfl, ?_, hbel⟩
      have e2 : n - k = 0 := by omega
      rw [e2, List.take_of_length_le (by have := hlen.out; omega)] at hown
      simpa using hown

set_option maxHeartbeats 400000 in
theorem indexFunc_any (fid : FuncId) (cap : Array Value) (g : Int → Bool) (A : Option Addr) (n c : Nat) (l : List Int) (w : World) (hl : Ints .i64 w A n l) (hn : n ≤ 9223372036854775807) (he : Entered Tryd.prog fid)
    (hf : ∀ x ∈ l, Calls Tryd.prog fid (#[.int .i64 x] ++ cap) w fun e w' => e = .returned (.bool (g x)) ∧ w = w') :
    Calls Tryd.prog 60 #[.slice A n c, .func (.func fid) #[] cap] w fun e w' => ∃ k : Int, e = .returned (.int .i64 k) ∧ w = w' ∧ (decide (0 ≤ k) = l.any g) := by
  have HF := Lib.hid hf; clear hf
  have hcf : ∀ args W, (callFunc fid args).run Tryd.prog W = .ok (.enter fid args) W := he
  have hlen := Lib.hid hl.len
  go_enter Tryd.func60, Tryd.ntmps60
  go_wp2
  go_loop [8] (fun i => ∃ (k : Nat), k ≤ n ∧ i = .int .i64 k ∧ Hid ((l.take k).any g = false)) (fun i => n - (intOf i).toNat)
  case atStart => exact ⟨0, by omega, rfl, Lib.hid (by simp)⟩
  case round =>
    obtain ⟨k, hk, rfl, HA⟩ := hrel
    rcases Nat.lt_or_ge k n with hlt | hge
    · obtain ⟨ad, rfl, hadl, x, hxk, hc⟩ := hl.at_ hlt
      have HC := Lib.hid (HF.out x (List.mem_of_getElem? hxk))
      have HX := Lib.hid hxk; clear hxk
      cases hg : g x
      · have HG := Lib.hid hg; clear hg
        go_wp2_with fail
        refine (HG.out ▸ HC.out).mono ?_
        rintro e w' ⟨rfl, rfl⟩
        go_wp2
        go_round
        case rel => exact ⟨k + 1, by omega, by go_num, Lib.hid (by rw [List.take_add_one, List.any_append, HA.out, HX.out]; simp [HG.out])⟩
        case measure => simp [intOf]; omega
      · have HG := Lib.hid hg; clear hg
        go_wp2_with fail
        refine (HG.out ▸ HC.out).mono ?_
        rintro e w' ⟨rfl, rfl⟩
        go_wp2
        go_ret
        refine ⟨_, rfl, rfl, ?_⟩
        have : l.any g = true := List.any_eq_true.2 ⟨x, List.mem_of_getElem? HX.out, HG.out⟩
        rw [this]
        simp
    · go_wp2
      go_ret
      refine ⟨_, rfl, rfl, ?_⟩
      have h := HA.out
      rw [List.take_of_length_le (by have := hlen.out; omega)] at h
      rw [h]
      simp

set_option maxHeartbeats 400000 in
theorem containsFunc_any (fid : FuncId) (cap : Array Value) (g : Int → Bool) (A : Option Addr) (n c : Nat) (l : List Int) (w : World) (hl : Ints .i64 w A n l) (hn : n ≤ 9223372036854775807) (he : Entered Tryd.prog fid)
    (hf : ∀ x ∈ l, Calls Tryd.prog fid (#[.int .i64 x] ++ cap) w fun e w' => e = .returned (.bool (g x)) ∧ w = w') :
    Calls Tryd.prog 41 #[.slice A n c, .func (.func fid) #[] cap] w fun e w' => e = .returned (.bool (l.any g)) ∧ w = w' := by
  have HI := Lib.hid (indexFunc_any fid cap g A n c l w hl hn he hf)
  clear hf
  go_enter Tryd.func41, Tryd.ntmps41
  go_wp2_with fail
  refine HI.out.mono ?_
  rintro e w' ⟨k, rfl, rfl, hk⟩
  have HK := Lib.hid hk; clear hk
  go_wp2
  go_ret
  exact ⟨ret_bool HK.out, rfl⟩

/-- A letter that no word of n strands has. -/
def bad (n k : Int) : Bool := k == 0 || (decide (k ≤ -n) || decide (n ≤ k))

set_option maxHeartbeats 400000 in
theorem check1_any (n k : Int) (ad : Addr) (w : World) (hn : 1 ≤ n) (hn2 : n ≤ 8) (hc : w.cell? ad = some (.int .i64 n)) :
    Calls Tryd.prog 42 #[.int .i64 k, .pointer (some ad)] w fun e w' => e = .returned (.bool (bad n k)) ∧ w = w' := by
  by_cases h0 : k = 0
  · have hb : Hid (bad n k = true) := by simp [Hid, bad, h0]
    have h0b : (k == 0) = true := by simp [h0]
    clear h0
    go_enter Tryd.func42, Tryd.ntmps42
    go_wp2
    go_ret
    exact ⟨ret_bool hb.out.symm, rfl⟩
  · have h0b : (k == 0) = false := by simp [h0]
    by_cases h1 : k ≤ -n
    · have hb : Hid (bad n k = true) := by simp [Hid, bad, h1]
      clear h0
      go_enter Tryd.func42, Tryd.ntmps42
      go_wp2
      go_ret
      exact ⟨ret_bool hb.out.symm, rfl⟩
    · have hb : Hid (bad n k = decide (n ≤ k)) := by simp [Hid, bad, h1, h0]
      clear h0
      go_enter Tryd.func42, Tryd.ntmps42
      go_wp2
      go_ret
      exact ⟨ret_bool hb.out.symm, rfl⟩

theorem entered_check1 : Entered Tryd.prog 42 := entered_of Tryd.func42 (by kernel_rfl) (by kernel_rfl)

def checkOf (n : Int) (l : List Int) : Int := if 64 < l.length then 3 else if l.any (bad n) then 1 else 0

set_option maxHeartbeats 400000 in
theorem check_any (n : Int) (A : Option Addr) (m c : Nat) (l : List Int) (w : World) (hl : Ints .i64 w A m l) (hm : m ≤ 9223372036854775807) (hn : 1 ≤ n) (hn2 : n ≤ 8) :
    Calls Tryd.prog 23 #[.int .i64 n, .slice A m c] w fun e w' => e = .returned (.int .i64 (checkOf n l)) ∧ Below w.heap.size w w' := by
  have hlen := hl.len
  have hbel : Below w.heap.size w (w.alloc (.cells #[.int .i64 n] 3)) := (Below.refl _ _).alloc (Nat.le_refl _) _
  by_cases h64 : 64 < m
  · have hr : Hid (checkOf n l = 3) := by simp only [Hid, checkOf]; rw [if_pos (by omega)]
    go_enter Tryd.func23, Tryd.ntmps23
    go_wp2
    go_ret
    exact ⟨ret_int hr.out.symm, hbel⟩
  · have hr : Hid (checkOf n l = if l.any (bad n) then 1 else 0) := by simp only [Hid, checkOf]; rw [if_neg (by omega)]
    have HI := Lib.hid (containsFunc_any 42 #[.pointer (some ⟨w.heap.size, 0, none⟩)] (bad n) A m c l (w.alloc (.cells #[.int .i64 n] 3)) (hl.alloc _) hm entered_check1
      (fun x _ => check1_any n x ⟨w.heap.size, 0, none⟩ _ hn hn2 (by simp)))
    cases ha : l.any (bad n)
    · have HA := Lib.hid ha; clear ha
      go_enter Tryd.func23, Tryd.ntmps23
      go_wp2_with fail
      refine (HA.out ▸ HI.out).mono ?_
      rintro e w' ⟨rfl, rfl⟩
      go_wp2
      go_ret
      exact ⟨ret_int (by rw [hr.out, HA.out]; rfl), hbel⟩
    · have HA := Lib.hid ha; clear ha
      go_enter Tryd.func23, Tryd.ntmps23
      go_wp2_with fail
      refine (HA.out ▸ HI.out).mono ?_
      rintro e w' ⟨rfl, rfl⟩
      go_wp2
      go_ret
      exact ⟨ret_int (by rw [hr.out, HA.out]; rfl), hbel⟩

end Go.Proofs.YtkanbechahhmkaaDoor
