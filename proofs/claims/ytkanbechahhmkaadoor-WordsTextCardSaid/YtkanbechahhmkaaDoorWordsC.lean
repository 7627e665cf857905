/-
  Contracts of the words' functions that make new lists: Reverse, Clip, inverse, Inverse, Mirror, Flip.
-/
import Derived.Test.YtkanbechahhmkaaDoorWordsB
namespace Go.Proofs.YtkanbechahhmkaaDoor
set_option linter.unusedSimpArgs false
set_option linter.unusedVariables false
open Go.RowKit

def revTo (n k : Nat) (xs ys : List Int) : Prop := ys.length = n ∧ ∀ j, j < n → ys[j]? = if j < k ∨ n < j + 1 + k then xs[n - 1 - j]? else xs[j]?

theorem revTo_step {n k : Nat} {xs ys : List Int} (h : revTo n k xs ys) (hk : k + 1 + k < n) (a b : Int) (ha : ys[k]? = some a) (hb : ys[n - 1 - k]? = some b) :
    revTo n (k + 1) xs ((ys.set k b).set (n - 1 - k) a) := by
  refine ⟨by simpa using h.1, fun j hj => ?_⟩
  have hj0 := h.2 j hj
  have hk0 := h.2 k (by omega)
  have hn0 := h.2 (n - 1 - k) (by omega)
  rw [if_neg (by omega), ha] at hk0
  rw [if_neg (by omega), hb] at hn0
  rw [List.getElem?_set, List.getElem?_set]
  by_cases h1 : n - 1 - k = j
  · subst h1
    rw [if_pos rfl, if_pos (by have := h.1; simp; omega), if_pos (by omega), show n - 1 - (n - 1 - k) = k by omega, hk0]
  · rw [if_neg h1]
    by_cases h2 : k = j
    · subst h2
      rw [if_pos rfl, if_pos (by have := h.1; omega), if_pos (by omega), hn0]
    · rw [if_neg h2, hj0]
      by_cases h3 : j < k ∨ n < j + 1 + k
      · rw [if_pos h3, if_pos (by omega)]
      · rw [if_neg h3, if_neg (by omega)]

theorem revTo_end {n k : Nat} {xs ys : List Int} (h : revTo n k xs ys) (hx : xs.length = n) (hk : n ≤ k + 1 + k) : ys = xs.reverse := by
  apply List.ext_getElem?
  intro j
  by_cases hj : j < n
  · rw [h.2 j hj, List.getElem?_reverse (by omega), hx]
    by_cases h3 : j < k ∨ n < j + 1 + k
    · rw [if_pos h3]
    · rw [if_neg h3, show n - 1 - j = j by omega]
  · rw [List.getElem?_eq_none (by have := h.1; omega), List.getElem?_eq_none (by simp; omega)]

set_option maxHeartbeats 400000 in
theorem reverse_any (base : Nat) (A : Option Addr) (n c : Nat) (l : List Int) (w : World) (hl : Own w base 3 1 A n c (iv .i64 l)) :
    Calls Tryd.prog 49 #[.slice A n c] w fun e w' => e = .returned (.tuple #[]) ∧ Own w' base 3 1 A n c (iv .i64 l.reverse) ∧ w.grownBy w' (ownB A) := by
  have hlen := Lib.hid hl.ints.len
  have hcap := hl.cap
  rcases Nat.eq_zero_or_pos n with hz | hpos
  · subst hz
    have hl0 : l = [] := List.eq_nil_of_length_eq_zero hlen.out
    subst hl0
    go_enter Tryd.func49, Tryd.ntmps49
    go_wp2
    go_loop [2, 3] (fun i j => i = .int .i64 0 ∧ j = .int .i64 (-1)) (fun _ _ => 0)
    case atStart => exact ⟨rfl, rfl⟩
    case round =>
      obtain ⟨rfl, rfl⟩ := hrel
      go_wp2
      go_end0
      exact ⟨rfl, hl, World.grownBy.refl w _⟩
  · obtain ⟨g, rfl, _, hgl⟩ := hl.shape (by omega)
    go_enter Tryd.func49, Tryd.ntmps49
    go_wp2
    go_loopw [2, 3] (fun i j wr => ∃ (k : Nat) (ys : List Int), k + k ≤ n ∧ i = .int .i64 k ∧ j = .int .i64 ((n : Int) - 1 - k) ∧ Own wr base 3 1 (some ⟨g, 0, none⟩) n c (iv .i64 ys) ∧ Hid (revTo n k l ys) ∧ w.grownBy wr (some g)) (fun i _ _ => n - (intOf i).toNat)
    case atStart => exact ⟨0, l, by omega, rfl, by go_num, hl, Lib.hid ⟨hlen.out, fun j hj => by rw [if_neg (by omega)]⟩, World.grownBy.refl w _⟩
    case round =>
      obtain ⟨k, ys, hk, rfl, rfl, hown, hrev, hgr⟩ := hrel
      rcases Nat.lt_or_ge (k + 1 + k) n with hlt | hge
      · have hyl : ys.length = n := hrev.out.1
        have hya : ys[k]? = some (ys[k]'(by omega)) := by simp
        have hyb : ys[n - 1 - k]? = some (ys[n - 1 - k]'(by omega)) := by simp
        generalize ys[k]'(by omega) = a at hya
        generalize ys[n - 1 - k]'(by omega) = b at hyb
        have hca : wr.cell? ⟨g, k, none⟩ = some (.int .i64 a) := by rw [hown.cellAt (by omega)]; simp [iv, hya]
        have hcb : wr.cell? ⟨g, n - 1 - k, none⟩ = some (.int .i64 b) := by rw [hown.cellAt (by omega)]; simp [iv, hyb]
        have hst := revTo_step hrev.out hlt a b hya hyb
        have hfa := hown.frozenAt k
        have hfb := hown.frozenAt (n - 1 - k)
        have S1 := (hown.stored k (.int .i64 b)).stored (n - 1 - k) (.int .i64 a)
        have G1 := (hown.stored_grown k (.int .i64 b)).trans ((hown.stored k (.int .i64 b)).stored_grown (n - 1 - k) (.int .i64 a))
        have HS := Lib.hid hst; clear hst
        have HYL := Lib.hid hyl
        have HYA := Lib.hid hya
        have HYB := Lib.hid hyb
        clear hyl hya hyb
        go_wp2_with fail
        go_region
        go_wp2
        go_roundw
        case rel => exact ⟨k + 1, (ys.set k b).set (n - 1 - k) a, by omega, by go_num, by go_num, by rw [iv_set, iv_set]; exact S1.drew, HS, grown_drew (hgr.trans G1)⟩
        case measure => simp [intOf]; omega
      · go_wp2
        go_end0
        refine ⟨rfl, ?_, hgr⟩
        rw [← revTo_end hrev.out hlen.out hge]
        exact hown

/-- slices.Clip: the same elements, no spare room. -/
theorem clip_any (A : Option Addr) (n c : Nat) (w : World) (hc : n ≤ c) (hm : c ≤ 9223372036854775807) :
    Calls Tryd.prog 26 #[.slice A n c] w fun e w' => e = .returned (.slice A n n) ∧ w = w' := by
  go_enter Tryd.func26, Tryd.ntmps26
  go_wp2
  go_ret
  exact ⟨rfl, rfl⟩

/-- The letters are small numbers. -/
def Small (l : List Int) : Prop := ∀ x ∈ l, -1000 ≤ x ∧ x ≤ 1000

theorem inverse1_any (x : Int) (w : World) (h1 : -1000 ≤ x) (h2 : x ≤ 1000) :
    Calls Tryd.prog 48 #[.int .i64 x] w fun e w' => e = .returned (.int .i64 (-x)) ∧ w = w' := by
  go_enter Tryd.func48, Tryd.ntmps48
  go_wp2
  go_ret
  exact ⟨rfl, rfl⟩
theorem mirror1_any (x : Int) (w : World) (h1 : -1000 ≤ x) (h2 : x ≤ 1000) :
    Calls Tryd.prog 37 #[.int .i64 x] w fun e w' => e = .returned (.int .i64 (-x)) ∧ w = w' := by
  go_enter Tryd.func37, Tryd.ntmps37
  go_wp2
  go_ret
  exact ⟨rfl, rfl⟩
def flipOf (n k : Int) : Int := if k < 0 then -n - k else n - k
theorem flip1_any (n x : Int) (ad : Addr) (w : World) (h1 : -1000 ≤ x) (h2 : x ≤ 1000) (hn : 0 ≤ n) (hn2 : n ≤ 8) (hc : w.cell? ad = some (.int .i64 n)) :
    Calls Tryd.prog 36 #[.int .i64 x, .pointer (some ad)] w fun e w' => e = .returned (.int .i64 (flipOf n x)) ∧ w = w' := by
  by_cases h : x < 0
  · have HF : Hid (flipOf n x = -n - x) := by simp [Hid, flipOf, h]
    go_enter Tryd.func36, Tryd.ntmps36
    go_wp2
    go_ret
    exact ⟨ret_int HF.out.symm, rfl⟩
  · have HF : Hid (flipOf n x = n - x) := by simp [Hid, flipOf, h]
    go_enter Tryd.func36, Tryd.ntmps36
    go_wp2
    go_ret
    exact ⟨ret_int HF.out.symm, rfl⟩

theorem entered_inverse1 : Entered Tryd.prog 48 := entered_of Tryd.func48 (by kernel_rfl) (by kernel_rfl)
theorem entered_mirror1 : Entered Tryd.prog 37 := entered_of Tryd.func37 (by kernel_rfl) (by kernel_rfl)
theorem entered_flip1 : Entered Tryd.prog 36 := entered_of Tryd.func36 (by kernel_rfl) (by kernel_rfl)

/-- The inverse of a list of letters. -/
def inv (l : List Int) : List Int := (l.map (fun x => -x)).reverse

set_option maxHeartbeats 400000 in
theorem inverse_any (A : Option Addr) (n c : Nat) (l : List Int) (w : World) (hl : Ints .i64 w A n l) (hn : n ≤ 1000000) (hs : Small l) :
    Calls Tryd.prog 29 #[.slice A n c] w fun e w' => ∃ A', e = .returned (.slice A' n n) ∧ Own w' w.heap.size 3 1 A' n n (iv .i64 (inv l)) ∧ Below w.heap.size w w' := by
  have HE := Lib.hid (each_any 48 #[] (fun x => -x) A n c l w hl hn entered_inverse1 (fun x hx W _ => inverse1_any x W (hs x hx).1 (hs x hx).2))
  clear hs
  go_enter Tryd.func29, Tryd.ntmps29
  go_wp2_with fail
  refine HE.out.mono ?_
  rintro e w1 ⟨A1, rfl, hown1, hbel1⟩
  go_wp2_with fail
  refine (reverse_any w.heap.size A1 n n _ w1 hown1).mono ?_
  rintro e w2 ⟨rfl, hown2, hg2⟩
  have HB := hbel1.trans (hown1.belowG hg2 hbel1.size)
  go_wp2
  go_ret
  exact ⟨A1, rfl, hown2, HB⟩

/-- l is a word of n strands. -/
def Wd (n : Int) (l : List Int) : Prop := l.length ≤ 64 ∧ ∀ k ∈ l, k ≠ 0 ∧ -n < k ∧ k < n
theorem Wd.check {n : Int} {l : List Int} (h : Wd n l) : checkOf n l = 0 := by
  unfold checkOf
  rw [if_neg (by have := h.1; omega)]
  have : l.any (bad n) = false := by
    rw [List.any_eq_false]
    intro x hx
    have := h.2 x hx
    simp [bad]
    omega
  rw [this]
  rfl
theorem Wd.small {n : Int} {l : List Int} (h : Wd n l) (hn : n ≤ 8) : Small l := fun x hx => by have := h.2 x hx; omega

theorem ret_pair {v : Value} {a b : Int} (h : a = b) : Ending.returned (.tuple #[v, .int .i64 a]) = .returned (.tuple #[v, .int .i64 b]) := by rw [h]

set_option maxHeartbeats 400000 in
theorem inverseW_any (n : Int) (A : Option Addr) (m c : Nat) (l : List Int) (w : World) (hl : Ints .i64 w A m l) (hn : 1 ≤ n) (hn2 : n ≤ 8) (hw : Wd n l) :
    Calls Tryd.prog 14 #[.int .i64 n, .slice A m c] w fun e w' => ∃ A', e = .returned (.tuple #[.slice A' m m, .int .i64 0]) ∧ Own w' w.heap.size 3 1 A' m m (iv .i64 (inv l)) ∧ Below w.heap.size w w' := by
  have hm : m ≤ 64 := by have := hl.len; have := hw.1; omega
  have HC := Lib.hid (hw.check ▸ check_any n A m c l w hl (by omega) hn hn2)
  have HS := Lib.hid (hw.small hn2)
  go_enter Tryd.func14, Tryd.ntmps14
  go_wp2_with fail
  refine HC.out.mono ?_
  rintro e w1 ⟨rfl, hbel1⟩
  have HI := Lib.hid (inverse_any A m c l w1 (hl.below hbel1) (by omega) HS.out)
  go_wp2_with fail
  refine HI.out.mono ?_
  rintro e w2 ⟨A2, rfl, hown2, hbel2⟩
  go_wp2
  go_ret2
  exact ⟨A2, rfl, hown2.lower hbel1.size, hbel1.trans (hbel2.mono hbel1.size)⟩

set_option maxHeartbeats 400000 in
theorem mirrorW_any (n : Int) (A : Option Addr) (m c : Nat) (l : List Int) (w : World) (hl : Ints .i64 w A m l) (hn : 1 ≤ n) (hn2 : n ≤ 8) (hw : Wd n l) :
    Calls Tryd.prog 19 #[.int .i64 n, .slice A m c] w fun e w' => ∃ A', e = .returned (.tuple #[.slice A' m m, .int .i64 0]) ∧ Own w' w.heap.size 3 1 A' m m (iv .i64 (l.map (fun x => -x))) ∧ Below w.heap.size w w' := by
  have hm : m ≤ 64 := by have := hl.len; have := hw.1; omega
  have HC := Lib.hid (hw.check ▸ check_any n A m c l w hl (by omega) hn hn2)
  have HS := Lib.hid (hw.small hn2)
  go_enter Tryd.func19, Tryd.ntmps19
  go_wp2_with fail
  refine HC.out.mono ?_
  rintro e w1 ⟨rfl, hbel1⟩
  have HI := Lib.hid (each_any 37 #[] (fun x => -x) A m c l w1 (hl.below hbel1) (by omega) entered_mirror1 (fun x hx W _ => mirror1_any x W (HS.out x hx).1 (HS.out x hx).2))
  go_wp2_with fail
  refine HI.out.mono ?_
  rintro e w2 ⟨A2, rfl, hown2, hbel2⟩
  go_wp2
  go_ret2
  exact ⟨A2, rfl, hown2.lower hbel1.size, hbel1.trans (hbel2.mono hbel1.size)⟩

set_option maxHeartbeats 400000 in
theorem flipW_any (n : Int) (A : Option Addr) (m c : Nat) (l : List Int) (w : World) (hl : Ints .i64 w A m l) (hn : 1 ≤ n) (hn2 : n ≤ 8) (hw : Wd n l) :
    Calls Tryd.prog 18 #[.int .i64 n, .slice A m c] w fun e w' => ∃ A', e = .returned (.tuple #[.slice A' m m, .int .i64 0]) ∧ Own w' w.heap.size 3 1 A' m m (iv .i64 (l.map (flipOf n))) ∧ Below w.heap.size w w' := by
  have hm : m ≤ 64 := by have := hl.len; have := hw.1; omega
  have HC := Lib.hid (hw.check ▸ check_any n A m c l (w.alloc (.cells #[.int .i64 n] 3)) (hl.alloc _) (by omega) hn hn2)
  have HS := Lib.hid (hw.small hn2)
  have hb0 : Below w.heap.size w (w.alloc (.cells #[.int .i64 n] 3)) := (Below.refl _ _).alloc (Nat.le_refl _) _
  have hcell : (w.alloc (.cells #[.int .i64 n] 3)).cell? ⟨w.heap.size, 0, none⟩ = some (.int .i64 n) := by simp
  go_enter Tryd.func18, Tryd.ntmps18
  go_wp2_with fail
  refine HC.out.mono ?_
  rintro e w1 ⟨rfl, hbel1⟩
  have hsz : (w.alloc (.cells #[.int .i64 n] 3)).heap.size = w.heap.size + 1 := by simp
  have hcell1 : w1.cell? ⟨w.heap.size, 0, none⟩ = some (.int .i64 n) := (hbel1.cell (by simp)).trans hcell
  have hbel1' : Below w.heap.size w w1 := hb0.trans (hbel1.mono (by simp))
  have hsz1 : w.heap.size < w1.heap.size := by have := hbel1.size; simp at this; omega
  have HI := Lib.hid (each_any 36 #[.pointer (some ⟨w.heap.size, 0, none⟩)] (flipOf n) A m c l w1 (hl.below hbel1') (by omega) entered_flip1
    (fun x hx W hb => flip1_any n x _ W (HS.out x hx).1 (HS.out x hx).2 (by omega) hn2 ((hb.cell (by exact hsz1)).trans hcell1)))
  clear hsz
  go_wp2_with fail
  refine HI.out.mono ?_
  rintro e w2 ⟨A2, rfl, hown2, hbel2⟩
  go_wp2
  go_ret2
  exact ⟨A2, rfl, hown2.lower hbel1'.size, hbel1'.trans (hbel2.mono hbel1'.size)⟩

end Go.Proofs.YtkanbechahhmkaaDoor
