/-
  Contracts of Reduce, and of the law's own reduced, back, all.
-/
import Derived.Test.YtkanbechahhmkaaDoorWordsD
namespace Go.Proofs.YtkanbechahhmkaaDoor
set_option linter.unusedSimpArgs false
set_option linter.unusedVariables false
open Go.RowKit
set_option maxRecDepth 100000

def reduceL (l : List Int) : List Int := l.foldl (fun acc x => joinL acc [x]) []
theorem reduceL_snoc (l : List Int) (x : Int) : reduceL (l ++ [x]) = joinL (reduceL l) [x] := by simp [reduceL]

theorem joinL_mem {a b : List Int} {x : Int} (h : x ∈ joinL a b) : x ∈ a ∨ x ∈ b := by
  unfold joinL at h
  rcases List.mem_append.1 h with h | h
  · exact .inl (List.mem_of_mem_take h)
  · exact .inr (List.mem_of_mem_drop h)
theorem joinL_length (a b : List Int) : (joinL a b).length ≤ a.length + b.length := by
  unfold joinL
  simp
  omega
theorem Small.join {a b : List Int} (ha : Small a) (hb : Small b) : Small (joinL a b) := fun x hx => (joinL_mem hx).elim (ha x) (hb x)
theorem reduceL_mem (l : List Int) : ∀ x ∈ reduceL l, x ∈ l := by
  have key : ∀ (l acc : List Int), ∀ x ∈ l.foldl (fun acc x => joinL acc [x]) acc, x ∈ acc ∨ x ∈ l := by
    intro l
    induction l with
    | nil => intro acc x hx; exact .inl hx
    | cons y l ih =>
      intro acc x hx
      rcases ih _ x hx with h | h
      · rcases joinL_mem h with h | h
        · exact .inl h
        · exact .inr (by simp at h; simp [h])
      · exact .inr (by simp [h])
  intro x hx
  rcases key l [] x hx with h | h
  · cases h
  · exact h
theorem Small.sub {l m : List Int} (h : Small l) (hs : ∀ x ∈ m, x ∈ l) : Small m := fun x hx => h x (hs x hx)
theorem reduceL_length (l : List Int) : (reduceL l).length ≤ l.length := by
  have key : ∀ (l acc : List Int), (l.foldl (fun acc x => joinL acc [x]) acc).length ≤ acc.length + l.length := by
    intro l
    induction l with
    | nil => intro acc; simp
    | cons y l ih =>
      intro acc
      have h1 := ih (joinL acc [y])
      have h2 := joinL_length acc [y]
      simp only [List.foldl_cons, List.length_cons, List.length_nil] at *
      omega
  have := key l []
  simpa [reduceL] using this

set_option maxHeartbeats 800000 in
theorem reduce_any (n : Int) (A : Option Addr) (m c : Nat) (l : List Int) (w : World) (hl : Ints .i64 w A m l) (hmc : m ≤ c) (hc : c ≤ 9223372036854775807) (hn : 1 ≤ n) (hn2 : n ≤ 8) (hw : Wd n l) :
    Calls Tryd.prog 11 #[.int .i64 n, .slice A m c] w fun e w' => ∃ A' k, e = .returned (.tuple #[.slice A' k k, .int .i64 0]) ∧ Ints .i64 w' A' k (reduceL l) ∧ Below w.heap.size w w' := by
  have hm : m ≤ 64 := by have := hl.len; have := hw.1; omega
  have HC := Lib.hid (hw.check ▸ check_any n A m c l w hl (by omega) hn hn2)
  have HS := Lib.hid (hw.small hn2)
  have hlen := Lib.hid hl.len
  go_enter Tryd.func11, Tryd.ntmps11
  go_wp2_with fail
  refine HC.out.mono ?_
  rintro e w1 ⟨rfl, hbel1⟩
  go_wp2_with fail
  go_loopw [7, 17] (fun v i wr => ∃ (k r : Nat) (A' : Option Addr) (c' : Nat), k ≤ m ∧ i = .int .i64 k ∧ v = .slice A' r c' ∧ Own wr w.heap.size 3 1 A' r c' (iv .i64 (reduceL (l.take k))) ∧ Below w.heap.size w wr) (fun _ i _ => m - (intOf i).toNat)
  case atStart => exact ⟨0, 0, none, 0, by omega, rfl, rfl, Own.nil_, hbel1⟩
  case round =>
    obtain ⟨k, r, A', c', hk, rfl, rfl, hown, hbel⟩ := hrel
    have hcap := hown.cap
    have hB := hbel.size
    have hr : r ≤ 64 := by have := hown.ints.len; have := reduceL_length (l.take k); simp at this; omega
    rcases Nat.lt_or_ge k m with hlt | hge
    · obtain ⟨ad, rfl, hadl, x, hxk, -⟩ := hl.at_ hlt
      have e1 : l.take (k + 1) = l.take k ++ [x] := by rw [List.take_add_one, hxk]; rfl
      have e2 : reduceL (l.take (k + 1)) = joinL (reduceL (l.take k)) [x] := by rw [e1, reduceL_snoc]
      have HE := Lib.hid e2
      have hs1 : Small (reduceL (l.take k)) := HS.out.sub (fun y hy => List.mem_of_mem_take (reduceL_mem _ y hy))
      have hs2 : Small [x] := HS.out.sub (fun y hy => by simp at hy; subst hy; exact List.mem_of_getElem? hxk)
      have hix : Ints .i64 wr (some (ad.add k)) 1 [x] := by
        have h := ((hl.below hbel).drop (k := k) (by omega)).take (k := 1) (by omega)
        have e3 : (l.drop k).take 1 = [x] := by
          obtain ⟨h1, h2⟩ := List.getElem?_eq_some_iff.1 hxk
          rw [List.drop_eq_getElem_cons h1, h2]; rfl
        rw [e3] at h
        exact h
      have HJ := Lib.hid (fun d2 (h1 : 1 ≤ d2) (h2 : d2 ≤ 9223372036854775807) => join_any A' (some (ad.add k)) r c' 1 d2 _ [x] wr hown.ints hix (by omega) (by omega) h1 h2 hs1 hs2 (by omega))
      clear e1 e2 hs1 hs2 hix hxk
      go_wp2_with fail
      refine (HJ.out _ (by omega) (by omega)).mono ?_
      rintro e w2 ⟨A2, r2, c2, rfl, hown2, hbel2⟩
      go_wp2
      go_roundw
      case rel => exact ⟨k + 1, r2, A2, c2, by omega, by go_num, rfl, by rw [HE.out]; exact hown2.lower hB, hbel.trans (hbel2.mono hB)⟩
      case measure => simp [intOf]; omega
    · have e1 : l.take k = l := List.take_of_length_le (by have := hlen.out; omega)
      rw [e1] at hown
      clear e1
      go_wp2_with fail
      refine (clip_any A' r c' _ (by omega) (by omega)).mono ?_
      rintro e w2 ⟨rfl, rfl⟩
      go_wp2
      go_ret2
      exact ⟨A', r, rfl, hown.ints, hbel⟩

/-- The law's own reduced: the letters before the place (backwards), and those from it on. -/
def redGo : List Int → List Int → List Int
  | P, a :: b :: r => if a = -b then (match P with | [] => redGo [] r | p :: P' => redGo P' (p :: r)) else redGo (a :: P) (b :: r)
  | P, [a] => P.reverse ++ [a]
  | P, [] => P.reverse
termination_by P r => P.length + 2 * r.length
def redL (l : List Int) : List Int := redGo [] l
theorem redGo_two (P : List Int) (a b : Int) (r : List Int) : redGo P (a :: b :: r) = if a = -b then (match P with | [] => redGo [] r | p :: P' => redGo P' (p :: r)) else redGo (a :: P) (b :: r) := by
  cases P <;> rw [redGo]
theorem redGo_one (P : List Int) (a : Int) : redGo P [a] = P.reverse ++ [a] := by cases P <;> rw [redGo]
theorem redGo_zero (P : List Int) : redGo P [] = P.reverse := by cases P <;> rw [redGo]

/-- What stands at the place. -/
theorem redGo_pair (l : List Int) (i : Nat) (a b : Int) (ha : l[i]? = some a) (hb : l[i + 1]? = some b) :
    redGo (l.take i).reverse (l.drop i) = if a = -b then redGo ((l.take i ++ l.drop (i + 2)).take (i - 1)).reverse ((l.take i ++ l.drop (i + 2)).drop (i - 1)) else redGo (l.take (i + 1)).reverse (l.drop (i + 1)) := by
  obtain ⟨h1, h2⟩ := List.getElem?_eq_some_iff.1 ha
  obtain ⟨h3, h4⟩ := List.getElem?_eq_some_iff.1 hb
  rw [List.drop_eq_getElem_cons h1, h2, List.drop_eq_getElem_cons h3, h4]
  rw [redGo_two]
  by_cases hab : a = -b
  · rw [if_pos hab, if_pos hab]
    rcases Nat.eq_zero_or_pos i with hi | hi
    · subst hi
      simp
    · obtain ⟨j, rfl⟩ : ∃ j, i = j + 1 := ⟨i - 1, by omega⟩
      have hj : j < l.length := by omega
      have e1 : l.take (j + 1) = l.take j ++ [l[j]] := by rw [List.take_succ_eq_append_getElem hj]
      have hl : (l.take j).length = j := by simp; omega
      rw [e1, Nat.add_sub_cancel]
      generalize l.take j = T at hl
      generalize l.drop (j + 1 + 2) = D
      rw [List.append_assoc, List.take_left' hl, List.drop_left' hl, List.reverse_append]
      rfl
  · rw [if_neg hab, if_neg hab, List.take_add_one, ha]
    simp
theorem redGo_end (l : List Int) (i : Nat) (h : l.length ≤ i + 1) (hi : i ≤ l.length) : redGo (l.take i).reverse (l.drop i) = l := by
  rcases Nat.lt_or_ge i l.length with h1 | h1
  · rw [List.drop_eq_getElem_cons h1, List.drop_eq_nil_of_le (by omega)]
    rw [redGo_one]
    simp only [List.reverse_reverse]
    have := List.take_append_drop i l
    rw [List.drop_eq_getElem_cons h1, List.drop_eq_nil_of_le (by omega)] at this
    exact this
  · rw [List.drop_eq_nil_of_le (by omega), redGo_zero, List.reverse_reverse, List.take_of_length_le (by omega)]

end Go.Proofs.YtkanbechahhmkaaDoor
