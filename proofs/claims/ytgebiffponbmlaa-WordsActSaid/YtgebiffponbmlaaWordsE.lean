/-
  Contracts of Reduce, and of the law's own reduced, back, all.
-/
import Derived.Test.YtgebiffponbmlaaWordsD
namespace Go.Proofs.Ytgebiffponbmlaa
open Go.RowKit

def reduceL (l : List Int) : List Int := l.foldl (fun acc x => joinL acc [x]) []
theorem reduceL_snoc (l : List Int) (x : Int) : reduceL (l ++ [x]) = joinL (reduceL l) [x] := by simp [reduceL]

theorem joinL_mem {a b : List Int} {x : Int} (h : x ∈ joinL a b) : x ∈ a ∨ x ∈ b := by
  unfold joinL at h
  rcases List.mem_append.1 h with h | h
  · exact .inl (List.mem_of_mem_take h)
  · exact .inr (List.mem_of_mem_drop h)
theorem joinL_length (a b : List Int) : (joinL a b).length ≤ a.length + b.length := by
  unfold joinL
  simp
  omega
theorem Small.join {a b : List Int} (ha : Small a) (hb : Small b) : Small (joinL a b) := fun x hx => (joinL_mem hx).elim (ha x) (hb x)
theorem reduceL_mem (l : List Int) : ∀ x ∈ reduceL l, x ∈ l := by
  have key : ∀ (l acc : List Int), ∀ x ∈ l.foldl (fun acc x => joinL acc [x]) acc, x ∈ acc ∨ x ∈ l := by
    intro l
    induction l with
    | nil => intro acc x hx; exact .inl hx
    | cons y l ih =>
      intro acc x hx
      rcases ih _ x hx with h | h
      · rcases joinL_mem h with h | h
        · exact .inl h
        · exact .inr (by simp at h; simp [h])
      · exact .inr (by simp [h])
  intro x hx
  rcases key l [] x hx with h | h
  · cases h
  · exact h
theorem Small.sub {l m : List Int} (h : Small l) (hs : ∀ x ∈ m, x ∈ l) : Small m := fun x hx => h x (hs x hx)
theorem reduceL_length (l : List Int) : (reduceL l).length ≤ l.length := by
  have key : ∀ (l acc : List Int), (l.foldl (fun acc x => joinL acc [x]) acc).length ≤ acc.length + l.length := by
    intro l
    induction l with
    | nil => intro acc; simp
    | cons y l ih =>
      intro acc
      have h1 := ih (joinL acc [y])
      have h2 := joinL_length acc [y]
      simp only [List.foldl_cons, List.length_cons, List.length_nil] at *
      omega
  have := key l []
  simpa [reduceL] using this

set_option maxHeartbeats 800000 in
theorem reduce_any (n : Int) (A : Option Addr) (m c : Nat) (l : List Int) (w : World) (hl : Ints .i64 w A m l) (hmc : m ≤ c) (hc : c ≤ 9223372036854775807) (hn : 1 ≤ n) (hn2 : n ≤ 8) (hw : Wd n l) :
    Calls Try.prog 9 #[.int .i64 n, .slice A m c] w fun e w' => ∃ A' k, e = .returned (.tuple #[.slice A' k k, .int .i64 0]) ∧ Ints .i64 w' A' k (reduceL l) ∧ Below w.heap.size w w' := by
  have hm : m ≤ 64 := by have := hl.len; have := hw.1; omega
  have HC := Lib.hid (hw.check ▸ check_any n A m c l w hl (by omega) hn hn2)
  have HS := Lib.hid (hw.small hn2)
  have hlen := Lib.hid hl.len
  go_enter Try.func9, Try.ntmps9
  go_wp2_with fail
  refine HC.out.mono ?_
  rintro e w1 ⟨rfl, hbel1⟩
  go_wp2_with fail
  go_loopw [7, 17] (fun v i wr => ∃ (k r : Nat) (A' : Option Addr) (c' : Nat), k ≤ m ∧ i = .int .i64 k ∧ v = .slice A' r c' ∧ Own wr w.heap.size 3 1 A' r c' (iv .i64 (reduceL (l.take k))) ∧ Below w.heap.size w wr) (fun _ i _ => m - (intOf i).toNat)
  case atStart => exact ⟨0, 0, none, 0, by omega, rfl, rfl, Own.nil_, hbel1⟩
  case round =>
    obtain ⟨k, r, A', c', hk, rfl, rfl, hown, hbel⟩ := hrel
    have hcap := hown.cap
    have hB := hbel.size
    have hr : r ≤ 64 := by have := hown.ints.len; have := reduceL_length (l.take k); simp at this; omega
    rcases Nat.lt_or_ge k m with hlt | hge
    · obtain ⟨ad, rfl, hadl, x, hxk, -⟩ := hl.at_ hlt
      have e1 : l.take (k + 1) = l.take k ++ [x] := by rw [List.take_add_one, hxk]; rfl
      have e2 : reduceL (l.take (k + 1)) = joinL (reduceL (l.take k)) [x] := by rw [e1, reduceL_snoc]
      have HE := Lib.hid e2
      have hs1 : Small (reduceL (l.take k)) := HS.out.sub (fun y hy => List.mem_of_mem_take (reduceL_mem _ y hy))
      have hs2 : Small [x] := HS.out.sub (fun y hy => by simp at hy; subst hy; exact List.mem_of_getElem? hxk)
      have hix : Ints .i64 wr (some (ad.add k)) 1 [x] := by
        have h := ((hl.below hbel).drop (k := k) (by omega)).take (k := 1) (by omega)
        have e3 : (l.drop k).take 1 = [x] := by
          obtain ⟨h1, h2⟩ := List.getElem?_eq_some_iff.1 hxk
          rw [List.drop_eq_getElem_cons h1, h2]; rfl
        rw [e3] at h
        exact h
      have HJ := Lib.hid (fun d2 (h1 : 1 ≤ d2) (h2 : d2 ≤ 9223372036854775807) => join_any A' (some (ad.add k)) r c' 1 d2 _ [x] wr hown.ints hix (by omega) (by omega) h1 h2 hs1 hs2 (by omega))
      clear e1 e2 hs1 hs2 hix hxk
      go_wp2_with fail
      refine (HJ.out _ (by omega) (by omega)).mono ?_
      rintro e w2 ⟨A2, r2, c2, rfl, hown2, hbel2⟩
      go_wp2
      go_roundw
      case rel => exact ⟨k + 1, r2, A2, c2, by omega, by go_num, rfl, by rw [HE.out]; exact hown2.lower hB, hbel.trans (hbel2.mono hB)⟩
      case measure => simp [intOf]; omega
    · have e1 : l.take k = l := List.take_of_length_le (by have := hlen.out; omega)
      rw [e1] at hown
      clear e1
      go_wp2_with fail
      refine (clip_any A' r c' _ (by omega) (by omega)).mono ?_
      rintro e w2 ⟨rfl, rfl⟩
      go_wp2
      go_ret2
      exact ⟨A', r, rfl, hown.ints, hbel⟩

/-- The law's own reduced: the letters before the place (backwards), and those from it on. -/
def redGo : List Int → List Int → List Int
  | P, a :: b :: r => if a = -b then (match P with | [] => redGo [] r | p :: P' => redGo P' (p :: r)) else redGo (a :: P) (b :: r)
  | P, [a] => P.reverse ++ [a]
  | P, [] => P.reverse
termination_by P r => P.length + 2 * r.length
def redL (l : List Int) : List Int := redGo [] l
theorem redGo_two (P : List Int) (a b : Int) (r : List Int) : redGo P (a :: b :: r) = if a = -b then (match P with | [] => redGo [] r | p :: P' => redGo P' (p :: r)) else redGo (a :: P) (b :: r) := by
  cases P <;> rw [redGo]
theorem redGo_one (P : List Int) (a : Int) : redGo P [a] = P.reverse ++ [a] := by cases P <;> rw [redGo]
theorem redGo_zero (P : List Int) : redGo P [] = P.reverse := by cases P <;> rw [redGo]

/-- What stands at the place. -/
theorem redGo_pair (l : List Int) (i : Nat) (a b : Int) (ha : l[i]? = some a) (hb : l[i + 1]? = some b) :
    redGo (l.take i).reverse (l.drop i) = if a = -b then redGo ((l.take i ++ l.drop (i + 2)).take (i - 1)).reverse ((l.take i ++ l.drop (i + 2)).drop (i - 1)) else redGo (l.take (i + 1)).reverse (l.drop (i + 1)) := by
  obtain ⟨h1, h2⟩ := List.getElem?_eq_some_iff.1 ha
  obtain ⟨h3, h4⟩ := List.getElem?_eq_some_iff.1 hb
  rw [List.drop_eq_getElem_cons h1, h2, List.drop_eq_getElem_cons h3, h4]
  rw [redGo_two]
  by_cases hab : a = -b
  · rw [if_pos hab, if_pos hab]
    rcases Nat.eq_zero_or_pos i with hi | hi
    · subst hi
      simp
    · obtain ⟨j, rfl⟩ : ∃ j, i = j + 1 := ⟨i - 1, by omega⟩
      have hj : j < l.length := by omega
      have e1 : l.take (j + 1) = l.take j ++ [l[j]] := by rw [List.take_succ_eq_append_getElem hj]
      have hl : (l.take j).length = j := by simp; omega
      rw [e1, Nat.add_sub_cancel]
      generalize l.take j = T at hl
      generalize l.drop (j + 1 + 2) = D
      rw [List.append_assoc, List.take_left' hl, List.drop_left' hl, List.reverse_append]
      rfl
  · rw [if_neg hab, if_neg hab, List.take_add_one, ha]
    simp
theorem redGo_end (l : List Int) (i : Nat) (h : l.length ≤ i + 1) (hi : i ≤ l.length) : redGo (l.take i).reverse (l.drop i) = l := by
  rcases Nat.lt_or_ge i l.length with h1 | h1
  · rw [List.drop_eq_getElem_cons h1, List.drop_eq_nil_of_le (by omega)]
    rw [redGo_one]
    simp only [List.reverse_reverse]
    have := List.take_append_drop i l
    rw [List.drop_eq_getElem_cons h1, List.drop_eq_nil_of_le (by omega)] at this
    exact this
  · rw [List.drop_eq_nil_of_le (by omega), redGo_zero, List.reverse_reverse, List.take_of_length_le (by omega)]

set_option maxHeartbeats 800000 in
theorem reduced_any (A : Option Addr) (m c : Nat) (l : List Int) (w : World) (hl : Ints .i64 w A m l) (hm : m ≤ 500000) (hs : Small l) :
    Calls Try.prog 14 #[.slice A m c] w fun e w' => ∃ A' k c', e = .returned (.slice A' k c') ∧ Ints .i64 w' A' k (redL l) ∧ k ≤ c' ∧ c' ≤ 9223372036854775807 ∧ Fresh w.heap.size A' ∧ Below w.heap.size w w' := by
  have hown0 : Own (w.alloc (.cells #[] 3)) w.heap.size 3 1 (some ⟨w.heap.size, 0, none⟩) 0 0 [] := Own.empty (Nat.le_refl _)
  have hb0 : Below w.heap.size w (w.alloc (.cells #[] 3)) := (Below.refl _ _).alloc (Nat.le_refl _) _
  have hi0 := hl.alloc (.cells #[] 3)
  go_enter Try.func14, Try.ntmps14
  go_wp2_with (at_builtin; go_must (refine wpList_app _ rfl (.tmp 5) (.tmp 6) 25 rfl w.heap.size 3 Try.underlying25 elemInt (some ⟨w.heap.size, 0, none⟩) 0 0 [] rfl hown0 _ A m c _ rfl hi0 (iv_one _ _) (by omega) (by simp) ?_); intro A2 c3 w2 hown2 hg2 _)
  have HB := hb0.trans (hown0.belowG hg2 (by simp))
  have HI : Ints .i64 w2 A2 m l := by have := hown2.reads; simpa [Ints] using this
  have hcap := hown2.cap
  have hfr := hown2.fresh
  clear hown2
  go_loopw [3, 4] (fun v i wr => ∃ (k n : Nat) (A' : Option Addr) (c' : Nat) (u : List Int), k ≤ n ∧ n ≤ m ∧ i = .int .i64 k ∧ v = .slice A' n c' ∧ Ints .i64 wr A' n u ∧ n ≤ c' ∧ c' ≤ 9223372036854775807 ∧ Fresh w.heap.size A' ∧ Below w.heap.size w wr ∧ Small u ∧ Hid (redGo (u.take k).reverse (u.drop k) = redL l)) (fun v i _ => 2 * (match v with | .slice _ n _ => n | _ => 0) - (intOf i).toNat)
  case atStart => exact ⟨0, m, A2, c3, l, by omega, by omega, rfl, by simp, HI, by omega, by omega, hfr, HB, hs, Lib.hid (by simp [redL])⟩
  case round =>
    obtain ⟨k, n, A', c', u, hk, hn, rfl, rfl, hown, hc1, hc2, hfresh, hbel, hsm, HR⟩ := hrel
    have hB := hbel.size
    have hlen := Lib.hid hown.len
    by_cases hlt : k + 1 < n
    · obtain ⟨ad, rfl, hadl, x, hxk, hcx⟩ := hown.at_ (k := k) (by omega)
      obtain ⟨ad', hae, _, y, hyk, hcy⟩ := hown.at_ (k := k + 1) (by omega)
      injection hae with hae
      subst hae
      have hp := redGo_pair u k x y hxk hyk
      have hys := hsm y (List.mem_of_getElem? hyk)
      have HSM := Lib.hid hsm
      have hk1 : k < n := by omega
      have hk2 : (k : Int) + 1 < (n : Int) := by omega
      have hk3 : IntKind.i64.wrap ((k : Int) + 1) = (k : Int) + 1 := IntWalk.i64_in _ (by omega)
      have hk4 : (0 : Int) ≤ (k : Int) + 1 := by omega
      have hk5 : ((k : Int) + 1).toNat = k + 1 := by omega
      rw [add_succ] at hcy
      clear hsm hxk hyk
      by_cases he : x = -y
      · rw [if_pos he] at hp
        have HP := Lib.hid hp
        have heb : (x == -y) = true := by simp [he]
        clear hp he
        have hw1 : IntKind.i64.wrap ((k : Int) + 2) = (k : Int) + 2 := IntWalk.i64_in _ (by omega)
        have hw2 : (0 : Int) ≤ (k : Int) + 2 := by omega
        have hw3 : ((k : Int) + 2).toNat = k + 2 := by omega
        go_wp2_with fail
        go_quiet (fail)
        go_wp2
        have hw4 : k ≤ c' := by omega
        have hw5 : (k : Int) + 2 ≤ (n : Int) := by omega
        go_still_tail 8, (by kernel_rfl)
        change wpList _ _ _ _ _ (wr.drewN nq).drew
        generalize hW : (wr.drewN nq).drew = w3
        have HW := Lib.hid hW; clear hW
        have hri : Reads w3 w3.heap.size 1 (if c' = k + 2 then some ad else some ⟨ad.block, ad.off + (k + 1 + 1), none⟩) (n - (k + 2)) (iv .i64 (u.drop (k + 2))) := by
          rw [← HW.out]
          by_cases hcc : c' = k + 2
          · rw [if_pos hcc, drop_all u (by have := hlen.out; omega), show n - (k + 2) = 0 by omega]
            exact Reads.none_
          · rw [if_neg hcc]
            have := hown.drop (k := k + 2) (by omega)
            simp only [Option.map_some, add_succ] at this
            exact this
        have hr1 : Reads w3 w3.heap.size 1 (some ad) k (iv .i64 (u.take k)) := by
          rw [← HW.out]; exact hown.take (by omega)
        have hbw : Below w.heap.size w w3 := by rw [← HW.out]; exact Below.drew (below_drewN hbel _)
        have hB3 : w.heap.size ≤ w3.heap.size := hbw.size
        clear hw1 hw2 hw3 hw4 hk3 hk4 hk5 hcx hcy
        go_wp2_with (at_builtin; go_must (refine wpList_appfull w3 rfl (.tmp 27) (.tmp 31) 25 rfl 3 Try.underlying25 elemInt _ (some ad) k _ rfl hr1 _ _ (n - (k + 2)) (c' - (k + 2)) _ rfl hri (Nat.le_refl _) (by omega) ?_); intro A4 c4 w4 hr4 hb4 hc4 hd4 hA4)
        go_roundw
        case rel =>
          refine ⟨k - 1, k + (n - (k + 2)), A4, c4, u.take k ++ u.drop (k + 2), by omega, by omega, ?_, rfl, by rw [← iv_append] at hr4; exact hr4, hc4, hd4, ?_, hbw.trans (hb4.mono hB3), ?_, Lib.hid (by rw [← HP.out]; exact HR.out)⟩
          rotate_left
          · rcases hA4 with e | e
            · rw [e]; exact hfresh
            · rw [e]; intro q hq; injection hq with hq; subst hq; exact hB3
          rotate_right
          · split
            · rw [show k - 1 = 0 by omega]; rfl
            · rw [show ((k - 1 : Nat) : Int) = (k : Int) - 1 by omega]
          · intro z hz
            rcases List.mem_append.1 hz with h | h
            · exact HSM.out z (List.mem_of_mem_take h)
            · exact HSM.out z (List.mem_of_mem_drop h)
        case measure => simp [intOf]; split <;> omega
      · rw [if_neg he] at hp
        have HP := Lib.hid hp
        have heb : (x == -y) = false := by simp [he]
        clear hp he
        go_wp2_with fail
        go_quiet (fail)
        go_wp2
        go_roundw
        case rel => exact ⟨k + 1, n, some ad, c', u, by omega, hn, by go_num, rfl, hown, hc1, hc2, hfresh, below_drewN hbel _, HSM.out, Lib.hid (by rw [← HP.out]; exact HR.out)⟩
        case measure => simp [intOf]; omega
    · go_wp2
      go_ret
      refine ⟨A', n, c', rfl, ?_, hc1, hc2, hfresh, hbel⟩
      rw [← HR.out, redGo_end u k (by have := hlen.out; omega) (by have := hlen.out; omega)]
      exact hown

set_option maxHeartbeats 400000 in
theorem back_any (A : Option Addr) (m c : Nat) (l : List Int) (w : World) (hl : Ints .i64 w A m l) (hm : m ≤ 500000) (hs : Small l) :
    Calls Try.prog 30 #[.slice A m c] w fun e w' => ∃ A' c', e = .returned (.slice A' m c') ∧ Own w' w.heap.size 3 1 A' m c' (iv .i64 (inv l)) ∧ Below w.heap.size w w' := by
  have hlen := Lib.hid hl.len
  go_enter Try.func30, Try.ntmps30
  go_wp2
  go_loopw [3, 4] (fun v i wr => ∃ (k : Nat) (A' : Option Addr) (c' : Nat), k ≤ m ∧ i = .int .i64 ((m : Int) - 1 - k) ∧ v = .slice A' k c' ∧ Own wr w.heap.size 3 1 A' k c' (iv .i64 ((inv l).take k)) ∧ Below w.heap.size w wr) (fun _ i _ => (intOf i + 1).toNat)
  case atStart => exact ⟨0, none, 0, by omega, by go_num, rfl, Own.nil_, Below.refl _ _⟩
  case round =>
    obtain ⟨k, A', c', hk, rfl, rfl, hown, hbel⟩ := hrel
    have hB := hbel.size
    rcases Nat.lt_or_ge k m with hlt | hge
    · obtain ⟨ad, rfl, hadl, x, hxk, hc0⟩ := hl.at_ (k := m - 1 - k) (by omega)
      have hc := (hbel.cell (p := ad.add (m - 1 - k)) (by rw [block_of_add]; exact hadl)).trans hc0
      clear hc0
      have hxs := hs x (List.mem_of_getElem? hxk)
      have HS := Lib.hid hs
      have e1 : (inv l).take (k + 1) = (inv l).take k ++ [-x] := by
        rw [List.take_add_one]
        congr 1
        unfold inv
        rw [List.getElem?_reverse (by simp; have := hlen.out; omega)]
        simp [hlen.out, hxk]
      have HE := Lib.hid e1
      clear e1 hxk hs
      go_wp2_with (at_builtin; go_must (refine wpList_app1 wr rfl (.tmp 12) (.tmp 18) 25 rfl w.heap.size 3 Try.underlying25 elemInt A' k c' _ rfl hown _ rfl rfl (by omega) hB ?_); intro A2 c2 w2 hown2 hg2 _)
      go_roundw
      case rel => exact ⟨k + 1, A2, c2, by omega, by go_num, rfl, by rw [HE.out, iv_append]; exact hown2, hbel.trans (hown.belowG hg2 hB)⟩
      case measure => simp [intOf]; omega
    · go_wp2
      go_ret
      have hkm : k = m := by omega
      subst hkm
      refine ⟨A', c', rfl, ?_, hbel⟩
      rw [List.take_of_length_le (by simp [inv]; have := hlen.out; omega)] at hown
      exact hown

end Go.Proofs.Ytgebiffponbmlaa
