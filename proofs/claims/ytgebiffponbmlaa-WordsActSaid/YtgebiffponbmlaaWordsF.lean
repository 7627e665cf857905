/-
  Contracts of the law's all and image.
-/
import Derived.Test.YtgebiffponbmlaaWordsE
namespace Go.Proofs.Ytgebiffponbmlaa
open Go.RowKit

set_option maxHeartbeats 400000 in
theorem all_any (A B : Option Addr) (n m c d : Nat) (xs ys : List (List Int)) (w : World) (ha : Grid .i64 w A n xs) (hb : Grid .i64 w B m ys) (hx : n < 1000000000) (hsz : ∀ l ∈ xs, l.length < 1000000000) :
    Calls Try.prog 18 #[.slice A n c, .slice B m d] w fun e w' => e = .returned (.bool (decide (xs = ys))) ∧ ∃ n, w' = w.drewN n := by
  by_cases hl : n = m
  · subst hl
    have HSZ := Lib.hid hsz; clear hsz
    go_enter Try.func18, Try.ntmps18
    go_wp2
    go_loopw [5] (fun i wr => ∃ k : Nat, k ≤ n ∧ i = .int .i64 k ∧ Hid (xs.take k = ys.take k) ∧ ∃ n, wr = w.drewN n) (fun i _ => n - (intOf i).toNat)
    case atStart => exact ⟨0, by omega, rfl, Lib.hid (by simp), 0, rfl⟩
    case round =>
      obtain ⟨k, hk, rfl, HE, q, hq⟩ := hrel
      have ha2 : Grid .i64 wr A n xs := by rw [hq]; exact ha.drewN q
      have hb2 : Grid .i64 wr B n ys := by rw [hq]; exact hb.drewN q
      have HQ := Lib.hid hq
      clear hq
      by_cases hlt : k < n
      · obtain ⟨a1, r1, m1, c1, x, rfl, _, hc1, _, _, hxk, hi1⟩ := ha2.at_ hlt
        obtain ⟨b1, r2, m2, c2, y, rfl, _, hc2, _, _, hyk, hi2⟩ := hb2.at_ hlt
        have HX := Lib.hid hxk
        have HY := Lib.hid hyk
        have hm1 : m1 < 1000000000 := by have := HSZ.out x (List.mem_of_getElem? hxk); have := hi1.len; omega
        clear hxk hyk
        by_cases he : x = y
        · have HS := Lib.hid (fun q' => same_any r1 r2 m1 m2 c1 c2 x y (wr.drewN q') (hi1.drewN _) (hi2.drewN _) hm1)
          rw [decide_eq_true he] at HS
          have HN := Lib.hid he; clear he
          go_wp2_with fail
          go_quiet ((go_at_call 13; exact Calls.quiet_of (HS.out _)))
          go_wp2
          go_roundw
          case rel => exact ⟨k + 1, by omega, by go_num, Lib.hid (by rw [List.take_add_one, List.take_add_one, HE.out, HX.out, HY.out, HN.out]), (by rw [HQ.out]; first | exact ⟨_, rfl⟩ | exact ⟨_, World.drewN_drewN _ _ _⟩)⟩
          case measure => simp [intOf]; omega
        · have HS := Lib.hid (fun q' => same_any r1 r2 m1 m2 c1 c2 x y (wr.drewN q') (hi1.drewN _) (hi2.drewN _) hm1)
          rw [decide_eq_false he] at HS
          have HN := Lib.hid he; clear he
          go_wp2_with fail
          go_quiet ((go_at_call 13; exact Calls.quiet_of (HS.out _)))
          go_wp2
          go_ret
          refine ⟨ret_bool ?_, (by rw [HQ.out]; first | exact ⟨_, rfl⟩ | exact ⟨_, World.drewN_drewN _ _ _⟩)⟩
          rw [eq_comm, decide_eq_false_iff_not]
          intro h
          have h1 := HX.out
          rw [h, HY.out] at h1
          injection h1 with h1
          exact HN.out h1.symm
      · go_wp2
        go_ret
        refine ⟨ret_bool ?_, q, HQ.out⟩
        rw [eq_comm, decide_eq_true_eq]
        have h1 := HE.out
        rwa [List.take_of_length_le (by have := ha.len; omega), List.take_of_length_le (by have := hb.len; omega)] at h1
  · have hlb : ((n : Int) != (m : Int)) = true := by simp; omega
    go_enter Try.func18, Try.ntmps18
    go_wp2
    go_ret
    refine ⟨ret_bool ?_, 0, rfl⟩
    rw [eq_comm, decide_eq_false_iff_not]
    intro h
    exact hl (by rw [← ha.len, ← hb.len, h])

theorem elemSlZ : ElemZ Try.prog 25 1 24 (.slice none 0 0) := elemZ_of (by kernel_rfl) rfl (by omega) (by omega)
theorem elemSl : Elem Try.prog 25 1 24 := elemSlZ.elem

/-- What a letter makes of images, by the law's own definition. -/
def imageL (ls : List (List Int)) (k : Int) : List (List Int) :=
  if 0 < k then
    (ls.set (k.toNat - 1) (redL (ls.getD (k.toNat - 1) [] ++ ls.getD k.toNat [] ++ inv (ls.getD (k.toNat - 1) [])))).set k.toNat (ls.getD (k.toNat - 1) [])
  else
    (ls.set ((-k).toNat - 1) (ls.getD (-k).toNat [])).set (-k).toNat (redL (inv (ls.getD (-k).toNat []) ++ ls.getD ((-k).toNat - 1) [] ++ ls.getD (-k).toNat []))

def Rows8 (N : Nat) (ls : List (List Int)) : Prop := ∀ l ∈ ls, l.length ≤ N ∧ Small l

set_option maxHeartbeats 1000000 in
theorem image_pos (A : Option Addr) (n c : Nat) (ls : List (List Int)) (j : Nat) (w : World) (hl : Grid .i64 w A n ls) (hn : n ≤ 8) (hr : Rows8 100000 ls) (hj : j + 1 < n) :
    Calls Try.prog 16 #[.slice A n c, .int .i64 ((j : Int) + 1)] w fun e w' => ∃ A' c', e = .returned (.slice A' n c') ∧ Grid .i64 w' A' n (imageL ls ((j : Int) + 1)) ∧ Below w.heap.size w w' := by
  have hlen := Lib.hid hl.len
  have hg := hl
  obtain ⟨vs, hr1, hr2⟩ := hl
  have hrv := hr1.alloc (Nat.le_refl _) (.cells #[] 25)
  have hown0 : Own (w.alloc (.cells #[] 25)) w.heap.size 25 1 (some ⟨w.heap.size, 0, none⟩) 0 0 [] := Own.empty (Nat.le_refl _)
  have hb0 : Below w.heap.size w (w.alloc (.cells #[] 25)) := (Below.refl _ _).alloc (Nat.le_refl _) _
  have hone := hr2.one
  go_enter Try.func16, Try.ntmps16
  go_wp2_with (at_builtin; go_must (refine wpList_app _ rfl (.tmp 10) (.tmp 11) 34 rfl w.heap.size 25 Try.underlying34 elemSl (some ⟨w.heap.size, 0, none⟩) 0 0 [] rfl hown0 _ A n c _ rfl hrv hone (by omega) (by simp) ?_); intro A1 c1 w1 hown1 hg1 _)
  have hb1 : Below w.heap.size w w1 := hb0.trans (hown0.belowG hg1 (by simp))
  have hown1' : Own w1 w.heap.size 25 1 A1 n c1 vs := by simpa using hown1
  have hrow1 := hr2.below hb1
  clear hown1 hone hrv hown0
  obtain ⟨ad, r1, m1, d1, a, rfl, hadl, hca0, hma1, hma2, hak, hia0⟩ := hg.at_ (k := j) (by omega)
  obtain ⟨ad', r2, m2, d2, b, had, _, hcb0, hmb1, hmb2, hbk, hib0⟩ := hg.at_ (k := j + 1) (by omega)
  injection had with had
  subst had
  have hca := (hb1.cell (p := ad.add j) (by rw [block_of_add]; exact hadl)).trans hca0
  have hcb := (hb1.cell (p := ad.add (j + 1)) (by rw [block_of_add]; exact hadl)).trans hcb0
  have hia := hia0.below hb1
  have hib := hib0.below hb1
  rw [add_succ] at hcb
  clear hca0 hcb0
  have HAK := Lib.hid hak
  have HBK := Lib.hid hbk
  clear hak hbk
  have hsa : Small a ∧ m1 ≤ 100000 := by
    have h := hr a (List.mem_of_getElem? HAK.out)
    exact ⟨h.2, by have := hia.len; omega⟩
  have hsb : Small b ∧ m2 ≤ 100000 := by
    have h := hr b (List.mem_of_getElem? HBK.out)
    exact ⟨h.2, by have := hib.len; omega⟩
  have HSA := Lib.hid hsa.1
  have HSB := Lib.hid hsb.1
  have hma := hsa.2
  have hmb := hsb.2
  clear hsa hsb
  have hc1 := hown1'.cap
  obtain ⟨g, hA1, hgB, hgl⟩ := hown1'.shape (by omega)
  go_wp2_with fail
  go_quiet (fail)
  generalize hW : w1.drewN nq = w2
  have hb2 : Below w1.heap.size w1 w2 := by rw [← hW]; exact below_drewN (Below.refl _ _) _
  have hsz2 : w2.heap.size = w1.heap.size := by rw [← hW]; rfl
  have HSZ2 := Lib.hid hsz2
  clear hW hsz2 hca hcb
  have hia2 := hia.below hb2
  have hib2 := hib.below hb2
  go_wp2_with (first
    | (at_builtin; refine wpList_app0 w2 rfl (.tmp 27) (.tmp 28) 25 rfl 3 Try.underlying25 elemInt rfl r1 m1 d1 _ rfl hia2 (iv_one _ _) (by omega) ?_; intro A3 c3 w3 hown3 hb3; have hib3 := hib2.below hb3)
    | (at_builtin; refine wpList_appB _ rfl (.tmp 29) (.tmp 30) 25 rfl w2.heap.size 3 Try.underlying25 elemInt A3 m1 c3 _ rfl hown3 r2 m2 d2 _ rfl hib3 (iv_one _ _) (by omega) hb3.size ?_; intro A4 c4 w4 hown4 hb4))
  have hs23 := hb3.size
  have hs34 := hb4.size
  have hw14 : Below w1.heap.size w1 w4 := by
    have h := HSZ2.out
    have h2 := hb3.trans hb4
    rw [h] at h2
    exact hb2.trans h2
  have hia4 := hia.below hw14
  have HBK4 := Lib.hid (back_any r1 m1 d1 a w4 hia4 (by omega) HSA.out)
  refine HBK4.out.mono ?_
  rintro e w5 ⟨A5, c5, rfl, hown5, hb5⟩
  have hown45 := hown4.below hb5
  have hs45 := hb5.size
  have hri5 := hown5.reads
  go_wp2_with (at_builtin; refine wpList_appB w5 rfl (.tmp 31) (.tmp 33) 25 rfl w2.heap.size 3 Try.underlying25 elemInt A4 (m1 + m2) c4 _ rfl hown45 A5 m1 c5 _ rfl hri5 (iv_one _ _) (by omega) (by omega) ?_; intro A6 c6 w6 hown6 hb6)
  have hi6 : Ints .i64 w6 A6 (m1 + m2 + m1) (a ++ b ++ inv a) := by
    have := hown6.reads
    rw [← iv_append, ← iv_append] at this
    exact this
  have hsm : Small (a ++ b ++ inv a) := by
    intro z hz
    rcases List.mem_append.1 hz with h | h
    · rcases List.mem_append.1 h with h | h
      · exact HSA.out z h
      · exact HSB.out z h
    · simp only [inv, List.mem_reverse, List.mem_map] at h
      obtain ⟨y, hy, rfl⟩ := h
      have := HSA.out y hy
      omega
  have HRD := Lib.hid (reduced_any A6 (m1 + m2 + m1) c6 _ w6 hi6 (by omega) hsm)
  clear hsm
  have hs56 := hb6.size
  refine HRD.out.mono ?_
  rintro e w7 ⟨A7, k7, c7, rfl, hi7, hc7a, hc7b, hd7, hb7⟩
  have hs67 := hb7.size
  have hw17 : Below w1.heap.size w1 w7 := by
    have h := HSZ2.out
    have h1 := hw14.size
    exact hw14.trans ((hb5.mono h1).trans ((hb6.mono (by omega)).trans (hb7.mono (by omega))))
  have hown7 := hown1'.below hw17
  subst hA1
  have hcell1 : ∃ v, w7.cell? ⟨g, j, none⟩ = some v := by
    rw [hown7.cellAt (by omega)]
    exact ⟨_, List.getElem?_eq_getElem (by have := hr1.1; omega)⟩
  obtain ⟨v1, hcell1⟩ := hcell1
  have hfr1 := hown7.frozenAt j
  have hown8 := hown7.stored j (.slice A7 k7 c7)
  have hcell2 : ∃ v, (w7.setCell ⟨g, j, none⟩ (.slice A7 k7 c7)).cell? ⟨g, j + 1, none⟩ = some v := by
    rw [hown8.cellAt (by omega)]
    exact ⟨_, List.getElem?_eq_getElem (by have := hr1.1; simp; omega)⟩
  obtain ⟨v2, hcell2⟩ := hcell2
  have hfr2 := hown8.frozenAt (j + 1)
  have HOWN9 := Lib.hid (hown8.stored (j + 1) (.slice r1 m1 d1))
  have hb8 := hown7.stored_below j (.slice A7 k7 c7)
  have hb9 := hown8.stored_below (j + 1) (.slice r1 m1 d1)
  have HB89 := Lib.hid (hb8.trans hb9)
  clear hb8 hb9
  go_wp2_with fail
  go_ret
  have hbw7 : Below w.heap.size w w7 := hb1.trans (hw17.mono hb1.size)
  have hbw9 := hbw7.trans HB89.out
  have hi9 := (hi7.far (p := ⟨g, j, none⟩) (fun q hq => by have := hd7 q hq; have := hw14.size; intro e; simp at e; omega) (.slice A7 k7 c7)).far (p := ⟨g, j + 1, none⟩) (fun q hq => by have := hd7 q hq; have := hw14.size; intro e; simp at e; omega) (.slice r1 m1 d1)
  have hrows := ((hr2.below hbw9).set_ j ⟨A7, k7, c7, rfl, hc7a, hc7b, hi9⟩).set_ (j + 1) ⟨r1, m1, d1, rfl, hma1, hma2, hia0.below hbw9⟩
  refine ⟨_, c1, rfl, ?_, hbw9⟩
  have e : imageL ls ((j : Int) + 1) = (ls.set j (redL (a ++ b ++ inv a))).set (j + 1) a := by
    unfold imageL
    rw [if_pos (by omega), show ((j : Int) + 1).toNat = j + 1 by omega, Nat.add_sub_cancel, List.getD_eq_getElem?_getD, List.getD_eq_getElem?_getD, HAK.out, HBK.out]
    rfl
  rw [e]
  exact Grid.own HOWN9.out hrows

set_option maxHeartbeats 1000000 in
theorem image_neg (A : Option Addr) (n c : Nat) (ls : List (List Int)) (j : Nat) (w : World) (hl : Grid .i64 w A n ls) (hn : n ≤ 8) (hr : Rows8 100000 ls) (hj : j + 1 < n) :
    Calls Try.prog 16 #[.slice A n c, .int .i64 (-((j : Int) + 1))] w fun e w' => ∃ A' c', e = .returned (.slice A' n c') ∧ Grid .i64 w' A' n (imageL ls (-((j : Int) + 1))) ∧ Below w.heap.size w w' := by
  have hlen := Lib.hid hl.len
  have hg := hl
  obtain ⟨vs, hr1, hr2⟩ := hl
  have hrv := hr1.alloc (Nat.le_refl _) (.cells #[] 25)
  have hown0 : Own (w.alloc (.cells #[] 25)) w.heap.size 25 1 (some ⟨w.heap.size, 0, none⟩) 0 0 [] := Own.empty (Nat.le_refl _)
  have hb0 : Below w.heap.size w (w.alloc (.cells #[] 25)) := (Below.refl _ _).alloc (Nat.le_refl _) _
  have hone := hr2.one
  go_enter Try.func16, Try.ntmps16
  go_wp2_with (at_builtin; go_must (refine wpList_app _ rfl (.tmp 10) (.tmp 11) 34 rfl w.heap.size 25 Try.underlying34 elemSl (some ⟨w.heap.size, 0, none⟩) 0 0 [] rfl hown0 _ A n c _ rfl hrv hone (by omega) (by simp) ?_); intro A1 c1 w1 hown1 hg1 _)
  have hb1 : Below w.heap.size w w1 := hb0.trans (hown0.belowG hg1 (by simp))
  have hown1' : Own w1 w.heap.size 25 1 A1 n c1 vs := by simpa using hown1
  have hrow1 := hr2.below hb1
  clear hown1 hone hrv hown0
  obtain ⟨ad, r1, m1, d1, a, rfl, hadl, hca0, hma1, hma2, hak, hia0⟩ := hg.at_ (k := j) (by omega)
  obtain ⟨ad', r2, m2, d2, b, had, _, hcb0, hmb1, hmb2, hbk, hib0⟩ := hg.at_ (k := j + 1) (by omega)
  injection had with had
  subst had
  have hca := (hb1.cell (p := ad.add j) (by rw [block_of_add]; exact hadl)).trans hca0
  have hcb := (hb1.cell (p := ad.add (j + 1)) (by rw [block_of_add]; exact hadl)).trans hcb0
  have hia := hia0.below hb1
  have hib := hib0.below hb1
  rw [add_succ] at hcb
  clear hca0 hcb0
  have HAK := Lib.hid hak
  have HBK := Lib.hid hbk
  clear hak hbk
  have hsa : Small a ∧ m1 ≤ 100000 := by
    have h := hr a (List.mem_of_getElem? HAK.out)
    exact ⟨h.2, by have := hia.len; omega⟩
  have hsb : Small b ∧ m2 ≤ 100000 := by
    have h := hr b (List.mem_of_getElem? HBK.out)
    exact ⟨h.2, by have := hib.len; omega⟩
  have HSA := Lib.hid hsa.1
  have HSB := Lib.hid hsb.1
  have hma := hsa.2
  have hmb := hsb.2
  clear hsa hsb
  have hc1 := hown1'.cap
  obtain ⟨g, hA1, hgB, hgl⟩ := hown1'.shape (by omega)
  have hk1 : IntKind.i64.wrap (-(-((j : Int) + 1))) = (j : Int) + 1 := by rw [Int.neg_neg]; exact IntWalk.i64_in _ (by omega)
  subst hA1
  go_wp2_with fail
  go_quiet (fail)
  generalize hW : w1.drewN nq = w2
  have hb2 : Below w1.heap.size w1 w2 := by rw [← hW]; exact below_drewN (Below.refl _ _) _
  have hown2 : Own w2 w.heap.size 25 1 (some ⟨g, 0, none⟩) n c1 vs := hown1'.below hb2
  have hsz2 : w2.heap.size = w1.heap.size := by rw [← hW]; rfl
  have HSZ2 := Lib.hid hsz2
  clear hW hsz2 hca hcb
  have hcell1 : ∃ v, w2.cell? ⟨g, j, none⟩ = some v := by
    rw [hown2.cellAt (by omega)]
    exact ⟨_, List.getElem?_eq_getElem (by have := hr1.1; omega)⟩
  obtain ⟨v1, hcell1⟩ := hcell1
  have hfr1 := hown2.frozenAt j
  have hown3 := hown2.stored j (.slice r2 m2 d2)
  have hb3 := hown2.stored_below j (.slice r2 m2 d2)
  go_wp2_with fail
  generalize hW3 : w2.setCell ⟨g, j, none⟩ (.slice r2 m2 d2) = w3 at hown3 hb3 ⊢
  have HW3 := Lib.hid hW3
  have hs23 : w3.heap.size = w2.heap.size := by rw [← hW3]; simp [World.setCell]
  have HS23 := Lib.hid hs23
  clear hW3 hs23 hcell1 hfr1
  have hbw3 : Below w.heap.size w w3 := (hb1.trans (hb2.mono hb1.size)).trans hb3
  have hia3 := hia0.below hbw3
  have hib3 := hib0.below hbw3
  have HBK3 := Lib.hid (back_any r2 m2 d2 b w3 hib3 (by omega) HSB.out)
  refine HBK3.out.mono ?_
  rintro e w5 ⟨A5, c5, rfl, hown5, hb5⟩
  have hs35 := hb5.size
  have hia5 := hia3.below hb5
  have hib5 := hib3.below hb5
  go_wp2_with (first
    | (at_builtin; refine wpList_appB w5 rfl (.tmp 63) (.tmp 64) 25 rfl w3.heap.size 3 Try.underlying25 elemInt A5 m2 c5 _ rfl hown5 r1 m1 d1 _ rfl hia5 (iv_one _ _) (by omega) (by omega) ?_; intro A6 c6 w6 hown6 hb6; have hib6 := hib3.below (hb5.trans hb6); have hs36 := (hb5.trans hb6).size)
    | (at_builtin; refine wpList_appB _ rfl (.tmp 65) (.tmp 66) 25 rfl w3.heap.size 3 Try.underlying25 elemInt A6 (m2 + m1) c6 _ rfl hown6 r2 m2 d2 _ rfl hib6 (iv_one _ _) (by omega) (by omega) ?_; intro A7 c7 w7 hown7 hb7))
  have hi7 : Ints .i64 w7 A7 (m2 + m1 + m2) (inv b ++ a ++ b) := by
    have := hown7.reads
    rw [← iv_append, ← iv_append] at this
    exact this
  have hsm : Small (inv b ++ a ++ b) := by
    intro z hz
    rcases List.mem_append.1 hz with h | h
    · rcases List.mem_append.1 h with h | h
      · simp only [inv, List.mem_reverse, List.mem_map] at h
        obtain ⟨y, hy, rfl⟩ := h
        have := HSB.out y hy
        omega
      · exact HSA.out z h
    · exact HSB.out z h
  have HRD := Lib.hid (reduced_any A7 (m2 + m1 + m2) c7 _ w7 hi7 (by omega) hsm)
  clear hsm
  have hs67 := hb7.size
  refine HRD.out.mono ?_
  rintro e w8 ⟨A8, k8, c8, rfl, hi8, hc8a, hc8b, hd8, hb8⟩
  have hb38 : Below w3.heap.size w3 w8 := (hb5.trans hb6).trans (hb7.trans (hb8.mono (by omega)))
  have hown8 := hown3.below hb38
  have hcell2 : ∃ v, w8.cell? ⟨g, j + 1, none⟩ = some v := by
    rw [hown8.cellAt (by omega)]
    exact ⟨_, List.getElem?_eq_getElem (by have := hr1.1; simp; omega)⟩
  obtain ⟨v2, hcell2⟩ := hcell2
  have hfr2 := hown8.frozenAt (j + 1)
  have HOWN9 := Lib.hid (hown8.stored (j + 1) (.slice A8 k8 c8))
  have HB9 := Lib.hid (hown8.stored_below (j + 1) (.slice A8 k8 c8))
  go_wp2_with fail
  go_ret
  have hw3s : w.heap.size ≤ w3.heap.size := hbw3.size
  have hbw8 : Below w.heap.size w w8 := hbw3.trans (hb38.mono hw3s)
  have hbw9 := hbw8.trans HB9.out
  have hi9 := hi8.far (p := ⟨g, j + 1, none⟩) (fun q hq => by have := hd8 q hq; have := HSZ2.out; have := HS23.out; intro e; simp at e; omega) (.slice A8 k8 c8)
  have hrows := ((hr2.below hbw9).set_ j ⟨r2, m2, d2, rfl, hmb1, hmb2, hib0.below hbw9⟩).set_ (j + 1) ⟨A8, k8, c8, rfl, hc8a, hc8b, hi9⟩
  refine ⟨_, c1, rfl, ?_, hbw9⟩
  have e : imageL ls (-((j : Int) + 1)) = (ls.set j b).set (j + 1) (redL (inv b ++ a ++ b)) := by
    unfold imageL
    rw [if_neg (by omega), show (-(-((j : Int) + 1))).toNat = j + 1 by omega, Nat.add_sub_cancel, List.getD_eq_getElem?_getD, List.getD_eq_getElem?_getD, HAK.out, HBK.out]
    rfl
  rw [e]
  exact Grid.own HOWN9.out hrows

end Go.Proofs.Ytgebiffponbmlaa
