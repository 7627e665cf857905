/-
  The law WordsFollow, walked: it returns true for every number and every slice of numbers. No conditions beyond what the row's reading gives.
-/
import Derived.Test.YtgebiffponbmlaaLawReduce
namespace Go.Proofs.Ytgebiffponbmlaa
open Go.RowKit

/-- Where the strands are behind the letters. -/
def strands (n : Nat) (l : List Int) : List Int := l.foldl (fun a k => swapAt a (placeOf k)) (ids n)
theorem followL_snd {σ : Type} (step : σ → Int → Int → Int → σ) (s : σ) (n : Nat) (l : List Int) : (followL step s n l).2 = strands n l := by
  have key : ∀ (l : List Int) (s : σ × List Int), (l.foldl (followStep step) s).2 = l.foldl (fun a k => swapAt a (placeOf k)) s.2 := by
    intro l
    induction l with
    | nil => intro s; rfl
    | cons x l ih => intro s; simp only [List.foldl_cons]; rw [ih]; rfl
  exact key l _
theorem full_strands (n : Nat) (l : List Int) (h : ∀ k ∈ l, k ≠ 0 ∧ -(n : Int) < k ∧ k < n) : Full n (strands n l) := by
  have := full_follow (fun (_ : Unit) _ _ _ => ()) () n l h
  rwa [followL_snd] at this
/-- The way back of the strands: at a strand's place stands its first place. -/
theorem backL_at {n : Nat} {p : List Int} (h : Full n p) {i : Nat} (hi : i < n) {x : Int} (hx : p[i]? = some x) : (backL p)[x.toNat - 1]? = some ((i : Int) + 1) := by
  have hl := h.1.1
  have key : ∀ k, k ≤ n → i < k → (backTo p n k)[x.toNat - 1]? = some ((i : Int) + 1) := by
    intro k
    induction k with
    | zero => intro _ h0; omega
    | succ k ih =>
      intro hk hik
      rw [backTo_succ, List.getElem?_set]
      have hxr := h.1.2 x (List.mem_of_getElem? hx)
      rcases Nat.lt_or_ge i k with hlt | hge
      · have hy : p[k]? = some (p[k]'(by omega)) := by simp
        rw [List.getD_eq_getElem?_getD, hy, Option.getD_some]
        have hyr := h.1.2 (p[k]'(by omega)) (List.getElem_mem _)
        rw [if_neg]
        · exact ih (by omega) hlt
        · intro e
          have e2 : x = p[k]'(by omega) := by omega
          have := h.2.2 i k hi (by omega) (by rw [hx, hy, e2])
          omega
      · have e : i = k := by omega
        subst e
        rw [List.getD_eq_getElem?_getD, hx, Option.getD_some, if_pos rfl, if_pos (by rw [backTo_length]; omega)]
  unfold backL
  rw [hl]
  exact key n (Nat.le_refl _) hi

/-- A square of numbers in an array of 8 rows of 8. -/
structure LArr (n : Nat) (L : List Int) (M : List (List Int)) (B : Nat) : Prop where
  len : L.length = 64
  mlen : M.length = n
  rows : ∀ (i : Nat) (row : List Int), M[i]? = some row → row.length = n
  get : ∀ (i j : Nat) (row : List Int) (v : Int), M[i]? = some row → row[j]? = some v → L[i * 8 + j]? = some v ∧ -(B : Int) ≤ v ∧ v ≤ B
theorem LArr.at_ {n B : Nat} {L : List Int} {M : List (List Int)} (h : LArr n L M B) {i j : Nat} (hi : i < n) (hj : j < n) : ∃ row v, M[i]? = some row ∧ row[j]? = some v ∧ L[i * 8 + j]? = some v ∧ -(B : Int) ≤ v ∧ v ≤ B := by
  have hr : M[i]? = some (M[i]'(by have := h.mlen; omega)) := by simp
  generalize M[i]'(by have := h.mlen; omega) = row at hr
  have hl := h.rows i row hr
  have hv : row[j]? = some (row[j]'(by omega)) := by simp
  generalize row[j]'(by omega) = v at hv
  exact ⟨row, v, hr, hv, h.get i j row v hr hv⟩
theorem LArr.step {n B : Nat} {L : List Int} {M : List (List Int)} (h : LArr n L M B) (hn : n ≤ 8) {a b : Nat} (ha : a < n) (hb : b < n) {v sg : Int} (hv : L[a * 8 + b]? = some v) (hs : -1 ≤ sg ∧ sg ≤ 1) :
    LArr n (L.set (a * 8 + b) (v + sg)) (addAt M a b sg) (B + 1) := by
  obtain ⟨row, v', hr, hv', hL, hb1, hb2⟩ := h.at_ ha hb
  rw [hv] at hL
  injection hL with hL
  subst hL
  have e : addAt M a b sg = M.set a (row.set b (v + sg)) := by
    unfold addAt
    rw [List.getD_eq_getElem?_getD, hr, Option.getD_some, List.getD_eq_getElem?_getD, hv', Option.getD_some]
  rw [e]
  refine ⟨by simp [h.len], by simp [h.mlen], fun i r hi => ?_, fun i j r u hi hj => ?_⟩
  · rw [List.getElem?_set] at hi
    by_cases hai : a = i
    · subst hai
      rw [if_pos rfl, if_pos (by have := h.mlen; omega)] at hi
      cases hi
      rw [List.length_set]; exact h.rows a row hr
    · rw [if_neg hai] at hi; exact h.rows i r hi
  · rw [List.getElem?_set] at hi
    by_cases hai : a = i
    · subst hai
      rw [if_pos rfl, if_pos (by have := h.mlen; omega)] at hi
      cases hi
      rw [List.getElem?_set] at hj
      by_cases hbj : b = j
      · subst hbj
        rw [if_pos rfl, if_pos (by have := h.rows a row hr; omega)] at hj
        cases hj
        rw [List.getElem?_set_self (by have := h.len; omega)]
        exact ⟨rfl, by omega, by omega⟩
      · rw [if_neg hbj] at hj
        rw [List.getElem?_set_ne (by omega)]
        have := h.get a j row u hr hj
        exact ⟨this.1, by omega, by omega⟩
    · rw [if_neg hai] at hi
      have hrl := h.rows i r hi
      have hil : i < n := by have := (List.getElem?_eq_some_iff.1 hi).1; have := h.mlen; omega
      have hjl : j < n := by have := (List.getElem?_eq_some_iff.1 hj).1; omega
      rw [List.getElem?_set_ne (by omega)]
      have := h.get i j r u hi hj
      exact ⟨this.1, by omega, by omega⟩
theorem larr_zero (n : Nat) (hn : n ≤ 8) : LArr n (List.replicate 64 0) (zeros n) 0 := by
  refine ⟨by simp, by simp [zeros], fun i row hi => ?_, fun i j row v hi hj => ?_⟩
  · have := List.mem_of_getElem? hi
    rw [List.eq_of_mem_replicate this]; simp
  · have h1 := List.mem_of_getElem? hi
    have hil : i < n := by have := (List.getElem?_eq_some_iff.1 hi).1; simpa [zeros] using this
    have h2 := List.eq_of_mem_replicate h1
    subst h2
    have h3 := List.eq_of_mem_replicate (List.mem_of_getElem? hj)
    have hjl : j < n := by have := (List.getElem?_eq_some_iff.1 hj).1; simpa using this
    subst h3
    rw [List.getElem?_replicate, if_pos (by omega)]
    simp

theorem letter_cases' {n x : Int} (h : x ≠ 0 ∧ -n < x ∧ x < n) : ∃ k : Nat, (k : Int) + 1 < n ∧ (x = (k : Int) + 1 ∨ x = -((k : Int) + 1)) := by
  rcases (show 0 < x ∨ x < 0 by omega) with h0 | h0
  · exact ⟨(x - 1).toNat, by omega, .inl (by omega)⟩
  · exact ⟨(-x - 1).toNat, by omega, .inr (by omega)⟩
def at0 (n : Nat) (l : List Int) : List Int := (strands n l).map (fun x => x - 1)
def idsTo (n k : Nat) : List Int := ((List.range k).map fun (i : Nat) => (i : Int)) ++ List.replicate (n - k) 0
theorem idsTo_set (n k : Nat) (hk : k < n) : (idsTo n k).set k (k : Int) = idsTo n (k + 1) := by
  unfold idsTo
  rw [List.set_append_right _ _ (by simp), show n - k = (n - (k + 1)) + 1 by omega, List.replicate_succ, List.range_succ]
  simp
theorem idsTo_length (n k : Nat) (hk : k ≤ n) : (idsTo n k).length = n := by simp [idsTo]; omega
theorem idsTo_end (n : Nat) : idsTo n n = at0 n [] := by simp [idsTo, at0, strands, ids]

set_option maxRecDepth 100000 in
set_option maxHeartbeats 4000000 in
theorem law_follow (n0 : Int) (A : Option Addr) (m c : Nat) (xs : List Int) (w : World) (h0 : 0 ≤ n0) (h1 : n0 ≤ 255) (hx : Ints .u8 w A m xs) (hm : m ≤ 9223372036854775807) (hr : ∀ x ∈ xs, 0 ≤ x ∧ x ≤ 255) :
    Calls Try.prog 5 #[.int .u8 n0, .slice A m c] w fun e w' => e = .returned (.bool true) ∧ Below w.heap.size w w' := by
  obtain ⟨n, hn⟩ : ∃ n : Nat, (n : Int) = 1 + n0 % 6 := ⟨(1 + n0 % 6).toNat, by omega⟩
  have hn1 : 1 ≤ n := by omega
  have hn2 : n ≤ 6 := by omega
  have HN := Lib.hid hn
  clear hn
  have HX := Lib.hid hr
  clear hr
  have hmk := fun W => run_make_block (P := Try.prog) 25 3 Try.underlying25 elemIntZ rfl .i64 .i64 n (by omega) W
  generalize hZ : (List.replicate n (Value.int .i64 0)).toArray = Z at hmk
  have HZ := Lib.hid hZ
  clear hZ
  go_enter Try.func5, Try.ntmps5
  go_wp2_with fail
  refine (strands_any n0 w h0 h1).mono ?_
  rintro e wz ⟨rfl, rfl⟩
  rw [← HN.out]
  go_wp2_with fail
  refine (of_any A m c xs n w (by omega) (by omega) hx hm HX.out).mono ?_
  rintro e w1 ⟨A1, N, c1, rfl, hown1, hb1⟩
  have hwd := wordOf_wd (n := (n : Int)) (by omega) xs HX.out
  have hl24 := wordOf_length n xs
  generalize wordOf n xs = l at *
  have hi := hown1.ints
  have hN : N ≤ 24 := by have := hi.len; omega
  have hcap := hown1.cap
  have HWD := Lib.hid hwd
  have hlen := Lib.hid hi.len
  have hB := hb1
  clear hwd hb1 hown1 hl24
  go_wp2_with fail
  refine (permutation_any n A1 N c1 l w1 hi hn1 (by omega) HWD.out).mono ?_
  rintro e w2 ⟨A2, rfl, h2, hq2⟩
  replace hi := hi.below hq2
  replace hB := hB.trans (hq2.mono hB.size)
  clear hq2
  go_wp2_with fail
  refine (sum_any n A1 N c1 l w2 hi (by omega) (by omega) HWD.out).mono ?_
  rintro e w3 ⟨rfl, hq3⟩
  replace hi := hi.below hq3
  replace h2 := h2.below hq3
  replace hB := hB.trans (hq3.mono hB.size)
  clear hq3
  go_wp2_with fail
  refine (links_any n A1 N c1 l w3 hi hn1 (by omega) HWD.out).mono ?_
  rintro e w4 ⟨A4, rfl, h4, h4r, hq4⟩
  replace hi := hi.below hq4
  replace h2 := h2.below hq4
  replace hB := hB.trans (hq4.mono hB.size)
  have H4R := Lib.hid h4r
  clear hq4 h4r
  go_wp2_with fail
  have hbk : Blk (w4.alloc (.cells Z 3)) w4.heap.size 3 (iv .i64 (idsTo n 0)) := by
    have := Blk.new w4 3 (List.replicate n (.int .i64 0))
    rw [HZ.out] at this
    simpa [idsTo, iv] using this
  have hbz : Below w4.heap.size w4 (w4.alloc (.cells Z 3)) := (Below.refl _ _).alloc (Nat.le_refl _) _
  have hsz5 : w4.heap.size < (w4.alloc (.cells Z 3)).heap.size := by simp
  generalize w4.alloc (.cells Z 3) = w5 at *
  go_loopw [14] (fun i wr => ∃ (k : Nat), k ≤ n ∧ i = .int .i64 k ∧ Blk wr w4.heap.size 3 (iv .i64 (idsTo n k)) ∧ Below w4.heap.size w4 wr) (fun i _ => n - (intOf i).toNat)
  case atStart => exact ⟨0, by omega, rfl, hbk, hbz⟩
  case round =>
    clear hbk hbz hsz5
    obtain ⟨k, hk, rfl, hbk, hbel⟩ := hrel
    rcases Nat.lt_or_ge k n with hlt | hge
    · have hcell : ∃ v, wr.cell? ⟨w4.heap.size, k, none⟩ = some v := by
        rw [hbk.cell]; exact ⟨_, List.getElem?_eq_getElem (by rw [iv_length, idsTo_length n k hk]; omega)⟩
      obtain ⟨v, hcell⟩ := hcell
      have hfr := hbk.frozen k
      have hst := hbk.set_ k (.int .i64 (k : Int))
      rw [← iv_set, idsTo_set n k hlt] at hst
      have HST := Lib.hid hst
      have HB5 := Lib.hid (hbel.setCell (p := ⟨w4.heap.size, k, none⟩) (Nat.le_refl _) (.int .i64 (k : Int)))
      clear hst
      go_wp2
      go_roundw
      case rel => exact ⟨k + 1, by omega, by go_num, HST.out, HB5.out⟩
      case measure => simp [intOf]; omega
    · obtain rfl : k = n := by omega
      rw [idsTo_end] at hbk
      have hdq : decide ((k : Int) < (k : Int)) = false := by simp
      go_wp2_with fail
      generalize hW6 : wr.alloc _ = w6
      have hbl : Blk w6 wr.heap.size 44 (iv .i64 (List.replicate 64 0)) := by rw [← hW6]; exact Blk.new wr 44 (iv .i64 (List.replicate 64 0))
      have hb56 : Below wr.heap.size wr w6 := by rw [← hW6]; exact (Below.refl _ _).alloc (Nat.le_refl _) _
      clear hW6
      have hbk6 : Blk w6 w4.heap.size 3 (iv .i64 (at0 k [])) := hbk.below hb56 hbk.lt
      have hgl : w4.heap.size < wr.heap.size := hbk.lt
      have hbel6 := hbel.trans (hb56.mono (by omega))
      have hlarr := larr_zero k (by omega)
      generalize wr.heap.size = gl at *
      clear hbk hbel hb56
      go_loopw [16, 17] (fun s i wr => ∃ (q : Nat) (L : List Int), q ≤ N ∧ i = .int .i64 q ∧ s = .int .i64 (sumL (l.take q)) ∧ Blk wr w4.heap.size 3 (iv .i64 (at0 k (l.take q))) ∧ Blk wr gl 44 (iv .i64 L) ∧ Hid (LArr k L (followL linkStep (zeros k) k (l.take q)).1 (2 * q)) ∧ Below w4.heap.size w4 wr) (fun _ i _ => N - (intOf i).toNat)
      case atStart => exact ⟨0, _, by omega, rfl, by simp [sumL], by simpa using hbk6, hbl, Lib.hid (by simpa [followL] using hlarr), hbel6⟩
      case round =>
        clear hbl hbk6 hbel6 hlarr
        obtain ⟨q, L, hq, rfl, rfl, hbk, hbl, HLA, hbel⟩ := hrel
        have hsb := sumL_bound (l.take q)
        have hlq : (l.take q).length ≤ 24 := by rw [List.length_take]; omega
        rcases Nat.lt_or_ge q N with hlt | hge2
        · obtain ⟨ad, rfl, hadl, x, hxk, hc0⟩ := hi.at_ hlt
          have hcx := (hbel.cell (p := ad.add q) (by rw [block_of_add]; exact hadl)).trans hc0
          clear hc0
          have hxw := HWD.out.2 x (List.mem_of_getElem? hxk)
          have e1 : l.take (q + 1) = l.take q ++ [x] := by rw [List.take_add_one, hxk]; rfl
          have hfull := full_strands k (l.take q) (fun y hy => HWD.out.2 y (List.mem_of_mem_take hy))
          have esum : sumL (l.take (q + 1)) = sumL (l.take q) + signOf x := by rw [e1, sumL_snoc]
          have efl : (followL linkStep (zeros k) k (l.take (q + 1))).1 = (followStep linkStep (followL linkStep (zeros k) k (l.take q)) x).1 := by rw [e1, followL_snoc]
          have est : strands k (l.take (q + 1)) = swapAt (strands k (l.take q)) (placeOf x) := by
            have h := followL_snd linkStep (zeros k) k (l.take (q + 1))
            rw [← h, e1, followL_snoc, ← followL_snd linkStep (zeros k) k (l.take q)]
            rfl
          have hsnd := followL_snd linkStep (zeros k) k (l.take q)
          obtain ⟨j, hj, hx⟩ := letter_cases' hxw
          have hjk : j + 1 < k := by omega
          have hpl : placeOf x = j := by rcases hx with rfl | rfl <;> (unfold placeOf; split <;> omega)
          have hst1 : (strands k (l.take q))[j]? = some ((strands k (l.take q))[j]'(by have := hfull.1.1; omega)) := by simp
          have hst2 : (strands k (l.take q))[j + 1]? = some ((strands k (l.take q))[j + 1]'(by have := hfull.1.1; omega)) := by simp
          generalize (strands k (l.take q))[j]'(by have := hfull.1.1; omega) = a1 at hst1
          generalize (strands k (l.take q))[j + 1]'(by have := hfull.1.1; omega) = b1 at hst2
          have ha1 := hfull.1.2 a1 (List.mem_of_getElem? hst1)
          have hb1 := hfull.1.2 b1 (List.mem_of_getElem? hst2)
          obtain ⟨a, rfl⟩ : ∃ a : Nat, a1 = (a : Int) + 1 := ⟨(a1 - 1).toNat, by omega⟩
          obtain ⟨b, rfl⟩ : ∃ b : Nat, b1 = (b : Int) + 1 := ⟨(b1 - 1).toNat, by omega⟩
          have hak : a < k := by omega
          have hbk' : b < k := by omega
          rcases hx with rfl | rfl
          · skip
            have hsg : signOf ((j : Int) + 1) = 1 := by unfold signOf; rw [if_neg (by omega)]
            rw [hsg] at esum
            obtain ⟨row1, v1, hr1, hv1, hL1, hv1a, hv1b⟩ := HLA.out.at_ hak hbk'
            have hla1 := HLA.out.step (by omega) hak hbk' (sg := 1) hL1 (by omega)
            obtain ⟨row2, v2, hr2, hv2, hL2, hv2a, hv2b⟩ := hla1.at_ hbk' hak
            have hla2 := hla1.step (by omega) hbk' hak (sg := 1) hL2 (by omega)
            have hM : (followL linkStep (zeros k) k (l.take (q + 1))).1 = addAt (addAt (followL linkStep (zeros k) k (l.take q)).1 a b (1)) b a (1) := by
              rw [efl]
              unfold followStep
              rw [hsnd, hpl, hsg, List.getD_eq_getElem?_getD, List.getD_eq_getElem?_getD, hst1, hst2]
              simp only [Option.getD_some]
              unfold linkStep
              rw [show ((a : Int) + 1 - 1).toNat = a by omega, show ((b : Int) + 1 - 1).toNat = b by omega]
            have hat : at0 k (l.take (q + 1)) = ((at0 k (l.take q)).set j (b : Int)).set (j + 1) (a : Int) := by
              unfold at0
              rw [est, hpl]
              unfold swapAt
              rw [List.getD_eq_getElem?_getD, List.getD_eq_getElem?_getD, hst1, hst2]
              simp [List.map_set]
            have hca : wr.cell? ⟨w4.heap.size, j, none⟩ = some (.int .i64 (a : Int)) := by rw [hbk.cell]; simp [iv, at0, hst1]
            have hcb : wr.cell? ⟨w4.heap.size, j + 1, none⟩ = some (.int .i64 (b : Int)) := by rw [hbk.cell]; simp [iv, at0, hst2]
            have hcv : wr.cell? ⟨gl, a * 8 + b, none⟩ = some (.int .i64 v1) := by rw [hbl.cell]; simp [iv, hL1]
            have HM := Lib.hid hM
            have HAT := Lib.hid hat
            have HSUM := Lib.hid esum
            have HLA2 := Lib.hid hla2
            have hsq : -24 ≤ sumL (l.take q) ∧ sumL (l.take q) ≤ 24 := by omega
            generalize sumL (l.take q) = S at *
            have hS1 := hsq.1
            have hS2 := hsq.2
            clear hM hat esum hla2 hla1 hr1 hv1 hr2 hv2 hst1 hst2 efl est e1 hsnd hpl hsg hsq hfull hxk hsb ha1 hb1
            have hj1 : IntKind.i64.wrap ((j : Int) + 1) = (j : Int) + 1 := IntWalk.i64_in _ (by omega)
            have hj5 : (j : Int) + 1 < (k : Int) := by omega
            have hj2 : (0 : Int) ≤ (j : Int) + 1 := by omega
            have hj3 : ((j : Int) + 1).toNat = j + 1 := by omega
            have hj4 : (j : Int) < (k : Int) := by omega
            have hj6 : IntKind.i64.wrap (j : Int) = (j : Int) := IntWalk.i64_in _ (by omega)
            have hj7 : j < k := by omega
            have ha8 : (a : Int) < 8 := by omega
            have hb8 : (b : Int) < 8 := by omega
            have ha9 : a < 8 := by omega
            have hb9 : b < 8 := by omega
            have hv9 : IntKind.i64.wrap (v1 + 1) = v1 + 1 := IntWalk.i64_in _ (by omega)
            have hv10 : IntKind.i64.wrap (v2 + 1) = v2 + 1 := IntWalk.i64_in _ (by omega)
            have HL2 := Lib.hid hL2
            clear hL1 hL2
            go_wp2_with fail
            go_still_tail 16, (by kernel_rfl)
            change wpList _ _ _ _ _ wr.drew
            have hbk6 : Blk wr.drew w4.heap.size 3 (iv .i64 (at0 k (l.take q))) := hbk.drew
            have hbl6 : Blk wr.drew gl 44 (iv .i64 L) := hbl.drew
            have hbel6 := hbel.drew
            generalize wr.drew = w6 at hbk6 hbl6 hbel6 ⊢
            have hcv6 : w6.cell? ⟨gl, a * 8 + b, none⟩ = some (.int .i64 v1) := by rw [hbl6.cell, ← hbl.cell]; exact hcv
            have hfv6 := hbl6.frozen (a * 8 + b)
            have hbl7 := hbl6.set_ (a * 8 + b) (.int .i64 (v1 + 1))
            rw [← iv_set] at hbl7
            have hbk7 := hbk6.far (p := ⟨gl, a * 8 + b, none⟩) (by simp; omega) (.int .i64 (v1 + 1))
            have hbel7 := hbel6.setCell (p := ⟨gl, a * 8 + b, none⟩) (by simp; omega) (.int .i64 (v1 + 1))
            have hca6 : w6.cell? ⟨w4.heap.size, j, none⟩ = some (.int .i64 (a : Int)) := by rw [hbk6.cell, ← hbk.cell]; exact hca
            have hcb6 : w6.cell? ⟨w4.heap.size, j + 1, none⟩ = some (.int .i64 (b : Int)) := by rw [hbk6.cell, ← hbk.cell]; exact hcb
            clear hca hcb hcv hbk hbl
            go_wp2_with fail
            have hca7 : (w6.setCell ⟨gl, a * 8 + b, none⟩ (.int .i64 (v1 + 1))).cell? ⟨w4.heap.size, j, none⟩ = some (.int .i64 (a : Int)) := by rw [hbk7.cell, ← hbk6.cell]; exact hca6
            have hcb7 : (w6.setCell ⟨gl, a * 8 + b, none⟩ (.int .i64 (v1 + 1))).cell? ⟨w4.heap.size, j + 1, none⟩ = some (.int .i64 (b : Int)) := by rw [hbk7.cell, ← hbk6.cell]; exact hcb6
            have hcv7 : (w6.setCell ⟨gl, a * 8 + b, none⟩ (.int .i64 (v1 + 1))).cell? ⟨gl, b * 8 + a, none⟩ = some (.int .i64 v2) := by rw [hbl7.cell]; simp only [iv, List.getElem?_map, HL2.out]; rfl
            generalize w6.setCell ⟨gl, a * 8 + b, none⟩ (.int .i64 (v1 + 1)) = w7 at hbl7 hbk7 hbel7 hca7 hcb7 hcv7 ⊢
            clear hbk6 hbl6 hbel6 hcv6 hfv6 hca6 hcb6
            go_still_tail 16, (by kernel_rfl)
            change wpList _ _ _ _ _ w7.drew
            have hbk8 : Blk w7.drew w4.heap.size 3 (iv .i64 (at0 k (l.take q))) := hbk7.drew
            have hbl8 := hbl7.drew
            have hbel8 := hbel7.drew
            generalize w7.drew = w8 at hbk8 hbl8 hbel8 ⊢
            have hcv8 : w8.cell? ⟨gl, b * 8 + a, none⟩ = some (.int .i64 v2) := by rw [hbl8.cell, ← hbl7.cell]; exact hcv7
            have hfv8 := hbl8.frozen (b * 8 + a)
            have hbl9 := hbl8.set_ (b * 8 + a) (.int .i64 (v2 + 1))
            rw [← iv_set] at hbl9
            have hbk9 := hbk8.far (p := ⟨gl, b * 8 + a, none⟩) (by simp; omega) (.int .i64 (v2 + 1))
            have hbel9 := hbel8.setCell (p := ⟨gl, b * 8 + a, none⟩) (by simp; omega) (.int .i64 (v2 + 1))
            have hca8 : w8.cell? ⟨w4.heap.size, j, none⟩ = some (.int .i64 (a : Int)) := by rw [hbk8.cell, ← hbk7.cell]; exact hca7
            have hcb8 : w8.cell? ⟨w4.heap.size, j + 1, none⟩ = some (.int .i64 (b : Int)) := by rw [hbk8.cell, ← hbk7.cell]; exact hcb7
            clear hca7 hcb7 hcv7 hbk7 hbl7
            go_wp2_with fail
            have hca9 : (w8.setCell ⟨gl, b * 8 + a, none⟩ (.int .i64 (v2 + 1))).cell? ⟨w4.heap.size, j, none⟩ = some (.int .i64 (a : Int)) := by rw [hbk9.cell, ← hbk8.cell]; exact hca8
            have hcb9 : (w8.setCell ⟨gl, b * 8 + a, none⟩ (.int .i64 (v2 + 1))).cell? ⟨w4.heap.size, j + 1, none⟩ = some (.int .i64 (b : Int)) := by rw [hbk9.cell, ← hbk8.cell]; exact hcb8
            generalize w8.setCell ⟨gl, b * 8 + a, none⟩ (.int .i64 (v2 + 1)) = w9 at hbl9 hbk9 hbel9 hca9 hcb9 ⊢
            clear hbk8 hbl8 hbel8 hcv8 hfv8 hca8 hcb8
            have hfa := hbk9.frozen j
            have hfb := hbk9.frozen (j + 1)
            have hbk10 := ((hbk9.set_ j (.int .i64 (b : Int))).set_ (j + 1) (.int .i64 (a : Int))).drew
            rw [← iv_set, ← iv_set, ← HAT.out] at hbk10
            have hbl10 := ((hbl9.far (p := ⟨w4.heap.size, j, none⟩) (by simp; omega) (.int .i64 (b : Int))).far (p := ⟨w4.heap.size, j + 1, none⟩) (by simp; omega) (.int .i64 (a : Int))).drew
            have hbel10 := ((hbel9.setCell (p := ⟨w4.heap.size, j, none⟩) (Nat.le_refl _) (.int .i64 (b : Int))).setCell (p := ⟨w4.heap.size, j + 1, none⟩) (Nat.le_refl _) (.int .i64 (a : Int))).drew
            have HBK10 := Lib.hid hbk10
            have HBL10 := Lib.hid hbl10
            have HBEL10 := Lib.hid hbel10
            clear hbk10 hbl10 hbel10 hbk9 hbl9 hbel9 hv9 hv10
            go_region
            go_wp2
            go_roundw
            case rel => exact ⟨q + 1, _, by omega, by go_num, by rw [HSUM.out], HBK10.out, HBL10.out, Lib.hid (by rw [HM.out]; have := HLA2.out; rw [show 2 * (q + 1) = 2 * q + 1 + 1 by omega]; exact this), HBEL10.out⟩
            case measure => simp [intOf]; omega
          · skip
            have hsg : signOf (-((j : Int) + 1)) = -1 := by unfold signOf; rw [if_pos (by omega)]
            rw [hsg] at esum
            obtain ⟨row1, v1, hr1, hv1, hL1, hv1a, hv1b⟩ := HLA.out.at_ hak hbk'
            have hla1 := HLA.out.step (by omega) hak hbk' (sg := -1) hL1 (by omega)
            obtain ⟨row2, v2, hr2, hv2, hL2, hv2a, hv2b⟩ := hla1.at_ hbk' hak
            have hla2 := hla1.step (by omega) hbk' hak (sg := -1) hL2 (by omega)
            have hM : (followL linkStep (zeros k) k (l.take (q + 1))).1 = addAt (addAt (followL linkStep (zeros k) k (l.take q)).1 a b (-1)) b a (-1) := by
              rw [efl]
              unfold followStep
              rw [hsnd, hpl, hsg, List.getD_eq_getElem?_getD, List.getD_eq_getElem?_getD, hst1, hst2]
              simp only [Option.getD_some]
              unfold linkStep
              rw [show ((a : Int) + 1 - 1).toNat = a by omega, show ((b : Int) + 1 - 1).toNat = b by omega]
            have hat : at0 k (l.take (q + 1)) = ((at0 k (l.take q)).set j (b : Int)).set (j + 1) (a : Int) := by
              unfold at0
              rw [est, hpl]
              unfold swapAt
              rw [List.getD_eq_getElem?_getD, List.getD_eq_getElem?_getD, hst1, hst2]
              simp [List.map_set]
            have hca : wr.cell? ⟨w4.heap.size, j, none⟩ = some (.int .i64 (a : Int)) := by rw [hbk.cell]; simp [iv, at0, hst1]
            have hcb : wr.cell? ⟨w4.heap.size, j + 1, none⟩ = some (.int .i64 (b : Int)) := by rw [hbk.cell]; simp [iv, at0, hst2]
            have hcv : wr.cell? ⟨gl, a * 8 + b, none⟩ = some (.int .i64 v1) := by rw [hbl.cell]; simp [iv, hL1]
            have HM := Lib.hid hM
            have HAT := Lib.hid hat
            have HSUM := Lib.hid esum
            have HLA2 := Lib.hid hla2
            have hsq : -24 ≤ sumL (l.take q) ∧ sumL (l.take q) ≤ 24 := by omega
            generalize sumL (l.take q) = S at *
            have hS1 := hsq.1
            have hS2 := hsq.2
            clear hM hat esum hla2 hla1 hr1 hv1 hr2 hv2 hst1 hst2 efl est e1 hsnd hpl hsg hsq hfull hxk hsb ha1 hb1
            have hj1 : IntKind.i64.wrap ((j : Int) + 1) = (j : Int) + 1 := IntWalk.i64_in _ (by omega)
            have hj5 : (j : Int) + 1 < (k : Int) := by omega
            have hj2 : (0 : Int) ≤ (j : Int) + 1 := by omega
            have hj3 : ((j : Int) + 1).toNat = j + 1 := by omega
            have hj4 : (j : Int) < (k : Int) := by omega
            have hj6 : IntKind.i64.wrap (j : Int) = (j : Int) := IntWalk.i64_in _ (by omega)
            have hj7 : j < k := by omega
            have ha8 : (a : Int) < 8 := by omega
            have hb8 : (b : Int) < 8 := by omega
            have ha9 : a < 8 := by omega
            have hb9 : b < 8 := by omega
            have hv9 : IntKind.i64.wrap (v1 + (-1)) = v1 + (-1) := IntWalk.i64_in _ (by omega)
            have hv10 : IntKind.i64.wrap (v2 + (-1)) = v2 + (-1) := IntWalk.i64_in _ (by omega)
            have HL2 := Lib.hid hL2
            clear hL1 hL2
            go_wp2_with fail
            go_still_tail 16, (by kernel_rfl)
            change wpList _ _ _ _ _ wr.drew
            have hbk6 : Blk wr.drew w4.heap.size 3 (iv .i64 (at0 k (l.take q))) := hbk.drew
            have hbl6 : Blk wr.drew gl 44 (iv .i64 L) := hbl.drew
            have hbel6 := hbel.drew
            generalize wr.drew = w6 at hbk6 hbl6 hbel6 ⊢
            have hcv6 : w6.cell? ⟨gl, a * 8 + b, none⟩ = some (.int .i64 v1) := by rw [hbl6.cell, ← hbl.cell]; exact hcv
            have hfv6 := hbl6.frozen (a * 8 + b)
            have hbl7 := hbl6.set_ (a * 8 + b) (.int .i64 (v1 + (-1)))
            rw [← iv_set] at hbl7
            have hbk7 := hbk6.far (p := ⟨gl, a * 8 + b, none⟩) (by simp; omega) (.int .i64 (v1 + (-1)))
            have hbel7 := hbel6.setCell (p := ⟨gl, a * 8 + b, none⟩) (by simp; omega) (.int .i64 (v1 + (-1)))
            have hca6 : w6.cell? ⟨w4.heap.size, j, none⟩ = some (.int .i64 (a : Int)) := by rw [hbk6.cell, ← hbk.cell]; exact hca
            have hcb6 : w6.cell? ⟨w4.heap.size, j + 1, none⟩ = some (.int .i64 (b : Int)) := by rw [hbk6.cell, ← hbk.cell]; exact hcb
            clear hca hcb hcv hbk hbl
            go_wp2_with fail
            have hca7 : (w6.setCell ⟨gl, a * 8 + b, none⟩ (.int .i64 (v1 + (-1)))).cell? ⟨w4.heap.size, j, none⟩ = some (.int .i64 (a : Int)) := by rw [hbk7.cell, ← hbk6.cell]; exact hca6
            have hcb7 : (w6.setCell ⟨gl, a * 8 + b, none⟩ (.int .i64 (v1 + (-1)))).cell? ⟨w4.heap.size, j + 1, none⟩ = some (.int .i64 (b : Int)) := by rw [hbk7.cell, ← hbk6.cell]; exact hcb6
            have hcv7 : (w6.setCell ⟨gl, a * 8 + b, none⟩ (.int .i64 (v1 + (-1)))).cell? ⟨gl, b * 8 + a, none⟩ = some (.int .i64 v2) := by rw [hbl7.cell]; simp only [iv, List.getElem?_map, HL2.out]; rfl
            generalize w6.setCell ⟨gl, a * 8 + b, none⟩ (.int .i64 (v1 + (-1))) = w7 at hbl7 hbk7 hbel7 hca7 hcb7 hcv7 ⊢
            clear hbk6 hbl6 hbel6 hcv6 hfv6 hca6 hcb6
            go_still_tail 16, (by kernel_rfl)
            change wpList _ _ _ _ _ w7.drew
            have hbk8 : Blk w7.drew w4.heap.size 3 (iv .i64 (at0 k (l.take q))) := hbk7.drew
            have hbl8 := hbl7.drew
            have hbel8 := hbel7.drew
            generalize w7.drew = w8 at hbk8 hbl8 hbel8 ⊢
            have hcv8 : w8.cell? ⟨gl, b * 8 + a, none⟩ = some (.int .i64 v2) := by rw [hbl8.cell, ← hbl7.cell]; exact hcv7
            have hfv8 := hbl8.frozen (b * 8 + a)
            have hbl9 := hbl8.set_ (b * 8 + a) (.int .i64 (v2 + (-1)))
            rw [← iv_set] at hbl9
            have hbk9 := hbk8.far (p := ⟨gl, b * 8 + a, none⟩) (by simp; omega) (.int .i64 (v2 + (-1)))
            have hbel9 := hbel8.setCell (p := ⟨gl, b * 8 + a, none⟩) (by simp; omega) (.int .i64 (v2 + (-1)))
            have hca8 : w8.cell? ⟨w4.heap.size, j, none⟩ = some (.int .i64 (a : Int)) := by rw [hbk8.cell, ← hbk7.cell]; exact hca7
            have hcb8 : w8.cell? ⟨w4.heap.size, j + 1, none⟩ = some (.int .i64 (b : Int)) := by rw [hbk8.cell, ← hbk7.cell]; exact hcb7
            clear hca7 hcb7 hcv7 hbk7 hbl7
            go_wp2_with fail
            have hca9 : (w8.setCell ⟨gl, b * 8 + a, none⟩ (.int .i64 (v2 + (-1)))).cell? ⟨w4.heap.size, j, none⟩ = some (.int .i64 (a : Int)) := by rw [hbk9.cell, ← hbk8.cell]; exact hca8
            have hcb9 : (w8.setCell ⟨gl, b * 8 + a, none⟩ (.int .i64 (v2 + (-1)))).cell? ⟨w4.heap.size, j + 1, none⟩ = some (.int .i64 (b : Int)) := by rw [hbk9.cell, ← hbk8.cell]; exact hcb8
            generalize w8.setCell ⟨gl, b * 8 + a, none⟩ (.int .i64 (v2 + (-1))) = w9 at hbl9 hbk9 hbel9 hca9 hcb9 ⊢
            clear hbk8 hbl8 hbel8 hcv8 hfv8 hca8 hcb8
            have hfa := hbk9.frozen j
            have hfb := hbk9.frozen (j + 1)
            have hbk10 := ((hbk9.set_ j (.int .i64 (b : Int))).set_ (j + 1) (.int .i64 (a : Int))).drew
            rw [← iv_set, ← iv_set, ← HAT.out] at hbk10
            have hbl10 := ((hbl9.far (p := ⟨w4.heap.size, j, none⟩) (by simp; omega) (.int .i64 (b : Int))).far (p := ⟨w4.heap.size, j + 1, none⟩) (by simp; omega) (.int .i64 (a : Int))).drew
            have hbel10 := ((hbel9.setCell (p := ⟨w4.heap.size, j, none⟩) (Nat.le_refl _) (.int .i64 (b : Int))).setCell (p := ⟨w4.heap.size, j + 1, none⟩) (Nat.le_refl _) (.int .i64 (a : Int))).drew
            have HBK10 := Lib.hid hbk10
            have HBL10 := Lib.hid hbl10
            have HBEL10 := Lib.hid hbel10
            clear hbk10 hbl10 hbel10 hbk9 hbl9 hbel9 hv9 hv10
            go_region
            go_wp2
            go_roundw
            case rel => exact ⟨q + 1, _, by omega, by go_num, by rw [HSUM.out], HBK10.out, HBL10.out, Lib.hid (by rw [HM.out]; have := HLA2.out; rw [show 2 * (q + 1) = 2 * q + 1 + 1 by omega]; exact this), HBEL10.out⟩
            case measure => simp [intOf]; omega
        · have e1 : l.take q = l := List.take_of_length_le (by have := hlen.out; omega)
          rw [e1] at hbk HLA ⊢
          have hla := HLA.out
          have hM : (followL linkStep (zeros k) k l).1 = linksL k l := rfl
          rw [hM] at hla
          have HLB := Lib.hid hla
          have hfull := full_strands k l HWD.out.2
          have hpl : permL k l = backL (strands k l) := by unfold permL; rw [followL_snd]
          have HFU := Lib.hid hfull
          have HPL := Lib.hid hpl
          have hi4 := h2.below hbel
          have h44 := h4.below hbel
          have hB4 := hB.trans (hbel.mono hB.size)
          clear hM hla hfull hpl e1 HLA hsb hlq
          obtain ⟨W, hW⟩ : ∃ W : World, W = wr := ⟨_, rfl⟩
          have HWr : Hid (wr = W.drewN 0) := by rw [hW]; rfl
          rw [← hW] at hbk hbl hi4 h44 hB4
          clear hW hbel
          have hdq : decide (q < N) = false := decide_eq_false (by omega)
          go_wp2_with fail
          go_loopw [20] (fun i wr => ∃ (i1 d : Nat), i1 ≤ k ∧ i = .int .i64 i1 ∧ Hid (wr = W.drewN d)) (fun i _ => k - (intOf i).toNat)
          case atStart => exact ⟨0, 0, by omega, rfl, HWr⟩
          case round =>
            clear HWr
            obtain ⟨i1, d, hi1, rfl, HD⟩ := hrel
            rcases Nat.lt_or_ge i1 k with hlt | hge3
            · have hbk2 : Blk wr w4.heap.size 3 (iv .i64 (at0 k l)) := by rw [HD.out]; exact hbk
              have hbl2 : Blk wr gl 44 (iv .i64 L) := by rw [HD.out]; exact hbl
              have hp2 : Ints .u8 wr A2 k (permL k l) := by rw [HD.out]; exact hi4.drewN d
              have hg2 : Grid .i64 wr A4 k (linksL k l) := by rw [HD.out]; exact h44.drewN d
              have hst1 : (strands k l)[i1]? = some ((strands k l)[i1]'(by have := HFU.out.1.1; omega)) := by simp
              generalize (strands k l)[i1]'(by have := HFU.out.1.1; omega) = s1 at hst1
              have hs1 := HFU.out.1.2 s1 (List.mem_of_getElem? hst1)
              obtain ⟨a, rfl⟩ : ∃ a : Nat, s1 = (a : Int) + 1 := ⟨(s1 - 1).toNat, by omega⟩
              have hak : a < k := by omega
              have hca : wr.cell? ⟨w4.heap.size, i1, none⟩ = some (.int .i64 (a : Int)) := by rw [hbk2.cell]; simp [iv, at0, hst1]
              have hba := backL_at HFU.out hlt hst1
              rw [← HPL.out, show ((a : Int) + 1).toNat - 1 = a by omega] at hba
              obtain ⟨p1, rfl, _, y, hy, hcp⟩ := hp2.at_ hak
              rw [hba] at hy
              injection hy with hy
              subst hy
              obtain ⟨g1, r, mr, cr, row, rfl, _, hcg, hmr1, hmr2, hrow, hir⟩ := hg2.at_ hlt
              have hrl : mr = k := by have := H4R.out row (List.mem_of_getElem? hrow); have := hir.len; omega
              obtain rfl : k = mr := hrl.symm
              have hne : ((i1 : Int) + 1 != (i1 : Int) + 1) = false := by simp
              have hne2 : ((k : Int) != (k : Int)) = false := by simp
              have hi1w : IntKind.i64.wrap ((i1 : Int) + 1) = (i1 : Int) + 1 := IntWalk.i64_in _ (by omega)
              have HROW := Lib.hid hrow
              clear hba hst1 hs1 hrow
              go_wp2_with fail
              obtain ⟨V, hV⟩ : ∃ V : World, V = wr := ⟨_, rfl⟩
              have HV : Hid (wr = V.drewN 0) := by rw [hV]; rfl
              have HD2 : Hid (V = W.drewN d) := by rw [hV]; exact HD
              rw [← hV] at hbl2 hcg hir
              clear hV
              go_loopw [21] (fun i wr => ∃ (i2 d2 : Nat), i2 ≤ k ∧ i = .int .i64 i2 ∧ Hid (wr = V.drewN d2)) (fun i _ => k - (intOf i).toNat)
              case atStart => exact ⟨0, 0, by omega, rfl, HV⟩
              case round =>
                clear HV
                obtain ⟨i2, d2, hi2, rfl, HD3⟩ := hrel
                rcases Nat.lt_or_ge i2 k with hlt2 | hge4
                · have hbl3 : Blk wr gl 44 (iv .i64 L) := by rw [HD3.out]; exact hbl2
                  have hcg3 : wr.cell? (g1.add i1) = some (.slice r k cr) := by rw [HD3.out]; exact hcg
                  have hir3 : Ints .i64 wr r k row := by rw [HD3.out]; exact hir.drewN d2
                  obtain ⟨row', v, hr', hv', hLv, _, _⟩ := HLB.out.at_ hlt hlt2
                  rw [HROW.out] at hr'
                  injection hr' with hr'
                  subst hr'
                  obtain ⟨r1, rfl, _, v2, hv2, hcr⟩ := hir3.at_ hlt2
                  rw [hv'] at hv2
                  injection hv2 with hv2
                  subst hv2
                  have hcl : wr.cell? ⟨gl, i1 * 8 + i2, none⟩ = some (.int .i64 v) := by rw [hbl3.cell]; simp [iv, hLv]
                  have hvn : (v != v) = false := by simp
                  have hi8 : i1 < 8 := by omega
                  have hi9 : i2 < 8 := by omega
                  clear hv' hLv
                  go_wp2_with fail
                  go_quiet (fail)
                  go_wp2
                  go_roundw
                  case rel => exact ⟨i2 + 1, d2 + nq, by omega, by go_num, Lib.hid (by rw [HD3.out]; exact World.drewN_drewN _ _ _)⟩
                  case measure => simp [intOf]; omega
                · go_wp2
                  go_roundw
                  case rel => exact ⟨i1 + 1, d + d2, by omega, by go_num, Lib.hid (by rw [HD3.out, HD2.out]; exact World.drewN_drewN _ _ _)⟩
                  case measure => simp [intOf]; omega
            · have hB5 : Below w.heap.size w wr := by rw [HD.out]; exact below_drewN hB4 d
              have hss : (sumL l == sumL l) = true := by simp
              go_wp2_with fail
              refine (lives_any wr).mono ?_
              rintro e w11 ⟨rfl, hq11⟩
              have hB6 := hB5.trans (hq11.mono hB5.size)
              go_wp2
              go_ret
              exact ⟨rfl, hB6⟩

end Go.Proofs.Ytgebiffponbmlaa
