/-
  The contract of words.Links.
-/
import Derived.Test.YtkanbechahhmkaaDoorWordsI
namespace Go.Proofs.YtkanbechahhmkaaDoor
set_option linter.unusedSimpArgs false
set_option linter.unusedVariables false
open Go.RowKit
set_option maxRecDepth 100000

/-- A number is added at a place of a square of numbers. -/
def addAt (s : List (List Int)) (a b : Nat) (sg : Int) : List (List Int) := s.set a ((s.getD a []).set b ((s.getD a []).getD b 0 + sg))
def linkStep (s : List (List Int)) (a b sg : Int) : List (List Int) := addAt (addAt s a.toNat b.toNat sg) b.toNat a.toNat sg
/-- The square in memory: its rows lie behind each other. -/
structure LInv (n g : Nat) (s : List (List Int)) (B : Nat) (W : World) : Prop where
  box : Blk W (g + 1) 42 [.slice (some ⟨g, 0, none⟩) n n]
  outer : Blk W g 25 ((List.range n).map fun i => .slice (some ⟨g + 2 + i, 0, none⟩) n n)
  len : s.length = n
  rows : ∀ (i : Nat) (row : List Int), s[i]? = some row → row.length = n ∧ (∀ x ∈ row, -(B : Int) ≤ x ∧ x ≤ B) ∧ Blk W (g + 2 + i) 3 (iv .i64 row)

theorem LInv.keep {n g B : Nat} {s : List (List Int)} {W W' : World} (h : LInv n g s B W) (hk : ∀ k, g ≤ k → k < g + 2 + n → W'.heap[k]? = W.heap[k]?) : LInv n g s B W' := by
  refine ⟨h.box.of_block (hk _ (by omega) (by omega)), h.outer.of_block (hk _ (by omega) (by omega)), h.len, fun i row hi => ?_⟩
  obtain ⟨h1, h2, h3⟩ := h.rows i row hi
  have hil : i < n := by have := (List.getElem?_eq_some_iff.1 hi).1; have := h.len; omega
  exact ⟨h1, h2, h3.of_block (hk _ (by omega) (by omega))⟩

theorem LInv.half {n g B : Nat} {s : List (List Int)} {W : World} (h : LInv n g s B W) {a b : Nat} (ha : a < n) (hb : b < n) {row : List Int} {v sg : Int} (hr : s[a]? = some row) (hv : row[b]? = some v) (hs : -1 ≤ sg ∧ sg ≤ 1) :
    LInv n g (addAt s a b sg) (B + 1) (W.setCell ⟨g + 2 + a, b, none⟩ (.int .i64 (v + sg))) := by
  have e : addAt s a b sg = s.set a (row.set b (v + sg)) := by
    unfold addAt
    rw [List.getD_eq_getElem?_getD, hr, Option.getD_some, List.getD_eq_getElem?_getD, hv, Option.getD_some]
  rw [e]
  refine ⟨h.box.far (by simp; omega) _, h.outer.far (by simp; omega) _, by simp [h.len], fun i r hi => ?_⟩
  obtain ⟨h1, h2, h3⟩ := h.rows a row hr
  rw [List.getElem?_set] at hi
  by_cases hai : a = i
  · subst hai
    rw [if_pos rfl, if_pos (by have := h.len; omega)] at hi
    cases hi
    refine ⟨by simp [h1], fun x hx => ?_, ?_⟩
    · have hvb := h2 v (List.mem_of_getElem? hv)
      exact mem_set_of (p := fun x => -((B + 1 : Nat) : Int) ≤ x ∧ x ≤ ((B + 1 : Nat) : Int)) (fun z hz => by have := h2 z hz; omega) (by omega) hx
    · rw [iv_set]; exact h3.set_ b _
  · rw [if_neg hai] at hi
    obtain ⟨g1, g2, g3⟩ := h.rows i r hi
    exact ⟨g1, fun x hx => by have := g2 x hx; omega, g3.far (by simp; omega) _⟩

theorem LInv.get {n g B : Nat} {s : List (List Int)} {W : World} (h : LInv n g s B W) {a b : Nat} (ha : a < n) (hb : b < n) : ∃ row v, s[a]? = some row ∧ row[b]? = some v ∧ (-(B : Int) ≤ v ∧ v ≤ B) ∧
    W.cell? ⟨g + 1, 0, none⟩ = some (.slice (some ⟨g, 0, none⟩) n n) ∧ W.cell? ⟨g, a, none⟩ = some (.slice (some ⟨g + 2 + a, 0, none⟩) n n) ∧ W.cell? ⟨g + 2 + a, b, none⟩ = some (.int .i64 v) ∧ W.frozen? ⟨g + 2 + a, b, none⟩ = false := by
  have hr : s[a]? = some (s[a]'(by have := h.len; omega)) := by simp
  generalize s[a]'(by have := h.len; omega) = row at hr
  obtain ⟨h1, h2, h3⟩ := h.rows a row hr
  have hv : row[b]? = some (row[b]'(by omega)) := by simp
  generalize row[b]'(by omega) = v at hv
  refine ⟨row, v, hr, hv, h2 v (List.mem_of_getElem? hv), by rw [h.box.cell]; rfl, ?_, ?_, h3.frozen b⟩
  · rw [h.outer.cell]; simp [ha]
  · rw [h3.cell]; simp [iv, hv]

set_option maxHeartbeats 800000 in
theorem links1_any (n g B a b : Nat) (sg : Int) (s : List (List Int)) (W : World) (h : LInv n g s B W) (ha : a < n) (hb : b < n) (hs : -1 ≤ sg ∧ sg ≤ 1) (hB : B ≤ 1000) (hn : n ≤ 8) :
    Calls Tryd.prog 33 #[.int .i64 a, .int .i64 b, .int .i64 sg, .pointer (some ⟨g + 1, 0, none⟩)] W fun e w' => e = .returned (.tuple #[]) ∧ LInv n g (addAt (addAt s a b sg) b a sg) (B + 2) w' ∧ KeptOut (fun k => g ≤ k ∧ k < g + 2 + n) W w' := by
  obtain ⟨row, v, hr, hv, hvb, c1, c2, c3, f1⟩ := h.get ha hb
  have h2 := h.half ha hb hr hv hs
  obtain ⟨row2, v2, hr2, hv2, hvb2, d1, d2, d3, f2⟩ := h2.get hb ha
  have h3 := h2.half hb ha hr2 hv2 hs
  have hk1 : KeptOut (fun k => g ≤ k ∧ k < g + 2 + n) W (W.setCell ⟨g + 2 + a, b, none⟩ (.int .i64 (v + sg))) :=
    ⟨rfl, rfl, rfl, by simp [World.setCell], fun k hk hnk => Below.heap_setCell _ _ _ _ (fun e => hnk (by simp at e; omega))⟩
  have hk2 : KeptOut (fun k => g ≤ k ∧ k < g + 2 + n) (W.setCell ⟨g + 2 + a, b, none⟩ (.int .i64 (v + sg))) ((W.setCell ⟨g + 2 + a, b, none⟩ (.int .i64 (v + sg))).setCell ⟨g + 2 + b, a, none⟩ (.int .i64 (v2 + sg))) :=
    ⟨rfl, rfl, rfl, by simp [World.setCell], fun k hk hnk => Below.heap_setCell _ _ _ _ (fun e => hnk (by simp at e; omega))⟩
  have H3 := Lib.hid h3
  have HK := Lib.hid (hk1.trans hk2)
  clear h3 h2 h hr hv hr2 hv2 hk1 hk2
  have hs1 := hs.1
  have hs2 := hs.2
  have hv1 := hvb.1
  have hv2 := hvb.2
  have hv3 := hvb2.1
  have hv4 := hvb2.2
  clear hs hvb hvb2
  go_enter Tryd.func33, Tryd.ntmps33
  go_wp2
  go_end0
  exact ⟨rfl, H3.out, HK.out⟩

theorem entered_links1 : Entered Tryd.prog 33 := entered_of Tryd.func33 (by kernel_rfl) (by kernel_rfl)

/-- The square of zeros. -/
def zeros (n : Nat) : List (List Int) := List.replicate n (List.replicate n 0)
/-- The links of the strands. -/
def linksL (n : Nat) (l : List Int) : List (List Int) := (followL linkStep (zeros n) n l).1

def outerTo (g n k : Nat) : List Value := ((List.range k).map fun i => Value.slice (some ⟨g + 2 + i, 0, none⟩) n n) ++ List.replicate (n - k) (Value.slice none 0 0)
theorem outerTo_length (g n k : Nat) (hk : k ≤ n) : (outerTo g n k).length = n := by simp [outerTo]; omega
theorem outerTo_get (g n k : Nat) (hk : k < n) : (outerTo g n k)[k]? = some (.slice none 0 0) := by
  unfold outerTo
  rw [List.getElem?_append_right (by simp), List.getElem?_replicate]
  simp; omega
theorem outerTo_set (g n k : Nat) (hk : k < n) : (outerTo g n k).set k (.slice (some ⟨g + 2 + k, 0, none⟩) n n) = outerTo g n (k + 1) := by
  unfold outerTo
  rw [List.set_append_right _ _ (by simp), show n - k = (n - (k + 1)) + 1 by omega, List.replicate_succ, List.range_succ]
  simp

set_option maxRecDepth 100000 in
set_option maxHeartbeats 800000 in
theorem links_any (n : Nat) (A : Option Addr) (m c : Nat) (l : List Int) (w : World) (hl : Ints .i64 w A m l) (hn : 1 ≤ n) (hn2 : n ≤ 8) (hw : Wd n l) :
    Calls Tryd.prog 16 #[.int .i64 n, .slice A m c] w fun e w' => ∃ A', e = .returned (.tuple #[.slice A' n n, .int .i64 0]) ∧ Grid .i64 w' A' n (linksL n l) ∧ (∀ r ∈ linksL n l, r.length = n) ∧ Below w.heap.size w w' := by
  have hm : m ≤ 64 := by have := hl.len; have := hw.1; omega
  have HC := Lib.hid (hw.check ▸ check_any n A m c l w hl (by omega) (by omega) (by omega))
  have HW := Lib.hid hw
  clear hw
  have hmk := fun W => run_make_block (P := Tryd.prog) 25 3 Tryd.underlying25 elemIntZ rfl .i64 .i64 n (by omega) W
  have hmk2 := fun W => run_make_block (P := Tryd.prog) 42 25 Tryd.underlying42 elemSlZ rfl .i64 .i64 n (by omega) W
  generalize hZ : (List.replicate n (Value.int .i64 0)).toArray = Z at hmk
  generalize hY : (List.replicate n (Value.slice none 0 0)).toArray = Y at hmk2
  have HZ := Lib.hid hZ
  have HY := Lib.hid hY
  clear hZ hY
  go_enter Tryd.func16, Tryd.ntmps16
  go_wp2_with fail
  refine HC.out.mono ?_
  rintro e w1 ⟨rfl, hbel1⟩
  go_wp2
  have hszw := hbel1.size
  have hbg : Below w1.heap.size w1 ((w1.alloc (.cells Y 25)).alloc (.cells #[.slice (some ⟨w1.heap.size, 0, none⟩) n n] 42)) := ((Below.refl _ _).alloc (Nat.le_refl _) _).alloc (by simp) _
  have hb0 : Blk ((w1.alloc (.cells Y 25)).alloc (.cells #[.slice (some ⟨w1.heap.size, 0, none⟩) n n] 42)) (w1.heap.size + 1) 42 [.slice (some ⟨w1.heap.size, 0, none⟩) n n] := by
    have := Blk.new (w1.alloc (.cells Y 25)) 42 [.slice (some ⟨w1.heap.size, 0, none⟩) n n]
    simpa using this
  have hy0 : Blk ((w1.alloc (.cells Y 25)).alloc (.cells #[.slice (some ⟨w1.heap.size, 0, none⟩) n n] 42)) w1.heap.size 25 (outerTo w1.heap.size n 0) := by
    have := (Blk.new w1 25 (List.replicate n (.slice none 0 0))).alloc (.cells #[.slice (some ⟨w1.heap.size, 0, none⟩) n n] 42)
    rw [HY.out] at this
    simpa [outerTo] using this
  have hs0 : ((w1.alloc (.cells Y 25)).alloc (.cells #[.slice (some ⟨w1.heap.size, 0, none⟩) n n] 42)).heap.size = w1.heap.size + 2 := by simp
  generalize (w1.alloc (.cells Y 25)).alloc (.cells #[.slice (some ⟨w1.heap.size, 0, none⟩) n n] 42) = w2 at *
  generalize hG : w1.heap.size = g at *
  have HG := Lib.hid hG
  have HS0 := Lib.hid hs0
  clear hG hs0
  go_loopw [19] (fun i wr => ∃ (k : Nat), k ≤ n ∧ i = .int .i64 k ∧ Hid (wr.heap.size = g + 2 + k) ∧ Blk wr (g + 1) 42 [.slice (some ⟨g, 0, none⟩) n n] ∧ Blk wr g 25 (outerTo g n k) ∧ Hid (∀ i, i < k → Blk wr (g + 2 + i) 3 (iv .i64 (List.replicate n 0))) ∧ Below g w1 wr) (fun i _ => n - (intOf i).toNat)
  case atStart => exact ⟨0, by omega, rfl, HS0, hb0, hy0, Lib.hid (fun i hi => by omega), hbg⟩
  case round =>
    clear hb0 hy0 hbg HS0
    obtain ⟨k, hk, rfl, HSZ, hbox, hout, HROWS, hbel⟩ := hrel
    rcases Nat.lt_or_ge k n with hlt | hge
    · have hc1 : wr.cell? ⟨g + 1, 0, none⟩ = some (.slice (some ⟨g, 0, none⟩) n n) := by rw [hbox.cell]; rfl
      have hc2 : wr.cell? ⟨g, k, none⟩ = some (.slice none 0 0) := by rw [hout.cell, outerTo_get g n k hlt]
      have hfr := hout.frozen k
      have hgl := hout.lt
      have hgl2 := hbox.lt
      have hst : Blk (((wr.setCell ⟨g, k, none⟩ (.slice (some ⟨wr.heap.size, 0, none⟩) n n)).alloc (.cells Z 3)).drew) g 25 (outerTo g n (k + 1)) := by
        have := ((hout.set_ k (.slice (some ⟨wr.heap.size, 0, none⟩) n n)).alloc (.cells Z 3)).drew
        rw [HSZ.out, outerTo_set g n k hlt] at this
        rw [HSZ.out]
        exact this
      have hbx : Blk (((wr.setCell ⟨g, k, none⟩ (.slice (some ⟨wr.heap.size, 0, none⟩) n n)).alloc (.cells Z 3)).drew) (g + 1) 42 [.slice (some ⟨g, 0, none⟩) n n] := ((hbox.far (p := ⟨g, k, none⟩) (by simp) _).alloc _).drew
      have hro : ∀ i, i < k + 1 → Blk (((wr.setCell ⟨g, k, none⟩ (.slice (some ⟨wr.heap.size, 0, none⟩) n n)).alloc (.cells Z 3)).drew) (g + 2 + i) 3 (iv .i64 (List.replicate n 0)) := by
        intro i hi
        rcases Nat.lt_or_ge i k with h | h
        · exact (((HROWS.out i h).far (p := ⟨g, k, none⟩) (by simp; omega) _).alloc _).drew
        · have e : i = k := by omega
          subst e
          have := Blk.new (wr.setCell ⟨g, i, none⟩ (.slice (some ⟨wr.heap.size, 0, none⟩) n n)) 3 (List.replicate n (.int .i64 0))
          rw [HZ.out] at this
          have hs : (wr.setCell ⟨g, i, none⟩ (.slice (some ⟨wr.heap.size, 0, none⟩) n n)).heap.size = g + 2 + i := by rw [← HSZ.out]; simp [World.setCell]
          rw [hs] at this
          simpa [iv] using this.drew
      have HST := Lib.hid hst
      have HBX := Lib.hid hbx
      have HRO := Lib.hid hro
      have HB := Lib.hid (((hbel.setCell (p := ⟨g, k, none⟩) (Nat.le_refl _) (.slice (some ⟨wr.heap.size, 0, none⟩) n n)).alloc (by simp [World.setCell]; omega) (.cells Z 3)).drew)
      clear hst hbx hro hbox hout
      go_wp2_with fail
      go_region
      go_wp2
      go_roundw
      case rel => exact ⟨k + 1, by omega, by go_num, Lib.hid (by have := HSZ.out; simp [World.setCell]; omega), HBX.out, HST.out, HRO, HB.out⟩
      case measure => simp [intOf]; omega
    · obtain rfl : k = n := by omega
      have hinv : LInv k g (zeros k) 0 wr := by
        refine ⟨hbox, ?_, by simp [zeros], fun i row hi => ?_⟩
        · simpa [outerTo] using hout
        · have hik : i < k := by have := (List.getElem?_eq_some_iff.1 hi).1; simpa [zeros] using this
          simp [zeros, hik] at hi
          subst hi
          exact ⟨by simp, fun x hx => by have := List.eq_of_mem_replicate hx; omega, HROWS.out i hik⟩
      have hbw : Below w.heap.size w wr := hbel1.trans (hbel.mono hszw)
      have hgk : g + 2 + k ≤ wr.heap.size := by have := HSZ.out; omega
      have HFO := Lib.hid (follow_any linkStep (fun s p W => LInv k g s (2 * p.length) W) (fun q => g ≤ q ∧ q < g + 2 + k) 33 #[.pointer (some ⟨g + 1, 0, none⟩)] k A m c l wr (zeros k) (hl.below hbw) hn hn2 HW.out entered_links1
        (fun q hq => by omega)
        (fun h0 ad hA hq => by
          obtain ⟨ad', h1, h2, _⟩ := hl.at_ h0
          rw [hA] at h1
          injection h1 with h1
          subst h1
          omega)
        hinv
        (fun s p W W' hI hb hs => hI.keep (fun q h1 h2 => hb q ⟨h1, h2⟩))
        (fun s p x a b W hpre hs ha0 ha hb0 hb hI hsz => by
          obtain ⟨a', rfl⟩ : ∃ a' : Nat, a = a' := ⟨a.toNat, by omega⟩
          obtain ⟨b', rfl⟩ : ∃ b' : Nat, b = b' := ⟨b.toNat, by omega⟩
          have hpl : p.length + 1 ≤ 64 := by
            have h1 := hpre.length_le
            have := HW.out.1
            simp at h1
            omega
          have hsg : -1 ≤ signOf x ∧ signOf x ≤ 1 := by unfold signOf; split <;> omega
          refine (links1_any k g (2 * p.length) a' b' (signOf x) s W hI (by omega) (by omega) hsg (by omega) hn2).mono fun e w' h => ⟨h.1, ?_, h.2.2⟩
          have e2 : 2 * (p ++ [x]).length = 2 * p.length + 2 := by simp; omega
          rw [e2]
          have := h.2.1
          simpa [linkStep] using this))
      clear hinv
      go_wp2_with fail
      refine HFO.out.mono ?_
      rintro e w4 ⟨A4, rfl, -, hI4, hk4⟩
      have hc4 : w4.cell? ⟨g + 1, 0, none⟩ = some (.slice (some ⟨g, 0, none⟩) k k) := by rw [hI4.box.cell]; rfl
      have HI4 := Lib.hid hI4
      clear hI4
      go_wp2
      go_ret2
      refine ⟨_, rfl, ?_, ?_, ?_⟩
      · refine ⟨(List.range k).map fun i => .slice (some ⟨g + 2 + i, 0, none⟩) k k, ?_, by simp [linksL, HI4.out.len], fun i v row hi hr => ?_⟩
        · exact (HI4.out.outer.own (size := 1) (n := k) (base := 0) (by simp) (Nat.zero_le _) (by omega)).reads
        · have hik : i < k := by have := (List.getElem?_eq_some_iff.1 hi).1; simpa using this
          simp [hik] at hi
          subst hi
          obtain ⟨h1, h2, h3⟩ := HI4.out.rows i row hr
          exact ⟨_, k, k, rfl, Nat.le_refl _, by omega, (h3.own (size := 1) (n := k) (base := 0) (by simp [iv_length, h1]) (Nat.zero_le _) (by omega)).ints⟩
      · intro r hr
        obtain ⟨i, hi, rfl⟩ := List.getElem_of_mem hr
        exact (HI4.out.rows i _ (List.getElem?_eq_getElem hi)).1
      · exact ⟨hk4.os.trans hbw.os, hk4.tape.trans hbw.tape, hk4.output.trans hbw.output, Nat.le_trans hbw.size hk4.size, fun q hq => (hk4.block q (by have := hbw.size; omega) (fun h => by omega)).trans (hbw.block q hq)⟩

end Go.Proofs.YtkanbechahhmkaaDoor
