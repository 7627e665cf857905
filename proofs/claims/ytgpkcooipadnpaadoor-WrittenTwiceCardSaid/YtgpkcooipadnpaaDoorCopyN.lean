/-
  copy between slices whose elements have any number of cells; slices.Repeat of stitches. No conditions beyond bounds.
-/
import Derived.Test.YtgpkcooipadnpaaDoorSts
import Derived.Test.YtgpkcooipadnpaaDoorWRef
import Derived.Laws.CopyRow
import Derived.Laws.CopyOwn
import Derived.Lib.SlBuf
import Derived.Shelf.Spec.SlicesInsert
namespace Go.Proofs.YtgpkcooipadnpaaDoor
set_option linter.unusedSimpArgs false
set_option linter.unusedVariables false
open Go.RowKit
set_option maxRecDepth 100000

theorem run_copy_rowN {P : Program} (w : World) (dT sT ty elem : TypeId) (size n g o dLen dCap : Nat) (a : Addr) (sLen sCap : Nat) (cur : Array Value) (t : TypeId) (cs : List Value)
    (hu : P.underlying dT = some (.slice elem)) (hs : (P.info? elem).map (·.size) = some size)
    (hg : w.heap[g]? = some (.cells cur t (0, 0))) (hn : n = Nat.min sLen dLen) (hcs : cs.length = n * size)
    (hsrc : ∀ j v, cs[j]? = some v → w.cell? (a.add j) = some v) (hfit : o + cs.length ≤ cur.size) (h1 : ∀ v ∈ cs, v.oneCell' = true) :
    (Builtin.copy_ #[dT, sT] ty #[.slice (some ⟨g, o, none⟩) dLen dCap, .slice (some a) sLen sCap]).run P w =
      .ok (goInt n) (w.setRow g (cur.toList.take o ++ cs ++ cur.toList.drop (o + cs.length)).toArray) := by
  have hl := run_loadCells_list (P := P) w a cs hsrc
  have hst := run_storeCells_at P g o t cs 0 cur w hg (by simpa using hfit) h1
  cases hq : P.info? elem with
  | none => simp [hq] at hs
  | some i =>
    have hi : i.size = size := by simpa [hq] using hs
    rw [hcs] at hl
    simp [Builtin.copy_, run_underlying hu, Builtin.lenOf, Builtin.firstCells, sizeOf, typeInfo, hq, hi, ← hn, hl, hst]

/-- A block of the call's own behind copy. -/
theorem setRow_below {B : Nat} {w0 w : World} {g : Nat} (hb : Below B w0 w) (hBg : B ≤ g) (cs : Array Value) : Below B w0 (w.setRow g cs) := below_setRow hb hBg _
theorem setRow_blk {w : World} {g t : Nat} {cur : List Value} (h : Blk w g t cur) (cs : List Value) : Blk (w.setRow g cs.toArray) g t cs := setRow_heap w g _ _ t _ h

theorem mul_any (x y : Nat) (hx : x ≤ 1000) (hy : y ≤ 1000) (w : World) :
    Calls Tryd.prog 43 #[.int .u64 x, .int .u64 y] w fun e w' => e = .returned (.tuple #[.int .u64 0, .int .u64 ((x * y : Nat) : Int)]) ∧ w = w' := by
  have h := Nat.mul_le_mul hx hy
  refine (Tryd.bits_Mul x y (by omega) (by omega) w).mono ?_
  rintro e w' ⟨he, hw⟩
  rw [Nat.div_eq_of_lt (by omega), Nat.mod_eq_of_lt (by omega)] at he
  exact ⟨he, hw.symm⟩

theorem infoSt : (Tryd.prog.info? 29).map (·.size) = some 5 := by kernel_rfl

theorem own_full {w : World} {base e size g N : Nat} {xs : List Value} (h : Own w base e size (some ⟨g, 0, none⟩) N N xs) : Blk w g e xs := by
  obtain ⟨hl, ⟨hv, _⟩ | ⟨g', cap, cur, hv, h1, hh, h2, h3, h4, h5⟩⟩ := h
  · injection hv with h6; cases h6
  · injection hv with e1 e2 e3
    injection e1 with e1
    injection e1 with e1
    subst e1
    subst e3
    rw [List.take_of_length_le (by simpa using Nat.le_of_eq h4)] at h5
    show w.heap[g]? = _
    rw [hh, ← h5]

theorem copy_sts (w : World) (g o k dLen dCap sLen sCap : Nat) (ad : Addr) (cur : List Value) (ls : List St) (ty : TypeId) (hb : Blk w g 29 cur) (hk : k = Nat.min sLen dLen) (hls : ls.length = k)
    (hsrc : ∀ j v, (sc ls)[j]? = some v → w.cell? (ad.add j) = some v) (hfit : o * 5 + k * 5 ≤ cur.length) :
    (Builtin.copy_ #[22, 22] ty #[.slice (some ⟨g, o * 5, none⟩) dLen dCap, .slice (some ad) sLen sCap]).run Tryd.prog w =
      .ok (goInt k) (w.setRow g (cur.take (o * 5) ++ (sc ls ++ cur.drop (o * 5 + k * 5))).toArray) := by
  have h := run_copy_rowN (P := Tryd.prog) w 22 22 ty 29 5 k g (o * 5) dLen dCap ad sLen sCap cur.toArray 29 (sc ls) Tryd.underlying22 infoSt hb hk (by rw [sc_length, hls]) hsrc (by rw [sc_length, hls]; simpa using hfit) (sc_one ls)
  rw [sc_length, hls, List.append_assoc] at h
  exact h

theorem repL_add (a b : Nat) (l : List St) : repL (a + b) l = repL a l ++ repL b l := by
  induction a with
  | zero => simp [repL_zero]
  | succ a ih => rw [Nat.succ_add, repL_succ, repL_succ, ih, List.append_assoc]
theorem repL_take {t m : Nat} (h : t ≤ m) (l : List St) : (repL m l).take (t * l.length) = repL t l := by
  obtain ⟨b, rfl⟩ : ∃ b, m = t + b := ⟨m - t, by omega⟩
  rw [repL_add, List.take_left' (repL_length t l)]
theorem rep_step {n m t q k N : Nat} {l : List St} (hl : l.length = n) (hn : 0 < n) (hN : N = n * m) (hq : q = n * t) (ht1 : 1 ≤ t) (htm : t ≤ m) (hk : k = Nat.min q (N - q)) (hlt : q < N) :
    1 ≤ k ∧ q + k ≤ N ∧ k ≤ q ∧ ∃ t', q + k = n * t' ∧ 1 ≤ t' ∧ t' ≤ m ∧ (repL m l).take q ++ (repL m l).take k = (repL m l).take (q + k) := by
  have e1 : N - q = n * (m - t) := by rw [hN, hq, Nat.mul_sub]
  have htm2 : t < m := by
    rcases Nat.lt_or_ge t m with h | h
    · exact h
    · have := Nat.mul_le_mul_left n h; omega
  have tk : ∀ a, a ≤ m → (repL m l).take (n * a) = repL a l := fun a ha => by rw [← hl, Nat.mul_comm, repL_take ha]
  rcases Nat.le_total t (m - t) with h | h
  · have h2 : n * t ≤ n * (m - t) := Nat.mul_le_mul_left n h
    have hk2 : k = n * t := by rw [hk, e1, hq]; exact Nat.min_eq_left h2
    have hpos : 1 ≤ n * t := Nat.mul_pos hn ht1
    have e2 : q + k = n * (t + t) := by rw [hq, hk2, Nat.mul_add]
    refine ⟨by omega, by omega, by omega, t + t, e2, by omega, by omega, ?_⟩
    rw [e2, hq, hk2, tk t htm, tk (t + t) (by omega), repL_add]
  · have h2 : n * (m - t) ≤ n * t := Nat.mul_le_mul_left n h
    have hk2 : k = n * (m - t) := by rw [hk, e1, hq]; exact Nat.min_eq_right h2
    have hpos : 1 ≤ n * (m - t) := Nat.mul_pos hn (by omega)
    have e2 : q + k = n * m := by rw [hq, hk2, ← Nat.mul_add]; congr 1; omega
    refine ⟨by omega, by omega, by omega, m, e2, by omega, Nat.le_refl m, ?_⟩
    rw [e2, hq, hk2, tk t htm, tk (m - t) (by omega), tk m (Nat.le_refl m), ← repL_add]
    congr 1; omega

theorem copy_zero (w : World) (A : Option Addr) (n c : Nat) (ty : TypeId) (a : Addr) : (Builtin.copy_ #[22, 22] ty #[.slice (some a) 0 0, .slice A n c]).run Tryd.prog w = .ok (goInt 0) w := by
  obtain ⟨i, z, hi, hz, hs, _⟩ := elemSt
  cases A with
  | none => simp [Builtin.copy_, run_underlying Tryd.underlying22, Builtin.lenOf, Builtin.firstCells, sizeOf, typeInfo, hi, storeCells]
  | some ad =>
    have hl := run_loadCells_list (P := Tryd.prog) w ad [] (by simp)
    simp at hl
    simp [Builtin.copy_, run_underlying Tryd.underlying22, Builtin.lenOf, Builtin.firstCells, sizeOf, typeInfo, hi, storeCells, hl]

/-- What has been filled of the new slice: p elements. -/
def RepSt (w wr : World) (N : Nat) (R : List St) (p : Nat) : Prop := ∃ cur : List Value, Blk wr w.heap.size 29 cur ∧ cur.length = N * 5 ∧ cur.take (p * 5) = sc (R.take p) ∧ Below w.heap.size w wr

set_option maxHeartbeats 2000000 in
theorem repeat_any (A : Option Addr) (n c m : Nat) (l : List St) (w : World) (hl : Sts w A n l) (hn : n ≤ 1000) (hm : m ≤ 1000) :
    Calls Tryd.prog 29 #[.slice A n c, .int .i64 m] w fun e w' => ∃ A', e = .returned (.slice A' (n * m) (n * m)) ∧ Own w' w.heap.size 29 5 A' (n * m) (n * m) (sc (repL m l)) ∧ Below w.heap.size w w' := by
  have hlen := Lib.hid hl.len
  obtain ⟨iS, zS, hiS, hzS, hsS, hbS, hzl, _, _⟩ := elemSt
  obtain ⟨N, hN⟩ : ∃ N, N = n * m := ⟨_, rfl⟩
  have hNle : N ≤ 1000000 := by rw [hN]; exact Nat.mul_le_mul hn hm
  have HN := Lib.hid hN
  rw [← hN]
  clear hN
  rcases Nat.eq_zero_or_pos N with h0 | hpos
  · subst h0
    have hR : repL m l = [] := List.eq_nil_of_length_eq_zero (by rw [repL_length, hlen.out, Nat.mul_comm]; exact HN.out.symm)
    have HR := Lib.hid hR; clear hR
    have hcopy := fun (a : Addr) (W : World) => copy_zero W A n c 3 a
    go_enter Tryd.func29, Tryd.ntmps29
    go_wp2_with (first
      | (go_at_call 43; refine (mul_any n m hn hm _).mono ?_; rintro e w1 ⟨rfl, rfl⟩; rw [← HN.out])
      | (at_make; go_must (refine wpList_make_full w rfl (.tmp 29) (.tmp 29) 22 rfl w.heap.size 29 iS zS 5 Tryd.underlying22 hiS hzS hsS .i64 .i64 0 0 0 rfl rfl rfl rfl (by omega) (by simp only [maxLen]; omega) (Nat.le_refl _) ?_); intro w2 hown2 hg2
         have hbel2 : Below w.heap.size w w2 := below_of_grown_none hg2 (Nat.le_refl _)
         clear hg2))
    go_loopg [8] 0 (fun r p wr => p = .int .i64 0 ∧ wr = w2)
    case atStart => exact ⟨rfl, rfl⟩
    case round =>
      obtain ⟨rfl, rfl⟩ := hrel
      go_wp2_with fail
      go_ret
      refine ⟨_, rfl, ?_, hbel2⟩
      rw [HR.out]
      have e : (madeCells zS.cells (0 * 5)).toList = sc [] := by simp [madeCells, sc_nil]
      rw [← e]
      exact hown2
  · have hnpos : 0 < n := by
      rcases Nat.eq_zero_or_pos n with h | h
      · have := HN.out; rw [h, Nat.zero_mul] at this; omega
      · exact h
    have hmpos : 0 < m := by
      rcases Nat.eq_zero_or_pos m with h | h
      · have := HN.out; rw [h, Nat.mul_zero] at this; omega
      · exact h
    obtain ⟨ad, rfl, had, hcells⟩ := hl.2 hnpos
    have HC := Lib.hid hcells; clear hcells
    go_enter Tryd.func29, Tryd.ntmps29
    have hinfo := infoSt
    go_wp2_with (first
      | (go_at_call 43; refine (mul_any n m hn hm _).mono ?_; rintro e w1 ⟨rfl, rfl⟩; rw [← HN.out])
      | (at_make; go_must (refine wpList_make_full w rfl (.tmp 29) (.tmp 29) 22 rfl w.heap.size 29 iS zS 5 Tryd.underlying22 hiS hzS hsS .i64 .i64 N N N rfl rfl rfl rfl (by rw [hbS]; omega) (by simp only [maxLen]; omega) (Nat.le_refl _) ?_); intro w2 hown2 hg2
         have hbel2 : Below w.heap.size w w2 := below_of_grown_none hg2 (Nat.le_refl _)
         have hnN : n ≤ N := by rw [HN.out]; exact Nat.le_mul_of_pos_right n hmpos
         have hlen2 : (madeCells zS.cells (N * 5)).toList.length = N * 5 := hown2.1
         have hblk2 := own_full hown2
         clear hown2 hg2
         generalize (madeCells zS.cells (N * 5)).toList = xs at *
         have hcopy := copy_sts w2 w.heap.size 0 n N N n c ad xs l 3 hblk2 (Nat.min_eq_left hnN).symm hlen.out (fun j v hj => (hbel2.cell (by rw [block_of_add]; exact had)).trans (HC.out j v hj)) (by rw [hlen2]; omega)
         simp only [Nat.zero_mul, Nat.zero_add, List.take_zero, List.nil_append] at hcopy
         have HLX := Lib.hid hlen2; clear hlen2))
    have hW := setRow_blk hblk2 (sc l ++ xs.drop (n * 5))
    have hBW := setRow_below hbel2 (Nat.le_refl w.heap.size) (sc l ++ xs.drop (n * 5)).toArray
    have HI : Hid ((repL m l).take (n * 1) = l ∧ (sc l ++ xs.drop (n * 5)).length = N * 5 ∧ (sc l ++ xs.drop (n * 5)).take (n * 5) = sc l) := by
      have h1 := repL_take (show 1 ≤ m by omega) l
      have h2 := hlen.out
      have h3 := HLX.out
      refine Lib.hid ⟨?_, ?_, ?_⟩
      · rw [← h2, Nat.mul_one]
        rw [Nat.one_mul] at h1
        rw [h1, repL_succ, repL_zero, List.append_nil]
      · rw [List.length_append, sc_length, List.length_drop, h3, h2]; omega
      · rw [← h2, ← sc_length, List.take_left]
    clear hcopy hblk2 hbel2
    go_loopg [8] (N - n) (fun r p wr => ∃ (q t : Nat) (cur : List Value), q ≤ N ∧ p = .int .i64 q ∧ r = N - q ∧ 1 ≤ t ∧ t ≤ m ∧ Hid (q = n * t) ∧ Blk wr w.heap.size 29 cur ∧ Hid (cur.length = N * 5 ∧ cur.take (q * 5) = sc ((repL m l).take q)) ∧ Below w.heap.size w wr)
    case atStart => exact ⟨n, 1, _, hnN, rfl, rfl, by omega, by omega, Lib.hid (Nat.mul_one n).symm, hW, Lib.hid ⟨HI.out.2.1, by rw [HI.out.2.2]; congr 1; have := HI.out.1; rw [Nat.mul_one] at this; exact this.symm⟩, hBW⟩
    case round =>
      obtain ⟨q, t, cur, hqN, rfl, hr, ht1, htm, HQ, hblk, HCU, hbel⟩ := hrel
      rcases Nat.lt_or_ge q N with hlt | hge
      · obtain ⟨k, hk⟩ : ∃ k, k = Nat.min q (N - q) := ⟨_, rfl⟩
        obtain ⟨k1, k2, k3, t', HS⟩ := rep_step hlen.out hnpos HN.out HQ.out ht1 htm hk hlt
        have HT := Lib.hid HS; clear HS
        have hsrc : ∀ j v, (sc ((repL m l).take k))[j]? = some v → wr.cell? ((⟨w.heap.size, 0, none⟩ : Addr).add j) = some v := by
          intro j v hj
          have hadd : (⟨w.heap.size, 0, none⟩ : Addr).add j = ⟨w.heap.size, j, none⟩ := by unfold Addr.add; split <;> simp_all
          have hjk : j < k * 5 := by
            have := (List.getElem?_eq_some_iff.1 hj).1
            rw [sc_length, List.length_take] at this; omega
          rw [hadd, hblk.cell j, ← hj]
          have h1 := congrArg (·[j]?) HCU.out.2
          simp only [List.getElem?_take_of_lt (show j < q * 5 by omega)] at h1
          rw [h1, ← sc_take, ← sc_take, List.getElem?_take_of_lt (by omega), List.getElem?_take_of_lt hjk]
        have hmin : k = Nat.min q (N - q) := hk
        have hlk : ((repL m l).take k).length = k := by rw [List.length_take, repL_length, hlen.out]; have := HN.out; rw [Nat.mul_comm] at this; omega
        have hfit : q * 5 + k * 5 ≤ cur.length := by rw [HCU.out.1]; omega
        have hcopy := copy_sts wr w.heap.size q k (N - q) (N - q) q N ⟨w.heap.size, 0, none⟩ cur _ 3 hblk hmin hlk hsrc hfit
        have hcopy2 := copy_sts wr.drew w.heap.size q k (N - q) (N - q) q N ⟨w.heap.size, 0, none⟩ cur _ 3 hblk.drew hmin hlk hsrc hfit
        have hW := setRow_blk hblk (cur.take (q * 5) ++ (sc ((repL m l).take k) ++ cur.drop (q * 5 + k * 5)))
        have hW2 := setRow_blk hblk.drew (cur.take (q * 5) ++ (sc ((repL m l).take k) ++ cur.drop (q * 5 + k * 5)))
        have hBW := setRow_below hbel (Nat.le_refl w.heap.size) (cur.take (q * 5) ++ (sc ((repL m l).take k) ++ cur.drop (q * 5 + k * 5))).toArray
        have hBW2 := setRow_below hbel.drew (Nat.le_refl w.heap.size) (cur.take (q * 5) ++ (sc ((repL m l).take k) ++ cur.drop (q * 5 + k * 5))).toArray
        have HCN : Hid ((cur.take (q * 5) ++ (sc ((repL m l).take k) ++ cur.drop (q * 5 + k * 5))).length = N * 5 ∧ (cur.take (q * 5) ++ (sc ((repL m l).take k) ++ cur.drop (q * 5 + k * 5))).take ((q + k) * 5) = sc ((repL m l).take (q + k))) := by
          refine Lib.hid ⟨?_, ?_⟩
          · rw [List.length_append, List.length_append, List.length_take, List.length_drop, sc_length, hlk, HCU.out.1]; omega
          · obtain ⟨_, _, _, h4⟩ := HT.out
            rw [← h4, sc_append, ← HCU.out.2, ← List.append_assoc, List.take_left' (by rw [List.length_append, List.length_take, sc_length, hlk, HCU.out.1]; omega)]
        clear hsrc hfit
        have HK := Lib.hid hk
        clear hk hmin hlk
        go_wp2_with fail
        go_region
        go_wp2_with fail
        go_roundg (N - (q + k))
        case measure => omega
        case rel =>
          obtain ⟨e1, e2, e3, _⟩ := HT.out
          first
            | exact ⟨q + k, t', _, k2, by go_num, rfl, e2, e3, Lib.hid e1, hW, HCN, hBW⟩
            | exact ⟨q + k, t', _, k2, by go_num, rfl, e2, e3, Lib.hid e1, hW2, HCN, hBW2⟩
            | exact ⟨q + k, t', _, k2, by go_num, rfl, e2, e3, Lib.hid e1, hW.drew, HCN, hBW.drew⟩
            | exact ⟨q + k, t', _, k2, by go_num, rfl, e2, e3, Lib.hid e1, hW2.drew, HCN, hBW2.drew⟩
      · obtain rfl : q = N := by omega
        go_wp2_with fail
        go_ret
        refine ⟨_, rfl, ?_, hbel⟩
        have h1 := HCU.out.2
        rw [List.take_of_length_le (Nat.le_of_eq HCU.out.1), List.take_of_length_le (by rw [repL_length, hlen.out, Nat.mul_comm, ← HN.out]; exact Nat.le_refl _)] at h1
        rw [← h1]
        exact hblk.own HCU.out.1 (Nat.le_refl _) (by omega)

end Go.Proofs.YtgpkcooipadnpaaDoor
