/-
  Contract of ganseylaw13.row. No conditions beyond those stated.
-/
import Derived.Test.YtgpkcooipadnpaaDoorCofC
import Derived.Deep.CutRange
import Derived.Deep.CutBlock
namespace Go.Proofs.YtgpkcooipadnpaaDoor
set_option linter.unusedSimpArgs false
set_option linter.unusedVariables false
open Go.RowKit
set_option maxRecDepth 100000

/-- Slices of the call's own that hold elements of two types lie in two blocks. -/
theorem Own.apart {w : World} {b1 b2 e1 e2 s1 s2 n1 n2 c1 c2 : Nat} {A1 A2 : Option Addr} {x1 x2 : List Value} (h1 : Own w b1 e1 s1 A1 n1 c1 x1) (h2 : Own w b2 e2 s2 A2 n2 c2 x2) (he : e1 ≠ e2) : ownB A1 = none ∨ ownB A1 ≠ ownB A2 := by
  rcases h1.2 with ⟨hv, _⟩ | ⟨g, cap, cur, hv, _, hh, _⟩
  · injection hv with hv _ _
    rw [hv]
    exact .inl rfl
  · injection hv with hv _ _
    subst hv
    rcases h2.2 with ⟨hv2, _⟩ | ⟨g2, cap2, cur2, hv2, _, hh2, _⟩
    · injection hv2 with hv2 _ _
      rw [hv2]
      exact .inr (by simp [ownB])
    · injection hv2 with hv2 _ _
      subst hv2
      refine .inr fun e => ?_
      simp only [ownB, Option.map_some, Option.some.injEq] at e
      subst e
      rw [hh] at hh2
      injection hh2 with hh2
      injection hh2 with _ hh2 _
      exact he hh2

/-- What row answers. -/
def CRow (w : World) (e : Ending) (w' : World) : Prop :=
  ∃ (A n c : _) (row : List St) (B m d : _) (nx : List Int), e = .returned (.tuple #[.slice A n c, .slice B m d]) ∧ Own w' w.heap.size 29 5 A n c (sc row) ∧ Own w' w.heap.size 3 1 B m d (iv .i64 nx) ∧ (∀ x ∈ row, x.valid = true) ∧ (∀ y ∈ nx, 1 ≤ y ∧ y ≤ 3) ∧ 1 ≤ n ∧ n ≤ m ∧ m ≤ 8

/-- What the choice of a stitch leaves in its block. -/
def SwOut (g lf n7 : Nat) (ls : List Int) (wr wx : World) : Prop :=
  ∃ x : St, Blk wx g 29 x.cells ∧ x.valid = true ∧ needsN x ≤ lf ∧ (x.kind = 3 → n7 + lf < 8) ∧ (x.kind = 4 ∨ x.kind = 5 → ls.getD 0 0 + ls.getD 1 0 ≤ 4) ∧ (x.kind = 6 → ls.getD 0 0 < 3) ∧ Below wr.heap.size wr wx
theorem SwOut.drewN {g lf n7 : Nat} {ls : List Int} {wr wx : World} (h : SwOut g lf n7 ls wr wx) (q : Nat) : SwOut g lf n7 ls wr (wx.drewN q) := by
  obtain ⟨x, h1, h2, h3, h4, h5, h6, h7⟩ := h
  exact ⟨x, h1, h2, h3, h4, h5, h6, below_drewN h7 q⟩
theorem drop_getD (l : List Int) (i j : Nat) : (l.drop i).getD j 0 = l.getD (i + j) 0 := by
  rw [List.getD_eq_getElem?_getD, List.getElem?_drop, ← List.getD_eq_getElem?_getD]
theorem getD_of {l : List Int} {i : Nat} {y : Int} (h : l[i]? = some y) : l.getD i 0 = y := by
  rw [List.getD_eq_getElem?_getD, h]; rfl
theorem plain_valid {k y : Int} (hk : 1 ≤ k ∧ k ≤ 7) (hy : 1 ≤ y ∧ y ≤ 6) : (St.mk k y 0 0 false).valid = true := by
  rw [St.other (x := ⟨k, y, 0, 0, false⟩) (by simpa using hy) (by simpa using hk.1) (by simpa using hk.2)]
  simp

set_option maxHeartbeats 8000000 in
theorem crow_any (A B : Option Addr) (n c m d : Nat) (ls ch : List Int) (w : World) (hl : Ints .i64 w A n ls) (hc : Ints .u8 w B m ch) (h13 : ∀ y ∈ ls, 1 ≤ y ∧ y ≤ 3) (hch : ∀ y ∈ ch, 0 ≤ y ∧ y ≤ 255) (hn1 : 1 ≤ n) (hn8 : n ≤ 8) (hnc : n ≤ c) (hcm : c ≤ 9223372036854775807) (hmm : m ≤ 9223372036854775807) :
    Calls Tryd.prog 34 #[.slice A n c, .slice B m d] w fun e w' => CRow w e w' ∧ Below w.heap.size w w' := by
  have HL := Lib.hid hl
  have HC := Lib.hid hc
  have H13 : Hid (∀ (k : Nat) (y : Int), ls[k]? = some y → 1 ≤ y ∧ y ≤ 3) := Lib.hid fun k y hk => h13 y (List.mem_of_getElem? hk)
  have HCH : Hid (∀ (k : Nat) (y : Int), ch[k]? = some y → 0 ≤ y ∧ y ≤ 255) := Lib.hid fun k y hk => hch y (List.mem_of_getElem? hk)
  clear hl hc h13 hch
  go_enter Tryd.func34, Tryd.ntmps34
  go_wp2_with fail
  go_loopg [6, 7, 8, 9] (16 * n + (8 - n)) (fun r v6 v7 v8 v9 wr => ∃ (i n6 c6 n7 c7 : Nat) (A6 A7 : Option Addr) (row : List St) (nx : List Int), v6 = .slice A6 n6 c6 ∧ v7 = .slice A7 n7 c7 ∧ v8 = .int .i64 i ∧ v9 = .int .i64 n6 ∧ i ≤ n ∧ n6 ≤ n7 ∧ n7 + (n - i) ≤ 8 ∧ (i = 0 ∨ 1 ≤ n6) ∧ r = 16 * (n - i) + (8 - (n7 + (n - i))) ∧
    Own wr w.heap.size 29 5 A6 n6 c6 (sc row) ∧ Own wr w.heap.size 3 1 A7 n7 c7 (iv .i64 nx) ∧ Hid (∀ x ∈ row, x.valid = true) ∧ Hid (∀ y ∈ nx, 1 ≤ y ∧ y ≤ 3) ∧ Below w.heap.size w wr)
  case atStart => exact ⟨0, 0, 0, 0, 0, none, none, [], [], rfl, rfl, rfl, rfl, by omega, by omega, by omega, .inl rfl, by omega, Own.nil_, Own.nil_, Lib.hid (by simp), Lib.hid (by simp), Below.refl _ _⟩
  case round =>
    obtain ⟨i, n6, c6, n7, c7, A6, A7, row, nx, rfl, rfl, rfl, rfl, hi, h67, h78, hi0, hr, ho6, ho7, HRV, HNX, hbel⟩ := hrel
    rcases Nat.lt_or_ge i n with hlt | hge
    · have hib : decide ((i : Int) < (n : Int)) = true := by simp; omega
      go_upto_if 26 with fail
      go_cut [10] from 17 to 138 (fun v wx => (∃ x : Int, v = .int .u8 x ∧ 0 ≤ x ∧ x ≤ 255) ∧ wr = wx)
      case first =>
        have hcr := HC.out.below hbel
        rcases Nat.lt_or_ge n6 m with hk | hk
        · have hkb : decide ((n6 : Int) < (m : Int)) = true := by simp; omega
          have hkb2 : decide (n6 < m) = true := by simp; omega
          obtain ⟨ad, rfl, hadb, y, hy, cy⟩ := hcr.at_ hk
          have hy3 := HCH.out n6 y hy
          have HYI := Lib.hid hy
          clear hy hcr
          go_wp2_with fail
          go_meet
          exact ⟨⟨y, rfl, hy3.1, hy3.2⟩, rfl⟩
        · have hkb : decide ((n6 : Int) < (m : Int)) = false := by simp; omega
          have hkb2 : decide (n6 < m) = false := by simp; omega
          clear hcr
          go_wp2_with fail
          go_meet
          exact ⟨⟨0, rfl, by omega, by omega⟩, rfl⟩
      case rest =>
        obtain ⟨⟨x, rfl, hx0, hx1⟩, rfl⟩ := hcut
        obtain ⟨lf, hlf⟩ : ∃ lf, lf = n - i := ⟨_, rfl⟩
        have hlf1 : 1 ≤ lf := by omega
        have hlf8 : n7 + lf ≤ 8 := by omega
        have hsub : (n : Int) - (i : Int) = (lf : Int) := by omega
        have HLF := Lib.hid hlf
        clear hlf
        obtain ⟨y, hy⟩ : ∃ y, y = 1 + x / 16 % 3 := ⟨_, rfl⟩
        have hy1 : 1 ≤ y ∧ y ≤ 6 := by omega
        have hB0 : Blk (wr.alloc (.cells #[.int .u8 1, .int .u8 y, .int .i64 0, .int .i64 0, .bool false] 29)) wr.heap.size 29 [.int .u8 1, .int .u8 y, .int .i64 0, .int .i64 0, .bool false] := Blk.new wr 29 [.int .u8 1, .int .u8 y, .int .i64 0, .int .i64 0, .bool false]
        have hbl0 : Below wr.heap.size wr (wr.alloc (.cells #[.int .u8 1, .int .u8 y, .int .i64 0, .int .i64 0, .bool false] 29)) := (Below.refl _ _).alloc (Nat.le_refl _) _
        go_upto_region 12 with fail
        have HYE := Lib.hid hy
        rw [← HYE.out]
        clear hy
        obtain ⟨g, hg⟩ : ∃ g, g = wr.heap.size := ⟨_, rfl⟩
        generalize wr.alloc (.cells #[.int .u8 1, .int .u8 y, .int .i64 0, .int .i64 0, .bool false] 29) = w5 at *
        rw [← hg] at hB0 ⊢
        have HG := Lib.hid hg
        clear hg
        have hl5 := HL.out.below (hbel.trans (hbl0.mono hbel.size))
        have HLD := Lib.hid (hl5.drop (k := i) (by omega))
        rw [← HLF.out] at HLD
        have hz16 : x % 16 = 0 ∨ x % 16 = 1 ∨ x % 16 = 2 ∨ x % 16 = 3 ∨ x % 16 = 4 ∨ x % 16 = 5 ∨ x % 16 = 6 ∨ x % 16 = 7 ∨ x % 16 = 8 ∨ x % 16 = 9 ∨ (10 ≤ x % 16 ∧ x % 16 ≤ 14) ∨ x % 16 = 15 := by omega
        have c0 := hB0.cell 0
        have c1 := hB0.cell 1
        have c2 := hB0.cell 2
        have c3 := hB0.cell 3
        have c4 := hB0.cell 4
        simp only [List.getElem?_cons_zero, List.getElem?_cons_succ] at c0 c1 c2 c3 c4
        have f0 := hB0.frozen 0
        have hglt := hB0.lt
        have HB := Lib.hid hB0
        have hgw : Below wr.heap.size wr (w5.setCell ⟨g, 0, none⟩ (.int .u8 0)) := by rw [HG.out]; exact hbl0.setCell (Nat.le_refl _) _
        have HST : Hid (∀ k : Int, 1 ≤ k ∧ k ≤ 7 → (k = 3 → n7 + lf < 8) → (k = 4 ∨ k = 5 → 2 ≤ lf ∧ (ls.drop i).getD 0 0 + (ls.drop i).getD 1 0 ≤ 4) → (k = 6 → (ls.drop i).getD 0 0 < 3) → SwOut g lf n7 (ls.drop i) wr (w5.setCell ⟨g, 0, none⟩ (.int .u8 k))) := Lib.hid fun k hk k3 k45 k6 => by
          refine ⟨⟨k, y, 0, 0, false⟩, HB.out.set_ 0 _, plain_valid hk hy1, ?_, k3, fun h => (k45 h).2, k6, by rw [HG.out]; exact hbl0.setCell (Nat.le_refl _) _⟩
          unfold needsN
          simp only
          split
          · omega
          · rw [if_neg (by omega)]
            split
            · rename_i h; exact (k45 h).1
            · exact hlf1
        have HS1 : Hid (SwOut g lf n7 (ls.drop i) wr w5) := Lib.hid ⟨⟨1, y, 0, 0, false⟩, HB.out, plain_valid (by omega) hy1, (by show needsN ⟨1, y, 0, 0, false⟩ ≤ lf; unfold needsN; simp; exact hlf1), (fun h => by simp at h), (fun h => by simp at h), (fun h => by simp at h), hbl0⟩
        clear hgw hB0
        go_upto_block 2 with fail
        go_cut [13] from 17 to 138 (fun v wx => SwOut g lf n7 (ls.drop i) wr wx)
        case first =>
          rcases hz16 with hz | hz | hz | hz | hz | hz | hz | hz | hz | hz | hz | hz
          · go_wp2_with fail
            go_meet
            exact HS1.out
          · go_wp2_with fail
            go_meet
            exact HST.out 2 (by omega) (by omega) (by omega) (by omega)
          · go_wp2_with fail
            go_meet
            exact HST.out 2 (by omega) (by omega) (by omega) (by omega)
          · rcases Nat.lt_or_ge (n7 + lf) 8 with hov | hov
            · have hob : decide ((n7 : Int) + (lf : Int) < 8) = true := by simp; omega
              go_wp2_with fail
              go_meet
              exact HST.out 3 (by omega) (fun _ => hov) (by omega) (by omega)
            · have hob : decide ((n7 : Int) + (lf : Int) < 8) = false := by simp; omega
              go_wp2_with fail
              go_meet
              exact HS1.out
          · rcases Nat.lt_or_ge 1 lf with hl2 | hl2
            · have hlb : decide (1 < (lf : Int)) = true := by simp; omega
              have hlb2 : decide (1 < lf) = true := by simp; omega
              have hin : i + 1 < n := by have := HLF.out; omega
              obtain ⟨ad, rfl, hadb, ya, hya, cya⟩ := hl5.at_ (k := i) (by omega)
              obtain ⟨ad1, he1, _, yb, hyb, cyb⟩ := hl5.at_ (k := i + 1) hin
              injection he1 with he1
              subst he1
              have hya3 := H13.out _ _ hya
              have hyb3 := H13.out _ _ hyb
              have HYA := Lib.hid (getD_of hya)
              have HYB := Lib.hid (getD_of hyb)
              have hws : IntKind.i64.wrap (ya + yb) = ya + yb := IntWalk.i64_in _ (by omega)
              have hwi : IntKind.i64.wrap ((i : Int) + 1) = (i : Int) + 1 := IntWalk.i64_in _ (by omega)
              have hIi : (i : Int) + 1 < (n : Int) := by omega
              rw [add_succ] at cyb
              clear hya hyb
              by_cases hsum : ya + yb ≤ 4
              · have hsb : decide (ya + yb ≤ 4) = true := decide_eq_true hsum
                go_wp2_with fail
                go_quiet (fail)
                go_wp2_with fail
                go_meet
                exact (HST.out 4 (by omega) (by omega) (fun _ => ⟨hl2, by rw [drop_getD, drop_getD, Nat.add_zero, HYA.out, HYB.out]; exact hsum⟩) (by omega)).drewN _
              · have hsb : decide (ya + yb ≤ 4) = false := decide_eq_false hsum
                go_wp2_with fail
                go_quiet (fail)
                go_wp2_with fail
                go_meet
                exact HS1.out.drewN _
            · have hlb : decide (1 < (lf : Int)) = false := by simp; omega
              have hlb2 : decide (1 < lf) = false := by simp; omega
              go_wp2_with fail
              go_quiet (fail)
              go_wp2_with fail
              go_meet
              exact HS1.out.drewN _
          · rcases Nat.lt_or_ge 1 lf with hl2 | hl2
            · have hlb : decide (1 < (lf : Int)) = true := by simp; omega
              have hlb2 : decide (1 < lf) = true := by simp; omega
              have hin : i + 1 < n := by have := HLF.out; omega
              obtain ⟨ad, rfl, hadb, ya, hya, cya⟩ := hl5.at_ (k := i) (by omega)
              obtain ⟨ad1, he1, _, yb, hyb, cyb⟩ := hl5.at_ (k := i + 1) hin
              injection he1 with he1
              subst he1
              have hya3 := H13.out _ _ hya
              have hyb3 := H13.out _ _ hyb
              have HYA := Lib.hid (getD_of hya)
              have HYB := Lib.hid (getD_of hyb)
              have hws : IntKind.i64.wrap (ya + yb) = ya + yb := IntWalk.i64_in _ (by omega)
              have hwi : IntKind.i64.wrap ((i : Int) + 1) = (i : Int) + 1 := IntWalk.i64_in _ (by omega)
              have hIi : (i : Int) + 1 < (n : Int) := by omega
              rw [add_succ] at cyb
              clear hya hyb
              by_cases hsum : ya + yb ≤ 4
              · have hsb : decide (ya + yb ≤ 4) = true := decide_eq_true hsum
                go_wp2_with fail
                go_quiet (fail)
                go_wp2_with fail
                go_meet
                exact (HST.out 5 (by omega) (by omega) (fun _ => ⟨hl2, by rw [drop_getD, drop_getD, Nat.add_zero, HYA.out, HYB.out]; exact hsum⟩) (by omega)).drewN _
              · have hsb : decide (ya + yb ≤ 4) = false := decide_eq_false hsum
                go_wp2_with fail
                go_quiet (fail)
                go_wp2_with fail
                go_meet
                exact HS1.out.drewN _
            · have hlb : decide (1 < (lf : Int)) = false := by simp; omega
              have hlb2 : decide (1 < lf) = false := by simp; omega
              go_wp2_with fail
              go_quiet (fail)
              go_wp2_with fail
              go_meet
              exact HS1.out.drewN _
          · obtain ⟨ad, rfl, hadb, ya, hya, cya⟩ := hl5.at_ (k := i) (by omega)
            have HYA := Lib.hid (getD_of hya)
            clear hya
            by_cases hya3 : ya < 3
            · have hyb : decide (ya < 3) = true := decide_eq_true hya3
              go_wp2_with fail
              go_meet
              exact HST.out 6 (by omega) (by omega) (by omega) (fun _ => by rw [drop_getD, Nat.add_zero, HYA.out]; exact hya3)
            · have hyb : decide (ya < 3) = false := decide_eq_false hya3
              go_wp2_with fail
              go_meet
              exact HS1.out
          · obtain ⟨ad, rfl, hadb, ya, hya, cya⟩ := hl5.at_ (k := i) (by omega)
            have HYA := Lib.hid (getD_of hya)
            clear hya
            by_cases hya3 : ya < 3
            · have hyb : decide (ya < 3) = true := decide_eq_true hya3
              go_wp2_with fail
              go_meet
              exact HST.out 6 (by omega) (by omega) (by omega) (fun _ => by rw [drop_getD, Nat.add_zero, HYA.out]; exact hya3)
            · have hyb : decide (ya < 3) = false := decide_eq_false hya3
              go_wp2_with fail
              go_meet
              exact HS1.out
          · go_wp2_with fail
            go_meet
            exact HST.out 7 (by omega) (by omega) (by omega) (by omega)
          · go_wp2_with fail
            go_meet
            exact HST.out 7 (by omega) (by omega) (by omega) (by omega)
          · have hz5 : x % 16 = 10 ∨ x % 16 = 11 ∨ x % 16 = 12 ∨ x % 16 = 13 ∨ x % 16 = 14 := by omega
            clear hz
            have HKO := Lib.hid (kof_any (x - x / 16 * 16) (decide (128 ≤ x)) w5 (by omega) (by omega))
            rcases hz5 with hz | hz | hz | hz | hz
            all_goals
              go_wp2_with fail
              refine HKO.out.mono ?_
              rintro e w6 ⟨⟨t, rfl, htv, htk⟩, hb6⟩
              have hcs := cable_sum htv htk
              have HTK := Lib.hid htk
              have HTV := Lib.hid htv
              clear htk htv
              have hB6 := HB.out.below hb6 hglt
              have hBQ : Blk (w6.alloc (.cells #[.int .u8 t.kind, .int .u8 t.yarn, .int .i64 t.a, .int .i64 t.b, .bool t.front] 29)) w6.heap.size 29 [.int .u8 t.kind, .int .u8 t.yarn, .int .i64 t.a, .int .i64 t.b, .bool t.front] := Blk.new w6 29 [.int .u8 t.kind, .int .u8 t.yarn, .int .i64 t.a, .int .i64 t.b, .bool t.front]
              have hBG := hB6.alloc (.cells #[.int .u8 t.kind, .int .u8 t.yarn, .int .i64 t.a, .int .i64 t.b, .bool t.front] 29)
              have hbl7 : Below wr.heap.size wr (w6.alloc (.cells #[.int .u8 t.kind, .int .u8 t.yarn, .int .i64 t.a, .int .i64 t.b, .bool t.front] 29)) := (hbl0.trans (hb6.mono hbl0.size)).alloc (Nat.le_trans hbl0.size hb6.size) _
              have hgq : g < w6.heap.size := Nat.lt_of_lt_of_le hglt hb6.size
              have hrq : wr.heap.size ≤ w6.heap.size := Nat.le_trans hbl0.size hb6.size
              clear c0 c1 c2 c3 c4 f0 hglt
              go_upto_region 36 with fail
              generalize w6.alloc (.cells #[.int .u8 t.kind, .int .u8 t.yarn, .int .i64 t.a, .int .i64 t.b, .bool t.front] 29) = w7 at *
              clear hb6 hB6
              generalize w6.heap.size = q at *
              have q0 := hBQ.cell 0
              have q1 := hBQ.cell 1
              have q2 := hBQ.cell 2
              have q3 := hBQ.cell 3
              have q4 := hBQ.cell 4
              have qf := hBQ.frozen 1
              have g0 := hBG.cell 0
              have g1 := hBG.cell 1
              have g2 := hBG.cell 2
              have g3 := hBG.cell 3
              have g4 := hBG.cell 4
              have gf0 := hBG.frozen 0
              have gf1 := hBG.frozen 1
              have gf2 := hBG.frozen 2
              have gf3 := hBG.frozen 3
              have gf4 := hBG.frozen 4
              simp only [List.getElem?_cons_zero, List.getElem?_cons_succ] at q0 q1 q2 q3 q4 g0 g1 g2 g3 g4
              have hne1 : ¬ g = q := by omega
              have hne2 : ¬ q = g := by omega
              by_cases hfit : t.a + t.b ≤ (lf : Int)
              · have hfb : decide (t.a + t.b ≤ (lf : Int)) = true := decide_eq_true hfit
                have hxv : (St.mk t.kind y t.a t.b t.front).valid = true := by
                  rw [St.eight (x := ⟨t.kind, y, t.a, t.b, t.front⟩) (by simpa using hy1) HTK.out]
                  exact decide_eq_true (by simpa using hcs)
                have hxn : needsN (St.mk t.kind y t.a t.b t.front) ≤ lf := by
                  unfold needsN
                  simp only
                  rw [HTK.out, if_neg (by omega), if_pos rfl]
                  omega
                have HXV := Lib.hid hxv
                have HXN := Lib.hid hxn
                clear hxv hxn
                go_wp2_with fail
                go_meet
                exact ⟨⟨t.kind, y, t.a, t.b, t.front⟩, ((((((hBG.far (p := ⟨q, 1, none⟩) hne1 _).set_ 0 _).set_ 1 _).set_ 2 _).set_ 3 _).set_ 4 _), HXV.out, HXN.out, (fun h => by have h8 : t.kind = 8 := HTK.out; simp only at h; omega), (fun h => by have h8 : t.kind = 8 := HTK.out; simp only at h; omega), (fun h => by have h8 : t.kind = 8 := HTK.out; simp only at h; omega), ((((((hbl7.setCell (p := ⟨q, 1, none⟩) hrq _).setCell (p := ⟨g, 0, none⟩) (Nat.le_of_eq HG.out.symm) _).setCell (p := ⟨g, 1, none⟩) (Nat.le_of_eq HG.out.symm) _).setCell (p := ⟨g, 2, none⟩) (Nat.le_of_eq HG.out.symm) _).setCell (p := ⟨g, 3, none⟩) (Nat.le_of_eq HG.out.symm) _).setCell (p := ⟨g, 4, none⟩) (Nat.le_of_eq HG.out.symm) _)⟩
              · have hfb : decide (t.a + t.b ≤ (lf : Int)) = false := decide_eq_false hfit
                go_wp2_with fail
                go_meet
                exact ⟨⟨1, y, 0, 0, false⟩, hBG, plain_valid (by omega) hy1, (by show needsN ⟨1, y, 0, 0, false⟩ ≤ lf; unfold needsN; simp; exact hlf1), (fun h => by simp at h), (fun h => by simp at h), (fun h => by simp at h), hbl7⟩
          · go_wp2_with fail
            go_meet
            exact HS1.out
        case rest =>
          obtain ⟨s, hBs, hvs, hns, h3, h45, h6, hbs⟩ := hcut
          clear c0 c1 c2 c3 c4 f0 hglt hz16 HS1 HST HB hl5
          have hbw : Below w.heap.size w wc := hbel.trans (hbs.mono hbel.size)
          have ho6c := ho6.below hbs
          have ho7c := ho7.below hbs
          clear ho6 ho7
          have c0 := hBs.cell 0
          have c1 := hBs.cell 1
          have c2 := hBs.cell 2
          have c3 := hBs.cell 3
          have c4 := hBs.cell 4
          simp only [St.cells, List.getElem?_cons_zero, List.getElem?_cons_succ] at c0 c1 c2 c3 c4
          obtain ⟨nn, hnn⟩ : ∃ nn, nn = needsN s := ⟨_, rfl⟩
          have HND := Lib.hid (needs_any s wc hvs)
          have HBS := Lib.hid hBs
          have hin : i + nn ≤ n := by have := HLF.out; omega
          have hnn4 : nn ≤ 4 := by rw [hnn]; exact (needs_le hvs).1
          rw [← hnn] at HND
          obtain ⟨ad, hA, hadb, _⟩ := (HL.out.below hbw).at_ (k := i) hlt
          subst hA
          have hldc := ((HL.out.below hbw).drop (k := i) (by omega)).take (k := nn) (by omega)
          have HLDC := Lib.hid hldc
          have HNN := Lib.hid hnn
          have HVS := Lib.hid hvs
          have H45S := Lib.hid h45
          have H6S := Lib.hid h6
          have H3S := Lib.hid h3
          clear hnn hldc hBs hns hvs h45 h6 h3
          go_wp2_with fail
          refine HND.out.mono ?_
          rintro e w8 ⟨rfl, hb8⟩
          have hBS8 := HBS.out.below hb8 HBS.out.lt
          have hbw8 := hbw.trans (hb8.mono hbw.size)
          have ho68 := ho6c.below hb8
          have ho78 := ho7c.below hb8
          have hld8 := HLDC.out.below hb8
          clear c0 c1 c2 c3 c4 ho6c ho7c
          have c0 := hBS8.cell 0
          have c1 := hBS8.cell 1
          have c2 := hBS8.cell 2
          have c3 := hBS8.cell 3
          have c4 := hBS8.cell 4
          simp only [St.cells, List.getElem?_cons_zero, List.getElem?_cons_succ] at c0 c1 c2 c3 c4
          have hwn : IntKind.i64.wrap ((i : Int) + (nn : Int)) = (i : Int) + (nn : Int) := IntWalk.i64_in _ (by omega)
          have hI1 : (i : Int) + (nn : Int) ≤ (c : Int) := by omega
          have hI2 : (0 : Int) ≤ (i : Int) + (nn : Int) := by omega
          have hI3 : (i : Int) ≤ (i : Int) + (nn : Int) := by omega
          have hI4 : i + nn ≤ c := by omega
          have hI5 : ¬ c = i := by omega
          have hs2 : i + nn - i = nn := by omega
          have HLO : Hid (Calls Tryd.prog 46 #[.agg #[.int .u8 s.kind, .int .u8 s.yarn, .int .i64 s.a, .int .i64 s.b, .bool s.front], .slice (some (ad.add i)) nn (c - i)] w8.drew fun e w' => LOut s w8.drew e w' ∧ Below w8.drew.heap.size w8.drew w') := Lib.hid (loads_any s (some (ad.add i)) nn (c - i) ((ls.drop i).take nn) w8.drew HVS.out hld8 HNN.out
            (fun y hy => by
              obtain ⟨k, hk⟩ := List.getElem?_of_mem (List.mem_of_mem_drop (List.mem_of_mem_take hy))
              exact H13.out k y hk)
            (fun h => by
              have h2 : nn = 2 := by
                rw [HNN.out]
                unfold needsN
                rw [if_neg (by omega), if_neg (by omega), if_pos h]
              have := H45S.out h
              rw [List.getD_eq_getElem?_getD, List.getElem?_take, if_pos (by omega), List.getD_eq_getElem?_getD, List.getElem?_take, if_pos (by omega), ← List.getD_eq_getElem?_getD, ← List.getD_eq_getElem?_getD]
              exact this)
            (fun h => by
              have h1 : nn = 1 := by
                rw [HNN.out]
                unfold needsN
                rw [if_neg (by omega), if_neg (by omega), if_neg (by omega)]
              have := H6S.out h
              rw [List.getD_eq_getElem?_getD, List.getElem?_take, if_pos (by omega), ← List.getD_eq_getElem?_getD]
              exact this))
          have HLP : Hid (Calls Tryd.prog 46 #[.agg #[.int .u8 s.kind, .int .u8 s.yarn, .int .i64 s.a, .int .i64 s.b, .bool s.front], .slice (some (ad.add i)) (((i : Int) + (nn : Int)).toNat - i) (c - i)] w8.drew fun e w' => LOut s w8.drew e w' ∧ Below w8.drew.heap.size w8.drew w') := Lib.hid (by rw [show ((i : Int) + (nn : Int)).toNat - i = nn by omega]; exact HLO.out)
          clear hs2
          go_wp2_with fail
          go_region_held3 (fun W => W.cell? ⟨g, 0, none⟩ = some (.int .u8 s.kind) ∧ W.cell? ⟨g, 1, none⟩ = some (.int .u8 s.yarn) ∧ W.cell? ⟨g, 2, none⟩ = some (.int .i64 s.a) ∧ W.cell? ⟨g, 3, none⟩ = some (.int .i64 s.b) ∧ W.cell? ⟨g, 4, none⟩ = some (.bool s.front)) (first | exact ⟨c0, c1, c2, c3, c4⟩ | exact ⟨z0, z1, z2, z3, z4⟩ | go_keep) (first
            | (go_at_call 46
               (with_reducible refine HLP.out.mono ?_)
               rintro e w9 ⟨⟨A9, m9, c9, ls9, rfl, hi9, hm9, h139, hc91, hc92, hf9⟩, hb9⟩
               have hBS9 := hBS8.drew.below hb9 hBS8.lt
               have z0 := hBS9.cell 0
               have z1 := hBS9.cell 1
               have z2 := hBS9.cell 2
               have z3 := hBS9.cell 3
               have z4 := hBS9.cell 4
               simp only [St.cells, List.getElem?_cons_zero, List.getElem?_cons_succ] at z0 z1 z2 z3 z4))
          have ho69 : Own w9 w.heap.size 29 5 A6 n6 c6 (sc row) := ho68.drew.below hb9
          have ho79 : Own w9 w.heap.size 3 1 A7 n7 c7 (iv .i64 nx) := ho78.drew.below hb9
          have hbw9 : Below w.heap.size w w9 := hbw8.drew.trans (hb9.mono hbw8.size)
          have hs69 : ∀ b, ownB A6 = some b → b < w8.heap.size := fun b hb => (ho68.low b hb).2
          have hlit : Sts (w9.alloc (.cells #[.int .u8 s.kind, .int .u8 s.yarn, .int .i64 s.a, .int .i64 s.b, .bool s.front] 29)) (some ⟨w9.heap.size, 0, none⟩) 1 [s] := Sts.lit w9 29 [s]
          have hn68 : n6 ≤ 8 := by omega
          have hmk : m9 ≤ 4 := by rw [hm9]; exact (needs_le HVS.out).2.1
          have hmk1 : 1 ≤ m9 := by rw [hm9]; exact (needs_le HVS.out).2.2.1
          have HCS : Hid ((1 ≤ nn ∧ m9 ≤ nn) ∨ (nn = 0 ∧ m9 = 1 ∧ n7 + lf < 8)) := Lib.hid (by
            by_cases h3 : s.kind = 3
            · refine .inr ⟨?_, ?_, H3S.out h3⟩
              · rw [HNN.out]; unfold needsN; rw [if_pos h3]
              · rw [hm9]; unfold makesN; rw [if_neg (by omega)]
            · have := (needs_le HVS.out).2.2.2 h3
              rw [HNN.out, hm9]
              exact .inl this)
          have HM9 := Lib.hid hm9
          have H139 := Lib.hid h139
          rw [← HM9.out]
          clear hm9 h139 z0 z1 z2 z3 z4 c0 c1 c2 c3 c4 hBS9 hBS8 hld8 ho68 ho78
          go_wp2_with (first
            | (at_builtin; refine wpList_app (w9.alloc (.cells #[.int .u8 s.kind, .int .u8 s.yarn, .int .i64 s.a, .int .i64 s.b, .bool s.front] 29)) rfl (.tmp 129) (.tmp 131) 22 rfl w.heap.size 29 Tryd.underlying22 elemSt A6 n6 c6 _ rfl (ho69.alloc _) _ _ 1 1 (sc [s]) rfl hlit (sc_one _) (by omega) (by have := hbw9.size; simp; omega) ?_; intro A10 c10 w10 hown10 hg10 ha10; have ho710 := (ho79.alloc (.cells #[.int .u8 s.kind, .int .u8 s.yarn, .int .i64 s.a, .int .i64 s.b, .bool s.front] 29)).kept hg10 (Own.apart ho79 ho69 (by decide)); have hi10 : Ints .i64 w10 A9 m9 ls9 := Ints.grown_far (hi9.alloc _) hg10 (fun ad e h => by have h1 := hs69 _ h; have h2 := hf9 ad e; exact absurd h1 (Nat.not_lt.2 h2)); have hbw10 : Below w.heap.size w w10 := (hbw9.alloc hbw9.size _).trans ((ho69.alloc (.cells #[.int .u8 s.kind, .int .u8 s.yarn, .int .i64 s.a, .int .i64 s.b, .bool s.front] 29)).belowG hg10 (by have := hbw9.size; simp; omega)))
            | (at_builtin; refine wpList_app w10 rfl (.tmp 133) (.tmp 134) 70 rfl w.heap.size 3 Tryd.underlying70 elemIntB A7 n7 c7 _ rfl ho710 w10.heap.size A9 m9 c9 _ rfl hi10 (iv_one _ _) (by omega) hbw10.size ?_; intro A11 c11 w11 hown11 hg11 ha11))
          have ho6f := hown10.kept hg11 (Own.apart hown10 ho710 (by decide))
          have hbwf : Below w.heap.size w w11 := hbw10.trans (ho710.belowG hg11 hbw10.size)
          go_roundg (16 * (n - (i + nn)) + (8 - (n7 + m9 + (n - (i + nn)))))
          case measure =>
            have := HCS.out
            have := HLF.out
            omega
          case rel => exact ⟨i + nn, n6 + 1, c10, n7 + m9, c11, A10, A11, row ++ [s], nx ++ ls9, rfl, rfl, by go_num, by go_num, hin, by omega, by have := HCS.out; have := HLF.out; omega, .inr (by omega), rfl, by rw [sc_append]; exact ho6f, by rw [iv_append]; exact hown11,
            Lib.hid (fun y hy => (List.mem_append.1 hy).elim (HRV.out y) (fun h => by rw [List.mem_singleton.1 h]; exact HVS.out)), Lib.hid (fun y hy => (List.mem_append.1 hy).elim (HNX.out y) (H139.out y)), hbwf⟩
    · have hib : decide ((i : Int) < (n : Int)) = false := by simp; omega
      go_wp2_with fail
      go_ret2
      exact ⟨⟨A6, n6, c6, row, A7, n7, c7, nx, rfl, ho6, ho7, HRV.out, HNX.out, by omega, h67, by omega⟩, hbel⟩

end Go.Proofs.YtgpkcooipadnpaaDoor
