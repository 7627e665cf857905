/-
  Contract of the reference's Loads, for valid stitches on slots that they fit. No conditions beyond those stated.
-/
import Derived.Test.YtgpkcooipadnpaaDoorCofA
namespace Go.Proofs.YtgpkcooipadnpaaDoor
set_option linter.unusedSimpArgs false
set_option linter.unusedVariables false
open Go.RowKit
set_option maxRecDepth 100000

theorem elemIntB : Elem Tryd.prog 3 1 8 := elem_of (z := .int .i64 0) (by kernel_rfl) rfl (by omega) (by omega)

/-- What Loads answers. -/
def LOut (x : St) (w : World) (e : Ending) (w' : World) : Prop :=
  ∃ A m c ls, e = .returned (.tuple #[.slice A m c, .int .i64 0]) ∧ Ints .i64 w' A m ls ∧ m = makesN x ∧ (∀ y ∈ ls, 1 ≤ y ∧ y ≤ 3) ∧ m ≤ c ∧ c ≤ 9223372036854775807 ∧ Fresh w.heap.size A
theorem LOut.one {x : St} {w : World} {y : Int} (h : makesN x = 1) (hy : 1 ≤ y ∧ y ≤ 3) (W : World) (hW : w.heap.size ≤ W.heap.size) : LOut x w (.returned (.tuple #[.slice (some ⟨W.heap.size, 0, none⟩) 1 1, .int .i64 0])) (W.alloc (.cells #[.int .i64 y] 3)) := by
  refine ⟨_, 1, 1, [y], rfl, ?_, h.symm, by simpa using hy, Nat.le_refl _, by omega, fun ad e => by injection e with e; subst e; exact hW⟩
  have := Reads.box (size := 1) W 3 (iv .i64 [y]).toArray 1 (by simp [iv])
  exact Reads.more this (by simp)

set_option maxHeartbeats 8000000 in
theorem loads_any (x : St) (A : Option Addr) (n c : Nat) (ls : List Int) (w : World) (hv : x.valid = true) (hl : Ints .i64 w A n ls) (hn : n = needsN x) (h13 : ∀ y ∈ ls, 1 ≤ y ∧ y ≤ 3) (h45 : x.kind = 4 ∨ x.kind = 5 → ls.getD 0 0 + ls.getD 1 0 ≤ 4) (h6 : x.kind = 6 → ls.getD 0 0 < 3) :
    Calls Tryd.prog 46 #[x.val, .slice A n c] w fun e w' => LOut x w e w' ∧ Below w.heap.size w w' := by
  have hwf := valid_wf hv
  have hlen := hl.len
  have hnl := needs_le hv
  have HY := Lib.hid (validI_yes hv)
  have HVL := Lib.hid hv
  have hvb := valid_bounds hv
  have hx : x.val = .agg #[.int .u8 x.kind, .int .u8 x.yarn, .int .i64 x.a, .int .i64 x.b, .bool x.front] := rfl
  rw [hx]
  clear hx
  have hbl : Blk (w.alloc (.cells #[.int .u8 x.kind, .int .u8 x.yarn, .int .i64 x.a, .int .i64 x.b, .bool x.front] 29)) w.heap.size 29 [.int .u8 x.kind, .int .u8 x.yarn, .int .i64 x.a, .int .i64 x.b, .bool x.front] := Blk.new w 29 [.int .u8 x.kind, .int .u8 x.yarn, .int .i64 x.a, .int .i64 x.b, .bool x.front]
  have HB := Lib.hid hbl
  have HVV := Lib.hid (valid_any x (w.alloc (.cells #[.int .u8 x.kind, .int .u8 x.yarn, .int .i64 x.a, .int .i64 x.b, .bool x.front] 29)) hwf)
  have hbel0 : Below w.heap.size w (w.alloc (.cells #[.int .u8 x.kind, .int .u8 x.yarn, .int .i64 x.a, .int .i64 x.b, .bool x.front] 29)) := (Below.refl _ _).alloc (Nat.le_refl _) _
  have HL := Lib.hid hl
  have H13 : Hid (∀ (k : Nat) (y : Int), ls[k]? = some y → 1 ≤ y ∧ y ≤ 3) := Lib.hid fun k y hk => h13 y (List.mem_of_getElem? hk)
  have hk8 : x.kind ≤ 8 := hvb.2.1
  have hk1 : 1 ≤ x.kind := hvb.1
  have HN := Lib.hid hn
  have HNL := Lib.hid hnl
  have H45 := Lib.hid h45
  have H6 := Lib.hid h6
  have HLEN := Lib.hid hlen
  have hn4 : n ≤ 4 := by omega
  clear hbl hv hwf hl hn h13 h45 h6 hvb hnl hlen
  go_enter Tryd.func46, Tryd.ntmps46
  go_wp2_with fail
  refine HVV.out.mono ?_
  rintro e w1 ⟨rfl, hb1⟩
  rw [HY.out]
  have hB1 := HB.out.below hb1 HB.out.lt
  have hbel1 := hbel0.trans (hb1.mono (by simp))
  have c0 := hB1.cell 0
  have c1 := hB1.cell 1
  have c2 := hB1.cell 2
  have c3 := hB1.cell 3
  have c4 := hB1.cell 4
  simp only [List.getElem?_cons_zero, List.getElem?_cons_succ] at c0 c1 c2 c3 c4
  have HNE := Lib.hid (needs_any x w1 HVL.out)
  rw [← HN.out] at HNE
  have HB1 := Lib.hid hB1
  have HBL1 := Lib.hid hbel1
  clear hB1 hbel0 HB HVV hb1 hbel1
  go_wp2_with fail
  refine HNE.out.mono ?_
  rintro e w2 ⟨rfl, hb2⟩
  have hB2 := HB1.out.below hb2 HB1.out.lt
  have hbel2 := HBL1.out.trans (hb2.mono HBL1.out.size)
  have hl2 := HL.out.below hbel2
  clear c0 c1 c2 c3 c4 HNE hb2
  have hnb : ((n : Int) != (n : Int)) = false := by simp
  have c0 := hB2.cell 0
  have c1 := hB2.cell 1
  have c2 := hB2.cell 2
  have c3 := hB2.cell 3
  have c4 := hB2.cell 4
  simp only [List.getElem?_cons_zero, List.getElem?_cons_succ] at c0 c1 c2 c3 c4
  go_wp2_with fail
  go_loopg [6] n (fun r v wr => ∃ i : Nat, i ≤ n ∧ v = .int .i64 i ∧ r = n - i ∧ wr = w2)
  case atStart => exact ⟨0, by omega, rfl, rfl, rfl⟩
  case round =>
    obtain ⟨i, hi, rfl, hr, rfl⟩ := hrel
    rcases Nat.lt_or_ge i n with hlt | hge
    · have hib : decide ((i : Int) < (n : Int)) = true := by simp; omega
      obtain ⟨ad, rfl, hadb, y, hy, cy⟩ := hl2.at_ hlt
      have hy3 := H13.out i y hy
      have HYI := Lib.hid hy
      clear hy
      have hy : y = 1 ∨ y = 2 ∨ y = 3 := by omega
      rcases hy with rfl | rfl | rfl
      all_goals
        clear hy3
        go_wp2_with fail
        go_roundg (n - i - 1)
        case measure => omega
        case rel => exact ⟨i + 1, by omega, by go_num, by omega, rfl⟩
    · have hib : decide ((i : Int) < (n : Int)) = false := by simp; omega
      have hib2 : decide (i < n) = false := by simp; omega
      by_cases h4 : x.kind = 4 ∨ x.kind = 5
      · have h41 : (x.kind == 4) = true ∨ ((x.kind == 4) = false ∧ (x.kind == 5) = true) := by
          rcases h4 with h | h
          · exact .inl (by rw [h]; rfl)
          · exact .inr ⟨by rw [h]; rfl, by rw [h]; rfl⟩
        have hn2 : n = 2 := by
          have := HN.out
          unfold needsN at this
          rw [if_neg (by omega), if_neg (by omega), if_pos h4] at this
          exact this
        have HM : Hid (makesN x = 1) := Lib.hid (by unfold makesN; exact if_neg (by omega))
        have hs := H45.out h4
        subst hn2
        obtain ⟨ad, rfl, hadb, y0, hy0, cy0⟩ := hl2.at_ (k := 0) (by omega)
        obtain ⟨ad1, he1, _, y1, hy1, cy1⟩ := hl2.at_ (k := 1) (by omega)
        injection he1 with he1
        subst he1
        have hy03 := H13.out 0 y0 hy0
        have hy13 := H13.out 1 y1 hy1
        have hsum : y0 + y1 ≤ 4 := by
          rw [List.getD_eq_getElem?_getD, hy0, List.getD_eq_getElem?_getD, hy1] at hs
          exact hs
        have hsb : decide (4 < y0 + y1) = false := by simp; omega
        have hws : IntKind.i64.wrap (y0 + y1) = y0 + y1 := IntWalk.i64_in _ (by omega)
        rw [add_zero] at cy0
        rw [add_succ] at cy1
        clear hs hy0 hy1 h4
        rcases h41 with h41 | ⟨h41, h51⟩
        all_goals
          go_wp2_with fail
          go_quiet (fail)
          go_wp2_with fail
          go_ret2
          exact ⟨LOut.one HM.out (by omega) _ hbel2.size, (below_drewN hbel2 _).alloc hbel2.size _⟩
      · have hb4 : (x.kind == 4) = false := by rw [beq_eq_false_iff_ne]; exact fun h => h4 (.inl h)
        have hb5 : (x.kind == 5) = false := by rw [beq_eq_false_iff_ne]; exact fun h => h4 (.inr h)
        by_cases h6 : x.kind = 6 ∨ x.kind = 7
        · have hn1 : n = 1 := by
            have := HN.out
            unfold needsN at this
            rw [if_neg (by omega), if_neg (by omega), if_neg h4] at this
            exact this
          have HM : Hid (makesN x = 1) := Lib.hid (by unfold makesN; exact if_neg (by omega))
          have hs : x.kind = 6 → ls.getD 0 0 < 3 := H6.out
          subst hn1
          obtain ⟨ad, rfl, hadb, y0, hy0, cy0⟩ := hl2.at_ (k := 0) (by omega)
          have hy03 := H13.out 0 y0 hy0
          rw [List.getD_eq_getElem?_getD, hy0] at hs
          rw [add_zero] at cy0
          rcases h6 with h6 | h6
          · have hb6 : (x.kind == 6) = true := by rw [h6]; rfl
            have h3 : y0 < 3 := hs h6
            have hb3 : (y0 == 3) = false := by rw [beq_eq_false_iff_ne]; omega
            have HK := Lib.hid h6
            clear hs hy0 h4 h6
            go_wp2_with fail
            go_ret2
            exact ⟨LOut.one HM.out (by omega) _ hbel2.size, hbel2.alloc hbel2.size _⟩
          · have hb6 : (x.kind == 6) = false := by rw [h6]; rfl
            have hb7 : (x.kind == 7) = true := by rw [h6]; rfl
            have HK := Lib.hid h6
            clear hs hy0 h4 h6
            go_wp2_with fail
            go_ret2
            exact ⟨LOut.one HM.out (by omega) _ hbel2.size, hbel2.alloc hbel2.size _⟩
        · have hb6 : (x.kind == 6) = false := by rw [beq_eq_false_iff_ne]; exact fun h => h6 (.inl h)
          have hb7 : (x.kind == 7) = false := by rw [beq_eq_false_iff_ne]; exact fun h => h6 (.inr h)
          obtain ⟨M, hM⟩ : ∃ M, M = makesN x := ⟨_, rfl⟩
          have HM := Lib.hid hM
          have hM4 : M ≤ 4 := by rw [hM]; exact HNL.out.2.1
          clear hM h4 h6
          go_wp2_with fail
          rename World => w3
          go_loopg [7, 8] M (fun r v7 v8 wr => ∃ (i : Nat) (A7 : Option Addr) (c7 : Nat), i ≤ M ∧ v7 = .slice A7 i c7 ∧ v8 = .int .i64 i ∧ r = M - i ∧ Own wr (w.heap.size + 1) 3 1 A7 i c7 (iv .i64 (List.replicate i 1)) ∧ Below w.heap.size w wr ∧ Blk wr w.heap.size 29 [.int .u8 x.kind, .int .u8 x.yarn, .int .i64 x.a, .int .i64 x.b, .bool x.front])
          case atStart => exact ⟨0, none, 0, by omega, rfl, rfl, rfl, Own.nil_, hbel2, hB2⟩
          case round =>
            clear c0 c1 c2 c3 c4
            obtain ⟨i, A7, c7, hi, rfl, rfl, hr, hown, hbel3, hB3⟩ := hrel
            have c0 := hB3.cell 0
            have c1 := hB3.cell 1
            have c2 := hB3.cell 2
            have c3 := hB3.cell 3
            have c4 := hB3.cell 4
            simp only [List.getElem?_cons_zero, List.getElem?_cons_succ] at c0 c1 c2 c3 c4
            have HMK := Lib.hid (makes_any x wr HVL.out)
            rw [← HM.out] at HMK
            go_wp2_with fail
            refine HMK.out.mono ?_
            rintro e w4 ⟨rfl, hb4'⟩
            have hown4 := hown.below hb4'
            have hbel4 := hbel3.trans (hb4'.mono hbel3.size)
            have hB4 := hB3.below hb4' hB3.lt
            clear c0 c1 c2 c3 c4 hown hbel3 hB3
            rcases Nat.lt_or_ge i M with hlt | hge
            · have hib : decide ((i : Int) < (M : Int)) = true := by simp; omega
              go_wp2_with (at_builtin; go_must (refine wpList_app1 w4 rfl (.tmp 84) (.tmp 85) 70 rfl (w.heap.size + 1) 3 Tryd.underlying70 elemIntB A7 i c7 _ rfl hown4 _ rfl rfl (by omega) hB4.lt ?_); intro A8 c8 w5 hown5 hg5 _)
              have hbw : Below (w.heap.size + 1) w4 w5 := hown4.belowG hg5 hB4.lt
              have hB5 := hB4.below hbw (Nat.lt_succ_self _)
              have hbel5 : Below w.heap.size w w5 := hbel4.trans (hbw.mono (Nat.le_succ _))
              have hown6 : Own w5 (w.heap.size + 1) 3 1 A8 (i + 1) c8 (iv .i64 (List.replicate (i + 1) 1)) := by
                rw [List.replicate_succ', iv_append]
                exact hown5
              clear hB4 hbw hown4 hown5 hg5 hbel4 hb4'
              go_wp2_with fail
              go_roundg (M - i - 1)
              case measure => omega
              case rel => exact ⟨i + 1, A8, c8, by omega, rfl, by go_num, by omega, hown6, hbel5, hB5⟩
            · have hib : decide ((i : Int) < (M : Int)) = false := by simp; omega
              go_wp2_with fail
              go_ret2
              refine ⟨⟨A7, i, c7, List.replicate i 1, rfl, hown4.ints, by rw [← HM.out]; omega, ?_, hown4.cap.1, hown4.cap.2, hown4.fresh.lower (Nat.le_succ _)⟩, hbel4⟩
              intro y hy
              rw [(List.mem_replicate.1 hy).2]
              omega

end Go.Proofs.YtgpkcooipadnpaaDoor
