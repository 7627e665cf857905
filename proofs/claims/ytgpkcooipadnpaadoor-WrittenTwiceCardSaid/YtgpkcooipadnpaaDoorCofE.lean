/-
  Contract of ganseylaw13.C.Of. No conditions beyond those stated.
-/
import Derived.Test.YtgpkcooipadnpaaDoorCofD
import Derived.Test.YtgpkcooipadnpaaDoorWrQ
namespace Go.Proofs.YtgpkcooipadnpaaDoor
set_option linter.unusedSimpArgs false
set_option linter.unusedVariables false
open Go.RowKit
set_option maxRecDepth 100000

theorem grownBy_setCell (w : World) (p : Addr) (u : Value) : w.grownBy (w.setCell p u) (some p.block) :=
  ⟨rfl, rfl, rfl, by simp [World.setCell], fun k hk hne => Below.heap_setCell w p u k (fun e => hne (by rw [e]))⟩
theorem Own.apartBlk {w : World} {b e s n c g t : Nat} {A : Option Addr} {xs cs : List Value} (h1 : Own w b e s A n c xs) (h2 : Blk w g t cs) (he : e ≠ t) : ownB A = none ∨ ownB A ≠ some g := by
  rcases h1.2 with ⟨hv, _⟩ | ⟨g1, cap, cur, hv, _, hh, _⟩
  · injection hv with hv _ _
    rw [hv]
    exact .inl rfl
  · injection hv with hv _ _
    subst hv
    refine .inr fun e2 => ?_
    simp only [ownB, Option.map_some, Option.some.injEq] at e2
    subst e2
    rw [h2] at hh
    injection hh with hh
    injection hh with _ hh _
    exact he hh.symm
/-- Slices of the call's own, each a row of 1 to 8 valid stitches. -/
def RowsOk (w : World) (base : Nat) (vs : List Value) : Prop :=
  ∀ v ∈ vs, ∃ (B : Option Addr) (m k : Nat) (l : List St), v = .slice B m k ∧ Own w base 29 5 B m k (sc l) ∧ (∀ x ∈ l, x.valid = true) ∧ 1 ≤ m ∧ m ≤ 8
theorem RowsOk.below {w w' : World} {base : Nat} {vs : List Value} (h : RowsOk w base vs) (hb : Below w.heap.size w w') : RowsOk w' base vs := fun v hv => by
  obtain ⟨B, m, k, l, e, ho, h1⟩ := h v hv
  exact ⟨B, m, k, l, e, ho.below hb, h1⟩
theorem RowsOk.kept {w w' : World} {base : Nat} {vs : List Value} {row : Option Nat} (h : RowsOk w base vs) (hg : w.grownBy w' row) (hr : ∀ (B : Option Addr) (m k : Nat) (l : List St), Own w base 29 5 B m k (sc l) → ownB B = none ∨ ownB B ≠ row) : RowsOk w' base vs := fun v hv => by
  obtain ⟨B, m, k, l, e, ho, h1⟩ := h v hv
  exact ⟨B, m, k, l, e, ho.kept hg (hr B m k l ho), h1⟩

/-- What C.Of answers. -/
def COut (w : World) (e : Ending) (w' : World) : Prop :=
  ∃ (G : Option Addr) (n c : Nat) (vs : List Value), e = .returned (.agg #[.slice G n c]) ∧ Own w' w.heap.size 22 1 G n c vs ∧ 1 ≤ n ∧ n ≤ 9 ∧ RowsOk w' w.heap.size vs

set_option maxHeartbeats 8000000 in
theorem cof_any (wd : Int) (A : Option Addr) (n c : Nat) (rows : List (List Int)) (w : World) (h0 : 0 ≤ wd) (h255 : wd ≤ 255) (hl : Grid .u8 w A n rows) (hby : ∀ r ∈ rows, ∀ y ∈ r, 0 ≤ y ∧ y ≤ 255) (hnc : n ≤ c) (hcm : c ≤ 9223372036854775807) :
    Calls Tryd.prog 14 #[.agg #[.int .u8 wd, .slice A n c]] w fun e w' => COut w e w' ∧ Below w.heap.size w w' := by
  have HL := Lib.hid hl
  have HBY : Hid (∀ (k : Nat) (r : List Int), rows[k]? = some r → ∀ y ∈ r, 0 ≤ y ∧ y ≤ 255) := Lib.hid fun k r hk => hby r (List.mem_of_getElem? hk)
  clear hl hby
  have hB0 : Blk ((w.alloc (.cells #[.int .u8 wd, .slice A n c] 42)).alloc (.cells #[.slice none 0 0] 45)) w.heap.size 42 [.int .u8 wd, .slice A n c] := (Blk.new w 42 [.int .u8 wd, .slice A n c]).alloc _
  have hB1 : Blk ((w.alloc (.cells #[.int .u8 wd, .slice A n c] 42)).alloc (.cells #[.slice none 0 0] 45)) (w.heap.size + 1) 45 [.slice none 0 0] := Blk.new' (w.alloc (.cells #[.int .u8 wd, .slice A n c] 42)) 45 (w.heap.size + 1) [.slice none 0 0] (by simp)
  have hbel0 : Below w.heap.size w ((w.alloc (.cells #[.int .u8 wd, .slice A n c] 42)).alloc (.cells #[.slice none 0 0] 45)) := ((Below.refl _ _).alloc (Nat.le_refl _) _).alloc (by simp) _
  obtain ⟨m, hm⟩ : ∃ m : Nat, wd % 8 = (m : Int) := ⟨(wd % 8).toNat, by omega⟩
  have hm7 : m ≤ 7 := by omega
  go_enter Tryd.func14, Tryd.ntmps14
  go_wp2_with fail
  go_loopg [3, 4] (m + 1) (fun r v3 v4 wr => ∃ (i : Nat) (A3 : Option Addr) (c3 : Nat), i ≤ m + 1 ∧ v3 = .slice A3 i c3 ∧ v4 = .int .i64 i ∧ r = m + 1 - i ∧ Own wr (w.heap.size + 2) 3 1 A3 i c3 (iv .i64 (List.replicate i 1)) ∧ Blk wr w.heap.size 42 [.int .u8 wd, .slice A n c] ∧ Blk wr (w.heap.size + 1) 45 [.slice none 0 0] ∧ Below w.heap.size w wr)
  case atStart => exact ⟨0, none, 0, by omega, rfl, rfl, by omega, Own.nil_, hB0, hB1, hbel0⟩
  case round =>
    clear hB0 hB1 hbel0
    obtain ⟨i, A3, c3, hi, rfl, rfl, hr, ho3, hB0, hB1, hbel⟩ := hrel
    have c0 := hB0.cell 0
    have c1 := hB0.cell 1
    have c2 := hB1.cell 0
    have f2 := hB1.frozen 0
    simp only [List.getElem?_cons_zero, List.getElem?_cons_succ] at c0 c1 c2
    have hlt1 := hB1.lt
    rcases Nat.lt_or_ge m i with hmi | hmi
    · have hib : decide ((i : Int) ≤ (m : Int)) = false := by simp; omega
      have hib2 : decide (i ≤ m) = false := by simp; omega
      obtain ⟨M, hM⟩ : ∃ M : Nat, min (n : Int) 9 = (M : Int) := ⟨min n 9, by omega⟩
      have hM9 : M ≤ 9 := by omega
      go_upto_if 28 with fail
      go_cut [5] from 11 to 58 (fun v wx => (∃ K : Nat, v = .int .i64 K ∧ 1 ≤ K ∧ K ≤ 9) ∧ wr = wx)
      case first =>
        by_cases h2 : (M : Int) % 2 = 0
        · have h2b : ((M : Int) % 2 == 0) = true := by rw [h2]; rfl
          have hM8 : M + 1 ≤ 9 := by omega
          clear h2
          go_wp2_with fail
          go_meet
          exact ⟨⟨M + 1, rfl, by omega, hM8⟩, rfl⟩
        · have h2b : ((M : Int) % 2 == 0) = false := by rw [beq_eq_false_iff_ne]; exact h2
          go_wp2_with fail
          go_meet
          exact ⟨⟨M, rfl, by omega, by omega⟩, rfl⟩
      case rest =>
        obtain ⟨⟨K, rfl, hK1, hK9⟩, rfl⟩ := hcut
        have HB0 := Lib.hid hB0
        have HB1 := Lib.hid hB1
        have HO3 := Lib.hid ho3
        have hls0 : Hid (∀ y ∈ List.replicate i (1 : Int), 1 ≤ y ∧ y ≤ 3) := Lib.hid fun y hy => by rw [(List.mem_replicate.1 hy).2]; omega
        have hcap3 := ho3.cap
        have hwl := hbel.size
        clear c0 c1 c2 f2 hB0 hB1 ho3 hM
        go_wp2_with fail
        rename World => w5
        go_loopg [3, 7] K (fun r v3 v7 wr => ∃ (i n3 c3 rc : Nat) (A3 R : Option Addr) (ls : List Int) (vs : List Value), i ≤ K ∧ v3 = .slice A3 n3 c3 ∧ v7 = .int .i64 i ∧ r = K - i ∧ Ints .i64 wr A3 n3 ls ∧ Hid (∀ y ∈ ls, 1 ≤ y ∧ y ≤ 3) ∧ 1 ≤ n3 ∧ n3 ≤ 8 ∧ n3 ≤ c3 ∧ c3 ≤ 9223372036854775807 ∧ Blk wr w.heap.size 42 [.int .u8 wd, .slice A n c] ∧ Blk wr (w.heap.size + 1) 45 [.slice none 0 0] ∧ Blk wr w5.heap.size 45 [.slice R i rc] ∧ Own wr (w5.heap.size + 1) 22 1 R i rc vs ∧ Hid (RowsOk wr w.heap.size vs) ∧ Below w.heap.size w wr)
        case atStart => exact ⟨0, i, c3, 0, A3, none, _, [], by omega, rfl, rfl, by omega, HO3.out.ints.alloc _, hls0, by omega, by omega, hcap3.1, hcap3.2, HB0.out.alloc _, HB1.out.alloc _, Blk.new w5 45 [.slice none 0 0], Own.nil_, Lib.hid (fun v hv => by simp at hv), hbel.alloc hwl _⟩
        case round =>
          clear HO3 HB0 HB1 hls0 hcap3
          rename_i i0 A30 c30
          obtain ⟨i, n3, c3, rc, A3, R, ls, vs, hiK, rfl, rfl, hr, hls, H13, hn31, hn38, hnc3, hcm3, hB0, hB1, hB2, hoR, HRO, hbel5⟩ := hrel
          have c0 := hB0.cell 0
          have c1 := hB0.cell 1
          have c2 := hB1.cell 0
          have c3' := hB2.cell 0
          have f2 := hB1.frozen 0
          simp only [List.getElem?_cons_zero, List.getElem?_cons_succ] at c0 c1 c2 c3'
          have h5lt := hB2.lt
          have hne1 : ¬ w5.heap.size = w.heap.size := by omega
          have hne2 : ¬ w5.heap.size = w.heap.size + 1 := by have := hB1.lt; omega
          rcases Nat.lt_or_ge i K with hlt | hge
          · have hib : decide ((i : Int) < (K : Int)) = true := by simp; omega
            have hib2 : decide (i < K) = true := by simp; omega
            have HG := Lib.hid (HL.out.below hbel5)
            go_upto_if 40 with fail
            go_cut [8] from 31 to 58 (fun v wx => (∃ (r : Option Addr) (m2 d2 : Nat) (ch : List Int), v = .slice r m2 d2 ∧ Ints .u8 wr r m2 ch ∧ (∀ y ∈ ch, 0 ≤ y ∧ y ≤ 255) ∧ m2 ≤ 9223372036854775807) ∧ wr = wx)
            case first =>
              rcases Nat.lt_or_ge i n with hin | hin
              · have hnb : decide ((i : Int) < (n : Int)) = true := by simp; omega
                have hnb2 : decide (i < n) = true := by simp; omega
                obtain ⟨ad, r, m2, d2, ch, rfl, hadb, cr, hmd, hdm, hch, hic⟩ := HG.out.at_ hin
                have HCH := Lib.hid (HBY.out i ch hch)
                have HIC := Lib.hid hic
                clear hch hic HG
                go_wp2_with fail
                go_meet
                exact ⟨⟨r, m2, d2, ch, rfl, HIC.out, HCH.out, by omega⟩, rfl⟩
              · have hnb : decide ((i : Int) < (n : Int)) = false := by simp; omega
                have hnb2 : decide (i < n) = false := by simp; omega
                clear HG
                go_wp2_with fail
                go_meet
                exact ⟨⟨none, 0, 0, [], rfl, Ints.nil_, by simp, by omega⟩, rfl⟩
            case rest =>
              obtain ⟨⟨r, m2, d2, ch, rfl, hic, hchb, hm2⟩, rfl⟩ := hcut
              have HCR := Lib.hid (crow_any A3 r n3 c3 m2 d2 ls ch wr hls hic H13.out hchb hn31 hn38 hnc3 hcm3 hm2)
              clear hls hic hchb H13 HG
              have HRO1 := HRO
              clear HRO
              go_wp2_with fail
              refine HCR.out.mono ?_
              rintro e w7 ⟨⟨A9, n9, c9, row, B9, m9, d9, nx, rfl, ho9, hon, hrv, hnx, h91, h92, h93⟩, hb7⟩
              have hB07 := hB0.below hb7 hB0.lt
              have hB17 := hB1.below hb7 hB1.lt
              have hB27 := hB2.below hb7 hB2.lt
              have hoR7 := hoR.below hb7
              have hRO7 := HRO1.out.below hb7
              have hbel7 := hbel5.trans (hb7.mono hbel5.size)
              have hwr7 := hb7.size
              have c17 := hB27.cell 0
              simp only [List.getElem?_cons_zero] at c17
              have HB07 := Lib.hid hB07
              have HB17 := Lib.hid hB17
              have HB27 := Lib.hid hB27
              have HRO7 := Lib.hid hRO7
              have HRV := Lib.hid hrv
              have HNX := Lib.hid hnx
              have HON := Lib.hid hon
              have HO9 := Lib.hid ho9
              clear c0 c1 c2 c3' f2 hB0 hB1 hB2 hoR HRO1 hB07 hB17 hB27 hRO7 hrv hnx hon ho9
              go_wp2_with (at_builtin; go_must (refine wpList_app1 w7 rfl (.tmp 53) (.tmp 55) 43 rfl (w5.heap.size + 1) 22 Tryd.underlying43 elemRw R i rc _ rfl hoR7 (.slice A9 n9 c9) rfl rfl (by omega) (by omega) ?_); intro R2 rc2 w8 hoR8 hg8 _; have hbw8 : Below (w5.heap.size + 1) w7 w8 := hoR7.belowG hg8 (by omega); have hB28 := HB27.out.below hbw8 (Nat.lt_succ_self _); have c28 := hB28.cell 0; have f28 := hB28.frozen 0; (simp only [List.getElem?_cons_zero] at c28))
              have hgs := grownBy_setCell w8 ⟨w5.heap.size, 0, none⟩ (.slice R2 (i + 1) rc2)
              have hon8 := HON.out.kept hg8 (HON.out.apart hoR7 (by decide))
              have ho98 := HO9.out.kept hg8 (HO9.out.apart hoR7 (by decide))
              have hRO8 := HRO7.out.kept hg8 (fun B m k l ho => ho.apart hoR7 (by decide))
              have honF := hon8.kept hgs (hon8.apartBlk hB28 (by decide))
              have ho9F := ho98.kept hgs (ho98.apartBlk hB28 (by decide))
              have hROF := hRO8.kept hgs (fun B m k l ho => ho.apartBlk hB28 (by decide))
              have hoRF := hoR8.kept hgs (hoR8.apartBlk hB28 (by decide))
              have hB0F := (HB07.out.below hbw8 (by omega)).far (p := ⟨w5.heap.size, 0, none⟩) (Ne.symm hne1) (.slice R2 (i + 1) rc2)
              have hB1F := (HB17.out.below hbw8 (by omega)).far (p := ⟨w5.heap.size, 0, none⟩) (Ne.symm hne2) (.slice R2 (i + 1) rc2)
              have hB2F := hB28.set_ 0 (.slice R2 (i + 1) rc2)
              have hROall : Hid (RowsOk (w8.setCell ⟨w5.heap.size, 0, none⟩ (.slice R2 (i + 1) rc2)) w.heap.size (vs ++ [.slice A9 n9 c9])) := Lib.hid fun v hv => by
                rcases List.mem_append.1 hv with hv | hv
                · exact hROF v hv
                · rw [List.mem_singleton.1 hv]
                  exact ⟨A9, n9, c9, row, rfl, ho9F.lower hbel5.size, HRV.out, h91, by omega⟩
              have hbelF : Below w.heap.size w (w8.setCell ⟨w5.heap.size, 0, none⟩ (.slice R2 (i + 1) rc2)) := (hbel7.trans (hbw8.mono (by omega))).setCell hwl _
              clear hgs hon8 ho98 hRO8 ho9F hROF hoR8 hB28 c28 f28 c17 hbw8 hoR7 hg8
              go_wp2_with fail
              go_roundg (K - i - 1)
              case measure => omega
              case rel => exact ⟨i + 1, m9, d9, rc2, B9, R2, nx, _, by omega, rfl, by go_num, by omega, honF.ints, Lib.hid HNX.out, by omega, by omega, honF.cap.1, honF.cap.2, hB0F, hB1F, hB2F, hoRF, hROall, hbelF⟩
          · have hib : decide ((i : Int) < (K : Int)) = false := by simp; omega
            have hib2 : decide (i < K) = false := by simp; omega
            have hgs := grownBy_setCell wr ⟨w.heap.size + 1, 0, none⟩ (.slice R i rc)
            have hRf := hoR.kept hgs (hoR.apartBlk hB1 (by decide))
            have hRO : RowsOk (wr.setCell ⟨w.heap.size + 1, 0, none⟩ (.slice R i rc)) w.heap.size vs := HRO.out.kept hgs (fun B m k l ho => ho.apartBlk hB1 (by decide))
            have HRF := Lib.hid hRf
            have HRO2 := Lib.hid hRO
            have hKi : i = K := by omega
            have HKI := Lib.hid hKi
            clear hRf hRO hKi hgs
            go_wp2_with fail
            have z0 := (hB1.set_ 0 (.slice R i rc)).cell 0
            simp only [List.set_cons_zero, List.getElem?_cons_zero] at z0
            exact bodyPost_ret (v := .agg #[.slice R i rc]) (by simp [results, Tryd.results14, go_sem, z0]) rfl ⟨⟨R, i, rc, vs, rfl, HRF.out.lower (by omega), by have := HKI.out; omega, by have := HKI.out; omega, HRO2.out⟩, hbel5.setCell (by simp) _⟩
    · have hib : decide ((i : Int) ≤ (m : Int)) = true := by simp; omega
      have hib2 : decide (i ≤ m) = true := by simp; omega
      go_wp2_with (at_builtin; go_must (refine wpList_app1 wr rfl (.tmp 19) (.tmp 20) 70 rfl (w.heap.size + 2) 3 Tryd.underlying70 elemIntB A3 i c3 _ rfl ho3 _ rfl rfl (by omega) hlt1 ?_); intro A4 c4 w4 hown4 hg4 _)
      have hbw : Below (w.heap.size + 2) wr w4 := ho3.belowG hg4 hlt1
      go_wp2_with fail
      go_roundg (m + 1 - i - 1)
      case measure => omega
      case rel => exact ⟨i + 1, A4, c4, by omega, rfl, by go_num, by omega, by rw [List.replicate_succ', iv_append]; exact hown4, hB0.below hbw (by omega), hB1.below hbw (by omega), hbel.trans (hbw.mono (by omega))⟩

end Go.Proofs.YtgpkcooipadnpaaDoor
