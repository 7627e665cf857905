/-
  The law's examples hold. Condition: strconv's variables hold what their initialisers lay (Vars).
-/
import Derived.Test.YtgpkcooipadnpaaDoorWrR
import Derived.Test.YtgpkcooipadnpaaDoorWrP
import Derived.Test.YtgpkcooipadnpaaDoorWLive
namespace Go.Proofs.YtgpkcooipadnpaaDoor
set_option linter.unusedSimpArgs false
set_option linter.unusedVariables false
open Go.RowKit
set_option maxRecDepth 100000

theorem bytes_of (l : List UInt8) : ∃ b : ByteArray, b.data.toList = l := ⟨⟨l.toArray⟩, by simp⟩
theorem byte_eq {a b : ByteArray} (h : a.data.toList = b.data.toList) : a = b := by
  have : a.data = b.data := Array.ext' h
  cases a; cases b; simp_all
theorem SB.at_ {w : World} {g N j : Nat} {T : Nat → List UInt8} {b : ByteArray} (h : SB w g N T) (hj : j < N) (hb : b.data.toList = T j) : w.cell? ⟨g, j, none⟩ = some (.string b) := by
  rw [h.cell hj, ← hb, ← st_str]

set_option maxHeartbeats 8000000 in
theorem lives_any (w : World) (hV : Vars w) (hg : 5 ≤ w.heap.size) :
    Calls Tryd.prog 8 #[] w fun e w' => e = .returned (.bool true) ∧ Below w.heap.size w w' := by
  have HV := Lib.hid hV; clear hV
  go_enter Tryd.func8, Tryd.ntmps8
  go_wp2_with fail
  go_loopg [4] 8 (fun r v wr => ∃ i : Nat, i ≤ 8 ∧ v = .int .i64 i ∧ r = 8 - i ∧ Blk wr w.heap.size 9 (lv1.map str) ∧ Blk wr (w.heap.size + 1) 9 (lv2.map str) ∧ Blk wr (w.heap.size + 1 + 1) 23 (lv3.map (Value.int .i64)) ∧ Below w.heap.size w wr)
  case atStart => exact ⟨0, by omega, rfl, rfl, ((Blk.new w 9 (lv1.map str)).alloc _).alloc _, (Blk.new' (w.alloc (.cells (lv1.map str).toArray 9)) 9 _ (lv2.map str) (by simp)).alloc _, Blk.new' ((w.alloc (.cells (lv1.map str).toArray 9)).alloc (.cells (lv2.map str).toArray 9)) 23 _ (lv3.map (Value.int .i64)) (by simp), (((Below.refl _ w).alloc (Nat.le_refl _) _).alloc (by simp) _).alloc (by simp; omega) _⟩
  case round =>
    obtain ⟨i, hi, rfl, hr, hB1, hB2, hB3, hbel⟩ := hrel
    rcases Nat.lt_or_ge i 8 with hlt | hge
    · have hib : decide ((i : Int) < 8) = true := by simp; omega
      obtain ⟨E, row, hres⟩ : ∃ E row, expandL (lv1.getD i []) = (E, row) := ⟨_, _, rfl⟩
      have hall := live_one i hlt
      rw [hres] at hall
      obtain ⟨hE, hJ, hval⟩ := hall
      simp only at hE hJ hval
      obtain ⟨b1, hb1⟩ := bytes_of (lv1.getD i [])
      obtain ⟨b2, hb2⟩ := bytes_of (lv2.getD i [])
      have x1 : wr.cell? ⟨w.heap.size, i, none⟩ = some (.string b1) := by rw [hB1.cell, map_at str lv1 [] hlt, ← hb1, ← st_str]
      have hb1s : b1.size ≤ 100 := by
        have e1 : b1.data.toList.length = b1.size := by simp
        rw [← e1, hb1]
        exact live_short.1 i hlt
      have HX : Hid (∀ W, Vars W → 5 ≤ W.heap.size → Calls Tryd.prog 9 #[.string b1] W fun e w' => EOut (E, row) W e w' ∧ Below W.heap.size W w') := Lib.hid (fun W hV hg => by
        have := expand_any b1 W (by omega) hV hg
        rwa [hb1, hres] at this)
      have HB2 := Lib.hid hb2
      have HE := Lib.hid hE
      have HJ := Lib.hid hJ
      have HVAL := Lib.hid hval
      have hwr := hbel.size
      clear hb1 hb2 hE hJ hval hres
      go_wp2_with fail
      refine (HX.out wr (HV.out.below hbel) (by omega)).mono ?_
      rintro e w1 ⟨⟨A, n, rfl, hst, hfr, hn16⟩, hbb⟩
      have hB11 := hB1.below hbb hB1.lt
      have hB21 := hB2.below hbb hB2.lt
      have hB31 := hB3.below hbb hB3.lt
      have hbel1 : Below w.heap.size w w1 := hbel.trans (hbb.mono hwr)
      have x3 : w1.cell? ⟨w.heap.size + 1 + 1, i, none⟩ = some (.int .i64 E) := by rw [hB31.cell, map_at (Value.int .i64) lv3 0 hlt, ← HE.out]
      have HLN := Lib.hid hst.len
      have HST := Lib.hid hst
      clear hst hbb hB1 hB2 hB3 x1
      go_wp2_with fail
      go_loopg [7, 8] n (fun r2 v7 v8 wr => ∃ (k : Nat) (tb : ByteArray), k ≤ n ∧ v7 = .string tb ∧ v8 = .int .i64 k ∧ r2 = n - k ∧ tb.size ≤ 6 * k ∧ Hid (tb.data.toList = joinK row k) ∧ Below w1.heap.size w1 wr)
      case atStart => exact ⟨0, ⟨#[]⟩, by omega, rfl, rfl, rfl, Nat.le_refl 0, Lib.hid rfl, Below.refl _ _⟩
      case round =>
        obtain ⟨k, tb, hk, rfl, rfl, hr2, htb, HTB, hbel2⟩ := hrel
        have hstr := HST.out.below hbel2
        rcases Nat.lt_or_ge k n with hklt | hkge
        · have hkb : decide ((k : Int) < (n : Int)) = true := by simp; omega
          obtain ⟨ad, rfl, hadb, c0, c1, c2, c3, c4⟩ := St.lit_at hstr hklt
          have hkl : k < row.length := by rw [HLN.out]; exact hklt
          have HTX := Lib.hid (refText_any row[k] wr (valid_wf (HVAL.out _ (List.getElem_mem hkl))))
          obtain ⟨tx, htx⟩ := bytes_of (stText row[k])
          have HTX2 : Hid (str (stText row[k]) = .string tx) := Lib.hid (by rw [← htx, ← st_str])
          have htxs : tx.size ≤ 5 := by
            have e1 : tx.data.toList.length = tx.size := by simp
            rw [← e1, htx]
            exact (stText_good (HVAL.out _ (List.getElem_mem hkl))).2.2.2
          have HGD : Hid (row.getD k St.zero = row[k]) := Lib.hid (by rw [List.getD_eq_getElem?_getD, List.getElem?_eq_getElem hkl]; rfl)
          have HTXD := Lib.hid htx
          clear htx
          rcases Nat.eq_zero_or_pos k with hk0 | hk0
          · have hkb0 : decide (0 < (k : Int)) = false := by simp; omega
            have hkb1 : decide (0 < k) = false := by simp; omega
            have HK0 := Lib.hid hk0
            clear hk0
            go_wp2_with fail
            refine HTX.out.mono ?_
            rintro e w3 ⟨rfl, hb3⟩
            rw [HTX2.out]
            go_wp2_with fail
            go_roundg (n - k - 1)
            case measure => omega
            case rel =>
              refine ⟨k + 1, tb ++ tx, by omega, rfl, by go_num, by omega, by rw [ByteArray.size_append]; omega, Lib.hid ?_, hbel2.trans (hb3.mono hbel2.size)⟩
              unfold joinK
              rw [if_neg (by have := HK0.out; omega), ByteArray.data_append, Array.toList_append, HTB.out, HTXD.out, HGD.out]
          · have hkb0 : decide (0 < (k : Int)) = true := by simp; omega
            have hkb1 : decide (0 < k) = true := by simp; omega
            go_wp2_with fail
            refine HTX.out.mono ?_
            rintro e w3 ⟨rfl, hb3⟩
            rw [HTX2.out]
            go_wp2_with fail
            go_roundg (n - k - 1)
            case measure => omega
            case rel =>
              refine ⟨k + 1, tb ++ ⟨#[32]⟩ ++ tx, by omega, rfl, by go_num, by omega, by
                rw [ByteArray.size_append, ByteArray.size_append]
                show tb.size + 1 + tx.size ≤ _
                omega, Lib.hid ?_, hbel2.trans (hb3.mono hbel2.size)⟩
              unfold joinK
              rw [if_pos hk0, ByteArray.data_append, ByteArray.data_append, Array.toList_append, Array.toList_append, HTB.out, HTXD.out, HGD.out]
        · have hkb : decide ((k : Int) < (n : Int)) = false := by simp; omega
          have hkn : k = row.length := by have := HLN.out; omega
          have hte : tb = b2 := byte_eq (by rw [HTB.out, hkn, HJ.out, HB2.out])
          subst hte
          have x2 : wr.cell? ⟨w.heap.size + 1, i, none⟩ = some (.string tb) := by rw [(hB21.below hbel2 hB21.lt).cell, map_at str lv2 [] hlt, ← HB2.out, ← st_str]
          clear hkn
          go_wp2_with fail
          go_roundg (8 - i - 1)
          case measure => omega
          case rel => exact ⟨i + 1, by omega, by go_num, by omega, hB11.below hbel2 hB11.lt, hB21.below hbel2 hB21.lt, hB31.below hbel2 hB31.lt, hbel1.trans (hbel2.mono hbel1.size)⟩
    · have hib : decide ((i : Int) < 8) = false := by simp; omega
      have hwr := hbel.size
      clear hB1 hB2 hB3
      go_wp2_with fail
      rename World => w5
      go_loopg [11] 5 (fun r v wr => ∃ i : Nat, i ≤ 5 ∧ v = .int .i64 i ∧ r = 5 - i ∧ Blk wr w5.heap.size 9 (lv4.map str) ∧ Blk wr (w5.heap.size + 1) 9 (lv5.map str) ∧ Below w5.heap.size w5 wr)
      case atStart => exact ⟨0, by omega, rfl, rfl, (Blk.new w5 9 (lv4.map str)).alloc _, Blk.new' (w5.alloc (.cells (lv4.map str).toArray 9)) 9 _ (lv5.map str) (by simp), ((Below.refl _ w5).alloc (Nat.le_refl _) _).alloc (by simp) _⟩
      case round =>
        rename_i i0
        obtain ⟨i, hi, rfl, hr, hB1, hB2, hbel5⟩ := hrel
        have hbelw : Below w.heap.size w wr := hbel.trans (hbel5.mono hwr)
        have hwrs := hbel5.size
        rcases Nat.lt_or_ge i 5 with hlt | hge
        · have hib : decide ((i : Int) < 5) = true := by simp; omega
          obtain ⟨E, row, hres⟩ : ∃ E row, expandL (lv4.getD i []) = (E, row) := ⟨_, _, rfl⟩
          have hall := live_two i hlt
          rw [hres] at hall
          obtain ⟨hE, hne, hl16, hval, hS⟩ := hall
          simp only at hE hne hl16 hval hS
          subst hE
          obtain ⟨b1, hb1⟩ := bytes_of (lv4.getD i [])
          obtain ⟨b2, hb2⟩ := bytes_of (lv5.getD i [])
          have x1 : wr.cell? ⟨w5.heap.size, i, none⟩ = some (.string b1) := by rw [hB1.cell, map_at str lv4 [] hlt, ← hb1, ← st_str]
          have hb1s : b1.size ≤ 100 := by
            have e1 : b1.data.toList.length = b1.size := by simp
            rw [← e1, hb1]
            exact live_short.2 i hlt
          have HX : Hid (∀ W, Vars W → 5 ≤ W.heap.size → Calls Tryd.prog 9 #[.string b1] W fun e w' => EOut (0, row) W e w' ∧ Below W.heap.size W w') := Lib.hid (fun W hV hg => by
            have := expand_any b1 W (by omega) hV hg
            rwa [hb1, hres] at this)
          have HSO : Hid (∀ e, SOut row e → e = .returned (.tuple #[.string b2, .int .i64 0])) := Lib.hid (fun e he => by
            unfold SOut at he
            rw [if_neg (by omega), if_neg (by
              rintro (h | h)
              · exact hne h
              · obtain ⟨x, hx, hxv⟩ := List.any_eq_true.1 h
                rw [hval x hx] at hxv
                cases hxv), hS, ← hb2, ← st_str] at he
            exact he)
          have HB2 := Lib.hid hb2
          have HWF : Hid (∀ x ∈ row, x.wf) := Lib.hid fun x hx => valid_wf (hval x hx)
          have hrl : row.length ≤ 16 := hl16
          clear hb1 hb2 hne hval hS hres hl16
          go_wp2_with fail
          refine (HX.out wr (HV.out.below hbelw) (by have := hbelw.size; omega)).mono ?_
          rintro e w1 ⟨⟨A, n, rfl, hst, hfr, hn16⟩, hbb⟩
          have hB21 := hB2.below hbb hB2.lt
          have hB11 := hB1.below hbb hB1.lt
          have hbel1 : Below w5.heap.size w5 w1 := hbel5.trans (hbb.mono hwrs)
          have HSH := Lib.hid (shorten_any A n n row w1 hst HWF.out (Nat.le_refl _) (by omega) (by omega))
          clear hst hbb hB1 hB2 x1
          go_wp2_with fail
          refine HSH.out.mono ?_
          rintro e w2 ⟨hso, hbs⟩
          have he := HSO.out e hso
          subst he
          have hB22 := hB21.below hbs hB21.lt
          have hB12 := hB11.below hbs hB11.lt
          have x2 : w2.cell? ⟨w5.heap.size + 1, i, none⟩ = some (.string b2) := by rw [hB22.cell, map_at str lv5 [] hlt, ← HB2.out, ← st_str]
          have hbel2 : Below w5.heap.size w5 w2 := hbel1.trans (hbs.mono hbel1.size)
          clear hso hbs hB21 hB11
          go_wp2_with fail
          go_roundg (5 - i - 1)
          case measure => omega
          case rel => exact ⟨i + 1, by omega, by go_num, by omega, hB12, hB22, hbel2⟩
        · have hib : decide ((i : Int) < 5) = false := by simp; omega
          go_wp2_with fail
          go_ret
          exact ⟨rfl, hbelw⟩

end Go.Proofs.YtgpkcooipadnpaaDoor
