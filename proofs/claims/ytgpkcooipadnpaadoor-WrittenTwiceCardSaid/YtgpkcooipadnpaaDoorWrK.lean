/-
  The reference's Text. No conditions beyond the stitch's ranges.
-/
import Derived.Test.YtgpkcooipadnpaaDoorWrJ
namespace Go.Proofs.YtgpkcooipadnpaaDoor
set_option linter.unusedSimpArgs false
set_option linter.unusedVariables false
open Go.RowKit
set_option maxRecDepth 100000

def symsB : ByteArray := ⟨#[63, 107, 112, 111, 47, 118, 116, 115, 99]⟩
def digsB : ByteArray := ⟨#[48, 49, 50, 51, 52, 53, 54]⟩
def cutB (s : ByteArray) (i : Int) : ByteArray := s.extract i.toNat (i + 1).toNat
def refT (x : St) : ByteArray :=
  let h := if x.kind = 8 then cutB symsB x.kind ++ (cutB digsB x.a ++ cutB digsB x.b) ++ (if x.front then ⟨#[70]⟩ else ⟨#[66]⟩) else cutB symsB x.kind
  if x.yarn = 1 then h else h ++ cutB digsB x.yarn
theorem refT_all : ∀ x ∈ allSt, (refT x).data.toList = stText x := by decide +kernel
theorem refT_eq {x : St} (h : x.valid = true) : Value.string (refT x) = str (stText x) := by rw [st_str, refT_all x (mem_allSt h)]

set_option maxHeartbeats 4000000 in
theorem refText_any (x : St) (w : World) (hw : x.wf) :
    Calls Tryd.prog 22 #[x.val] w fun e w' => e = .returned (str (stText x)) ∧ Below w.heap.size w w' := by
  have hbel0 : Below w.heap.size w (w.alloc (.cells #[.int .u8 x.kind, .int .u8 x.yarn, .int .i64 x.a, .int .i64 x.b, .bool x.front] 29)) := (Below.refl _ _).alloc (Nat.le_refl _) _
  have hblk : Blk (w.alloc (.cells #[.int .u8 x.kind, .int .u8 x.yarn, .int .i64 x.a, .int .i64 x.b, .bool x.front] 29)) w.heap.size 29 [.int .u8 x.kind, .int .u8 x.yarn, .int .i64 x.a, .int .i64 x.b, .bool x.front] := Blk.new w _ _
  have HC := Lib.hid (valid_any x (w.alloc (.cells #[.int .u8 x.kind, .int .u8 x.yarn, .int .i64 x.a, .int .i64 x.b, .bool x.front] 29)) hw)
  have HBK := Lib.hid hblk
  clear hblk
  cases hv : x.valid with
  | false =>
    have HV := Lib.hid (validI_no hv)
    have HX : Hid (stText x = []) := Lib.hid (by unfold stText; rw [hv]; rfl)
    clear hw hv
    go_enter Tryd.func22, Tryd.ntmps22
    go_wp2_with fail
    refine HC.out.mono ?_
    rintro e w1 ⟨rfl, hb⟩
    rw [HV.out]
    go_wp2_with fail
    go_ret
    rw [HX.out]
    exact ⟨rfl, hbel0.trans (hb.mono (by simp))⟩
  | true =>
    have HV := Lib.hid (validI_yes hv)
    have HX := Lib.hid (refT_eq hv)
    obtain ⟨k, y, a, b, f⟩ := x
    have hvv := hv
    unfold St.valid at hvv
    simp only [Bool.and_eq_true, decide_eq_true_eq] at hvv
    obtain ⟨⟨k1, k8, y1, y6⟩, hrest⟩ := hvv
    simp only at HC HBK hbel0
    clear hw hv
    by_cases hk : k = 8
    · subst hk
      rw [if_pos rfl] at hrest
      simp only [decide_eq_true_eq] at hrest
      obtain ⟨a1, b1, ab⟩ := hrest
      have hb3 : b ≤ 3 := by omega
      have ha3 : a ≤ 3 := by omega
      by_cases hy : y = 1
      · have hyb : (y != 1) = false := by rw [hy]; rfl
        cases f with
        | true =>
          have HR : Hid (refT ⟨8, y, a, b, true⟩ = cutB symsB 8 ++ (cutB digsB a ++ cutB digsB b) ++ ⟨#[70]⟩) := Lib.hid (by simp [refT, hy])
          clear hy
          go_enter Tryd.func22, Tryd.ntmps22
          go_wp2_with fail
          refine HC.out.mono ?_
          rintro e w1 ⟨rfl, hb⟩
          rw [HV.out]
          have hbk := HBK.out.below hb (by simp)
          have c0 := hbk.cell 0
          have c1 := hbk.cell 1
          have c2 := hbk.cell 2
          have c3 := hbk.cell 3
          have c4 := hbk.cell 4
          simp only [List.getElem?_cons_zero, List.getElem?_cons_succ] at c0 c1 c2 c3 c4
          clear hbk
          go_wp2_with fail
          go_quiet (fail)
          go_wp2_with fail
          go_ret
          rw [← HX.out, HR.out]
          exact ⟨rfl, below_drewN (hbel0.trans (hb.mono (by simp))) _⟩
        | false =>
          have HR : Hid (refT ⟨8, y, a, b, false⟩ = cutB symsB 8 ++ (cutB digsB a ++ cutB digsB b) ++ ⟨#[66]⟩) := Lib.hid (by simp [refT, hy])
          clear hy
          go_enter Tryd.func22, Tryd.ntmps22
          go_wp2_with fail
          refine HC.out.mono ?_
          rintro e w1 ⟨rfl, hb⟩
          rw [HV.out]
          have hbk := HBK.out.below hb (by simp)
          have c0 := hbk.cell 0
          have c1 := hbk.cell 1
          have c2 := hbk.cell 2
          have c3 := hbk.cell 3
          have c4 := hbk.cell 4
          simp only [List.getElem?_cons_zero, List.getElem?_cons_succ] at c0 c1 c2 c3 c4
          clear hbk
          go_wp2_with fail
          go_quiet (fail)
          go_wp2_with fail
          go_ret
          rw [← HX.out, HR.out]
          exact ⟨rfl, below_drewN (hbel0.trans (hb.mono (by simp))) _⟩
      · have hyb : (y != 1) = true := by rw [bne_iff_ne]; exact hy
        cases f with
        | true =>
          have HR : Hid (refT ⟨8, y, a, b, true⟩ = cutB symsB 8 ++ (cutB digsB a ++ cutB digsB b) ++ ⟨#[70]⟩ ++ cutB digsB y) := Lib.hid (by simp [refT, hy])
          clear hy
          go_enter Tryd.func22, Tryd.ntmps22
          go_wp2_with fail
          refine HC.out.mono ?_
          rintro e w1 ⟨rfl, hb⟩
          rw [HV.out]
          have hbk := HBK.out.below hb (by simp)
          have c0 := hbk.cell 0
          have c1 := hbk.cell 1
          have c2 := hbk.cell 2
          have c3 := hbk.cell 3
          have c4 := hbk.cell 4
          simp only [List.getElem?_cons_zero, List.getElem?_cons_succ] at c0 c1 c2 c3 c4
          clear hbk
          go_wp2_with fail
          go_quiet (fail)
          go_wp2_with fail
          go_ret
          rw [← HX.out, HR.out]
          exact ⟨rfl, below_drewN (hbel0.trans (hb.mono (by simp))) _⟩
        | false =>
          have HR : Hid (refT ⟨8, y, a, b, false⟩ = cutB symsB 8 ++ (cutB digsB a ++ cutB digsB b) ++ ⟨#[66]⟩ ++ cutB digsB y) := Lib.hid (by simp [refT, hy])
          clear hy
          go_enter Tryd.func22, Tryd.ntmps22
          go_wp2_with fail
          refine HC.out.mono ?_
          rintro e w1 ⟨rfl, hb⟩
          rw [HV.out]
          have hbk := HBK.out.below hb (by simp)
          have c0 := hbk.cell 0
          have c1 := hbk.cell 1
          have c2 := hbk.cell 2
          have c3 := hbk.cell 3
          have c4 := hbk.cell 4
          simp only [List.getElem?_cons_zero, List.getElem?_cons_succ] at c0 c1 c2 c3 c4
          clear hbk
          go_wp2_with fail
          go_quiet (fail)
          go_wp2_with fail
          go_ret
          rw [← HX.out, HR.out]
          exact ⟨rfl, below_drewN (hbel0.trans (hb.mono (by simp))) _⟩
    · have hke : (k == 8) = false := beq_eq_false_iff_ne.2 hk
      clear hrest
      by_cases hy : y = 1
      · have hyb : (y != 1) = false := by rw [hy]; rfl
        have HR : Hid (refT ⟨k, y, a, b, f⟩ = cutB symsB k) := Lib.hid (by simp [refT, hk, hy])
        clear hy hk
        go_enter Tryd.func22, Tryd.ntmps22
        go_wp2_with fail
        refine HC.out.mono ?_
        rintro e w1 ⟨rfl, hb⟩
        rw [HV.out]
        have hbk := HBK.out.below hb (by simp)
        have c0 := hbk.cell 0
        have c1 := hbk.cell 1
        have c2 := hbk.cell 2
        have c3 := hbk.cell 3
        have c4 := hbk.cell 4
        simp only [List.getElem?_cons_zero, List.getElem?_cons_succ] at c0 c1 c2 c3 c4
        clear hbk
        go_wp2_with fail
        go_ret
        rw [← HX.out, HR.out]
        exact ⟨rfl, hbel0.trans (hb.mono (by simp))⟩
      · have hyb : (y != 1) = true := by rw [bne_iff_ne]; exact hy
        have HR : Hid (refT ⟨k, y, a, b, f⟩ = cutB symsB k ++ cutB digsB y) := Lib.hid (by simp [refT, hk, hy])
        clear hy hk
        go_enter Tryd.func22, Tryd.ntmps22
        go_wp2_with fail
        refine HC.out.mono ?_
        rintro e w1 ⟨rfl, hb⟩
        rw [HV.out]
        have hbk := HBK.out.below hb (by simp)
        have c0 := hbk.cell 0
        have c1 := hbk.cell 1
        have c2 := hbk.cell 2
        have c3 := hbk.cell 3
        have c4 := hbk.cell 4
        simp only [List.getElem?_cons_zero, List.getElem?_cons_succ] at c0 c1 c2 c3 c4
        clear hbk
        go_wp2_with fail
        go_ret
        rw [← HX.out, HR.out]
        exact ⟨rfl, hbel0.trans (hb.mono (by simp))⟩

end Go.Proofs.YtgpkcooipadnpaaDoor
