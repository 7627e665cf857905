/-
  Contracts of the package written: count, better. Condition: strconv's variables hold what their initialisers lay (Vars).
-/
import Derived.Test.YtgpkcooipadnpaaDoorStD
import Derived.Test.YtgpkcooipadnpaaDoorWRef
namespace Go.Proofs.YtgpkcooipadnpaaDoor
set_option linter.unusedSimpArgs false
set_option linter.unusedVariables false
open Go.RowKit
set_option maxRecDepth 100000

theorem cnt_ok {s : List UInt8} {n most : Int} (h : Lib.atoiAll s = .ok n) : cnt s most = if 2 ≤ n ∧ n ≤ most ∧ Lib.itoa n = s then n else 0 := by unfold cnt; rw [h]
theorem cnt_no {s : List UInt8} {most : Int} (h : ∀ k, Lib.atoiAll s ≠ .ok k) : cnt s most = 0 := by
  unfold cnt
  split
  · rename_i n hn; exact absurd hn (h n)
  · rfl

set_option maxHeartbeats 2000000 in
theorem count_any (s : ByteArray) (most : Int) (w : World) (hs : s.size ≤ 1000000) (hm0 : 0 ≤ most) (hm : most ≤ 1000) (hV : Vars w) :
    Calls Tryd.prog 28 #[.string s, .int .i64 most] w fun e w' => e = .returned (.int .i64 (cnt s.data.toList most)) ∧ Below w.heap.size w w' := by
  have HV := Lib.hid hV; clear hV
  go_enter Tryd.func28, Tryd.ntmps28
  go_wp2_with fail
  refine (atoi_any s w hs HV.out).mono ?_
  rintro e w1 ⟨⟨v, HA, rfl⟩ | ⟨v, tp, p, HA, rfl⟩, hb1⟩
  · have hvr := atoi_range HA.out
    have HC := Lib.hid (cnt_ok (most := most) HA.out)
    by_cases h2 : v < 2
    · have HZ : Hid (cnt s.data.toList most = 0) := Lib.hid (by rw [HC.out, if_neg (by omega)])
      go_wp2_with fail
      go_ret
      exact ⟨ret_int HZ.out.symm, hb1⟩
    · by_cases hm2 : most < v
      · have HZ : Hid (cnt s.data.toList most = 0) := Lib.hid (by rw [HC.out, if_neg (by omega)])
        go_wp2_with fail
        go_ret
        exact ⟨ret_int HZ.out.symm, hb1⟩
      · have HI := Lib.hid (itoa_any v w1 (by omega) (by omega) (HV.out.below hb1))
        by_cases ht : Lib.itoa v = s.toList
        · have HZ : Hid (cnt s.data.toList most = v) := Lib.hid (by rw [HC.out, if_pos ⟨by omega, by omega, ht.trans (toList_eq s)⟩])
          have htb : (Lib.itoa v == s.toList) = true := beq_iff_eq.2 ht
          clear ht
          go_wp2_with fail
          refine HI.out.mono ?_
          rintro e w2 ⟨rfl, hb2⟩
          go_wp2_with fail
          go_ret
          exact ⟨ret_int HZ.out.symm, hb1.trans (hb2.mono hb1.size)⟩
        · have HZ : Hid (cnt s.data.toList most = 0) := Lib.hid (by rw [HC.out, if_neg (fun h => ht (h.2.2.trans (toList_eq s).symm))])
          have htb : (Lib.itoa v == s.toList) = false := beq_eq_false_iff_ne.2 ht
          clear ht
          go_wp2_with fail
          refine HI.out.mono ?_
          rintro e w2 ⟨rfl, hb2⟩
          go_wp2_with fail
          go_ret
          exact ⟨ret_int HZ.out.symm, hb1.trans (hb2.mono hb1.size)⟩
  · have HZ := Lib.hid (cnt_no (most := most) HA.out)
    go_wp2_with fail
    go_ret
    exact ⟨ret_int HZ.out.symm, hb1⟩

end Go.Proofs.YtgpkcooipadnpaaDoor
