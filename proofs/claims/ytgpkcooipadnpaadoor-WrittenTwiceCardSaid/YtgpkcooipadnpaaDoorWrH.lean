/-
  periodic; slices.ContainsFunc over the closure of written.Shorten. No conditions.
-/
import Derived.Test.YtgpkcooipadnpaaDoorWrF
import Derived.Deep.RegionHeld3
namespace Go.Proofs.YtgpkcooipadnpaaDoor
set_option linter.unusedSimpArgs false
set_option linter.unusedVariables false
open Go.RowKit
set_option maxRecDepth 100000

theorem bad_any (x : St) (w : World) (hw : x.wf) :
    Calls Tryd.prog 16 #[x.val] w fun e w' => e = .returned (.bool (!x.valid)) ∧ Below w.heap.size w w' := by
  have hbel0 : Below w.heap.size w (w.alloc (.cells #[.int .u8 x.kind, .int .u8 x.yarn, .int .i64 x.a, .int .i64 x.b, .bool x.front] 29)) := (Below.refl _ _).alloc (Nat.le_refl _) _
  cases hv : x.valid with
  | true =>
    have HC := Lib.hid (stCheck_ok x (w.alloc (.cells #[.int .u8 x.kind, .int .u8 x.yarn, .int .i64 x.a, .int .i64 x.b, .bool x.front] 29)) hw hv)
    clear hw hv
    go_enter Tryd.func16, Tryd.ntmps16
    go_wp2_with fail
    refine HC.out.mono ?_
    rintro e w1 ⟨rfl, hb⟩
    go_wp2_with fail
    go_ret
    exact ⟨rfl, hbel0.trans (hb.mono (by simp))⟩
  | false =>
    have HC := Lib.hid (stCheck_bad x (w.alloc (.cells #[.int .u8 x.kind, .int .u8 x.yarn, .int .i64 x.a, .int .i64 x.b, .bool x.front] 29)) hw hv)
    clear hw hv
    go_enter Tryd.func16, Tryd.ntmps16
    go_wp2_with fail
    refine HC.out.mono ?_
    rintro e w1 ⟨rfl, hb⟩
    go_wp2_with fail
    go_ret
    exact ⟨rfl, hbel0.trans (hb.mono (by simp))⟩

theorem index_bad (A : Option Addr) (n c : Nat) (l : List St) (w : World) (hl : Sts w A n l) (hw : ∀ x ∈ l, x.wf) (hn : n ≤ 1000000) :
    Calls Tryd.prog 35 #[.slice A n c, .func (.func 16) #[] #[]] w fun e w' => ∃ k : Int, e = .returned (.int .i64 k) ∧ decide (0 ≤ k) = l.any (fun x => !x.valid) ∧ Below w.heap.size w w' := by
  have HL := Lib.hid hl
  have HW := Lib.hid hw; clear hw
  go_enter Tryd.func35, Tryd.ntmps35
  go_wp2_with fail
  go_loopg [8] n (fun r v wr => ∃ k : Nat, k ≤ n ∧ v = .int .i64 k ∧ r = n - k ∧ Hid ((l.take k).any (fun x => !x.valid) = false) ∧ Below w.heap.size w wr)
  case atStart => exact ⟨0, by omega, rfl, rfl, Lib.hid (by simp), Below.refl _ _⟩
  case round =>
    obtain ⟨k, hk, rfl, hrr, HT, hbel⟩ := hrel
    have hlw := HL.out.below hbel
    rcases Nat.lt_or_ge k n with hlt | hge
    · obtain ⟨ad, rfl, hb, c0, c1, c2, c3, c4⟩ := St.lit_at hlw hlt
      have hkl : k < l.length := by rw [HL.out.len]; exact hlt
      have hkb : decide ((k : Int) < (n : Int)) = true := by simp; omega
      have HB := Lib.hid (bad_any l[k] wr (HW.out _ (List.getElem_mem hkl)))
      cases hv : l[k].valid with
      | true =>
        have HV := Lib.hid hv; clear hv
        go_wp2_with fail
        refine HB.out.mono ?_
        rintro e w1 ⟨rfl, hb1⟩
        rw [HV.out]
        go_wp2_with fail
        go_roundg (n - k - 1)
        case measure => omega
        case rel =>
          refine ⟨k + 1, by omega, by go_num, by omega, Lib.hid ?_, hbel.trans (hb1.mono hbel.size)⟩
          rw [List.take_add_one, List.any_append, HT.out, List.getElem?_eq_getElem hkl]
          simp [HV.out]
      | false =>
        have HV := Lib.hid hv; clear hv
        go_wp2_with fail
        refine HB.out.mono ?_
        rintro e w1 ⟨rfl, hb1⟩
        rw [HV.out]
        go_wp2_with fail
        go_ret
        refine ⟨_, rfl, ?_, hbel.trans (hb1.mono hbel.size)⟩
        have : l.any (fun x => !x.valid) = true := List.any_eq_true.2 ⟨l[k], List.getElem_mem hkl, by simp [HV.out]⟩
        rw [this]
        simp
    · have hkb : decide ((k : Int) < (n : Int)) = false := by simp; omega
      go_wp2_with fail
      go_ret
      refine ⟨_, rfl, ?_, hbel⟩
      have h := HT.out
      rw [List.take_of_length_le (by rw [HL.out.len]; exact hge)] at h
      rw [h]
      simp

theorem contains_bad (A : Option Addr) (n c : Nat) (l : List St) (w : World) (hl : Sts w A n l) (hw : ∀ x ∈ l, x.wf) (hn : n ≤ 1000000) :
    Calls Tryd.prog 15 #[.slice A n c, .func (.func 16) #[] #[]] w fun e w' => e = .returned (.bool (l.any (fun x => !x.valid))) ∧ Below w.heap.size w w' := by
  have HI := Lib.hid (index_bad A n c l w hl hw hn)
  clear hw hl
  go_enter Tryd.func15, Tryd.ntmps15
  go_wp2_with fail
  refine HI.out.mono ?_
  rintro e w' ⟨k, rfl, hk, hb⟩
  have HK := Lib.hid hk; clear hk
  go_wp2_with fail
  go_ret
  exact ⟨congrArg (fun b => Ending.returned (.bool b)) HK.out, hb⟩

set_option maxHeartbeats 1000000 in
theorem periodic_any (ad : Addr) (n c k : Nat) (l : List St) (w : World) (hl : Sts w (some ad) n l) (hk : 1 ≤ k) (hkn : k < n) (hnc : n ≤ c) (hc : c ≤ 9223372036854775807) (hn : n ≤ 1000) :
    Calls Tryd.prog 20 #[.slice (some ad) n c, .int .i64 k] w fun e w' => e = .returned (.bool (per l k)) ∧ ∃ q, w' = w.drewN q := by
  have HX := Lib.hid (show per l k = (decide (n % k = 0) && decide (l.drop k = l.take (n - k))) by unfold per; rw [hl.len])
  have hd0 : Sts w (some (ad.add (k * 5))) (n - k) (l.drop k) := hl.drop (Nat.le_of_lt hkn)
  have HD := Lib.hid hd0; clear hd0
  have HT := Lib.hid (hl.take (k := n - k) (by omega))
  have hmod : (n : Int).tmod (k : Int) = ((n % k : Nat) : Int) := by rw [Int.tmod_eq_emod_of_nonneg (by omega)]; simp
  have hk0 : ¬ k = 0 := by omega
  have hkn2 : k ≤ n := by omega
  by_cases h0 : n % k = 0
  · have h0b : ((n : Int).tmod (k : Int) == 0) = true := by rw [hmod, h0]; rfl
    rw [decide_eq_true h0, Bool.true_and] at HX
    obtain ⟨m, hm⟩ : ∃ m, m = n - k := ⟨_, rfl⟩
    have hsub : (n : Int) - (k : Int) = (m : Int) := by omega
    have hwm : IntKind.i64.wrap (m : Int) = (m : Int) := IntWalk.i64_in _ (by omega)
    have hmn : m ≤ n := by omega
    have hmc : m ≤ c := by omega
    have hne : ¬ c = k := by omega
    have hne0 : ¬ c = 0 := by omega
    rw [← hm] at HX HT
    clear hmod h0 hl hm
    go_enter Tryd.func20, Tryd.ntmps20
    go_wp2_with fail
    go_quiet (first | (go_at_call 39; exact Calls.quiet_of (equal_any (some (ad.add (k * 5))) (some ad) (n - k) m (c - k) c (l.drop k) (l.take m) _ (HD.out.drewN _) (HT.out.drewN _) (by omega) (by omega))))
    go_wp2_with fail
    go_ret
    rw [HX.out]
    exact ⟨rfl, _, rfl⟩
  · have h0b : ((n : Int) % (k : Int) == 0) = false := by rw [show (n : Int) % (k : Int) = ((n % k : Nat) : Int) by simp, beq_eq_false_iff_ne]; omega
    rw [decide_eq_false h0, Bool.false_and] at HX
    clear hmod h0 hl hk0 hkn2
    go_enter Tryd.func20, Tryd.ntmps20
    go_wp2_with fail
    go_quiet (fail)
    go_wp2_with fail
    go_ret
    rw [HX.out]
    exact ⟨rfl, _, rfl⟩

end Go.Proofs.YtgpkcooipadnpaaDoor
