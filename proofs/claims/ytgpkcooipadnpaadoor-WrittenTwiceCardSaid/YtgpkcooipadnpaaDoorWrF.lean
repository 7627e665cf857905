/-
  What written.Shorten calls: better, periodic, slices.Equal, slices.ContainsFunc. No conditions.
-/
import Derived.Test.YtgpkcooipadnpaaDoorWrE
import Derived.Laws.StructEq
import Derived.BigQuiet
namespace Go.Proofs.YtgpkcooipadnpaaDoor
set_option linter.unusedSimpArgs false
set_option linter.unusedVariables false
open Go.RowKit
open Go.Op (bytesLess)
set_option maxRecDepth 100000

theorem toL (a : ByteArray) : a.toList = a.data.toList := by rw [ByteArray.toList_eq]
theorem st_str (x : ByteArray) : Value.string x = str x.data.toList := by cases x; rfl
theorem better_any (a b : ByteArray) (w : World) :
    Calls Tryd.prog 19 #[.string a, .string b] w fun e w' => e = .returned (str (betterL a.data.toList b.data.toList)) ∧ w' = w := by
  have HX := Lib.hid (show betterL a.data.toList b.data.toList = if a.data.toList = [] ∨ b.data.toList.length < a.data.toList.length ∨ (b.data.toList.length = a.data.toList.length ∧ bytesLess b.data.toList a.data.toList = true) then b.data.toList else a.data.toList from rfl)
  have hla : a.data.toList.length = a.size := by simp
  have hlb : b.data.toList.length = b.size := by simp
  rw [hla, hlb] at HX
  clear hla hlb
  by_cases h1 : a.data.toList = []
  · have hb1 : (a.toList == []) = true := by rw [toL, h1]; rfl
    rw [if_pos (.inl h1)] at HX
    clear h1
    go_enter Tryd.func19, Tryd.ntmps19
    go_wp2_with fail
    go_ret
    rw [HX.out]
    exact ⟨congrArg _ (st_str b), rfl⟩
  · have hb1 : (a.toList == []) = false := by rw [toL, beq_eq_false_iff_ne]; exact h1
    by_cases h2 : b.size < a.size
    · have hb2 : decide ((b.size : Int) < (a.size : Int)) = true := by simp; omega
      rw [if_pos (.inr (.inl h2))] at HX
      clear h1
      go_enter Tryd.func19, Tryd.ntmps19
      go_wp2_with fail
      go_ret
      rw [HX.out]
      exact ⟨congrArg _ (st_str b), rfl⟩
    · have hb2 : decide ((b.size : Int) < (a.size : Int)) = false := by simp; omega
      by_cases h3 : b.size = a.size
      · have hb3 : ((b.size : Int) == (a.size : Int)) = true := by rw [beq_iff_eq]; omega
        by_cases h4 : bytesLess b.data.toList a.data.toList = true
        · have hb4 : bytesLess b.toList a.toList = true := by rw [toL, toL]; exact h4
          rw [if_pos (.inr (.inr ⟨h3, h4⟩))] at HX
          clear h1 h3 h4
          go_enter Tryd.func19, Tryd.ntmps19
          go_wp2_with fail
          go_ret
          rw [HX.out]
          exact ⟨congrArg _ (st_str b), rfl⟩
        · have hb4 : bytesLess b.toList a.toList = false := by rw [toL, toL]; simpa using h4
          rw [if_neg (fun h => h.elim h1 (fun h => h.elim h2 (fun h => h4 h.2)))] at HX
          clear h1 h3 h4
          go_enter Tryd.func19, Tryd.ntmps19
          go_wp2_with fail
          go_ret
          rw [HX.out]
          exact ⟨congrArg _ (st_str a), rfl⟩
      · have hb3 : ((b.size : Int) == (a.size : Int)) = false := by rw [beq_eq_false_iff_ne]; omega
        rw [if_neg (fun h => h.elim h1 (fun h => h.elim h2 (fun h => h3 h.1)))] at HX
        clear h1 h3
        go_enter Tryd.func19, Tryd.ntmps19
        go_wp2_with fail
        go_ret
        rw [HX.out]
        exact ⟨congrArg _ (st_str a), rfl⟩

theorem eql_st (x y : St) (w : World) : (Op.equalIn 10000 29 x.val y.val).run Tryd.prog w = .ok (decide (x = y)) w := by
  have u1 := Tryd.underlying3
  have u2 := Tryd.underlying4
  have u3 := Tryd.underlying27
  have u4 := Tryd.underlying5
  have a1 := Tryd.isAgg3
  have a2 := Tryd.isAgg4
  have a3 := Tryd.isAgg27
  have a4 := Tryd.isAgg5
  have z1 := Tryd.sizeOf3
  have z2 := Tryd.sizeOf4
  have z3 := Tryd.sizeOf27
  have z4 := Tryd.sizeOf5
  have hS : Tryd.prog.underlying 29 = some (.struct (Tryd.prog.fieldsOf 29)) := by kernel_rfl
  have hp : Tryd.prog.stoodInHeld 29 = false := by kernel_rfl
  rw [show (10000 : Nat) = 9999 + 1 from rfl, run_equalIn_agg w 9999 29 _ _ hS hp]
  simp only [Program.fieldsOf, Tryd.underlying29]
  go_simp
  obtain ⟨k, yn, a, b, f⟩ := x
  obtain ⟨k', yn', a', b', f'⟩ := y
  by_cases h1 : k = k' <;> by_cases h2 : yn = yn' <;> by_cases h3 : a = a' <;> by_cases h4 : b = b' <;> by_cases h5 : f = f' <;> simp [h1, h2, h3, h4, h5]

theorem St.lit_at {w : World} {A : Option Addr} {n : Nat} {l : List St} (h : Sts w A n l) {k : Nat} (hk : k < n) : ∃ ad, A = some ad ∧ ad.block < w.heap.size ∧ w.cell? (ad.add (k * 5)) = some (.int .u8 (l[k]'(by rw [h.len]; exact hk)).kind) ∧ w.cell? ⟨(ad.add (k * 5)).block, (ad.add (k * 5)).off + 1, none⟩ = some (.int .u8 (l[k]'(by rw [h.len]; exact hk)).yarn) ∧
    w.cell? ⟨(ad.add (k * 5)).block, (ad.add (k * 5)).off + 2, none⟩ = some (.int .i64 (l[k]'(by rw [h.len]; exact hk)).a) ∧ w.cell? ⟨(ad.add (k * 5)).block, (ad.add (k * 5)).off + 3, none⟩ = some (.int .i64 (l[k]'(by rw [h.len]; exact hk)).b) ∧ w.cell? ⟨(ad.add (k * 5)).block, (ad.add (k * 5)).off + 4, none⟩ = some (.bool (l[k]'(by rw [h.len]; exact hk)).front) := by
  obtain ⟨ad, x, e, hb, hx, c0, c1, c2, c3, c4⟩ := h.at_ hk
  obtain ⟨h1, h2⟩ := List.getElem?_eq_some_iff.1 hx
  subst h2
  rw [← Addr.add_add] at c1 c2 c3 c4
  exact ⟨ad, e, hb, c0, c1, c2, c3, c4⟩

set_option maxHeartbeats 2000000 in
theorem equal_any (A B : Option Addr) (n m c d : Nat) (l r' : List St) (w : World) (hl : Sts w A n l) (hr : Sts w B m r') (hn : n ≤ 1000000) (hm : m ≤ 1000000) :
    Calls Tryd.prog 39 #[.slice A n c, .slice B m d] w fun e w' => e = .returned (.bool (decide (l = r'))) ∧ ∃ q, w' = w.drewN q := by
  have HL := Lib.hid hl
  have HR := Lib.hid hr
  by_cases hnm : n = m
  · subst hnm
    have hnb : ((n : Int) != (n : Int)) = false := by simp
    have hgd : Tryd.prog.eqGuardType Tryd.prog.depth 29 = false := by kernel_rfl
    go_enter Tryd.func39, Tryd.ntmps39
    go_wp2_with fail
    go_loopg [13] n (fun r v wr => ∃ k : Nat, k ≤ n ∧ v = .int .i64 k ∧ r = n - k ∧ Hid (l.take k = r'.take k) ∧ Hid (∃ q, wr = w.drewN q))
    case atStart => exact ⟨0, by omega, rfl, rfl, Lib.hid (by simp), Lib.hid ⟨0, rfl⟩⟩
    case round =>
      obtain ⟨k, hk, rfl, hrr, HT, HQ⟩ := hrel
      have hlw : Sts wr A n l := by obtain ⟨q, hq⟩ := HQ.out; rw [hq]; exact HL.out.drewN q
      have hrw : Sts wr B n r' := by obtain ⟨q, hq⟩ := HQ.out; rw [hq]; exact HR.out.drewN q
      rcases Nat.lt_or_ge k n with hlt | hge
      · obtain ⟨ad, rfl, hb, c0, c1, c2, c3, c4⟩ := St.lit_at hlw hlt
        obtain ⟨bd, rfl, hb', d0, d1, d2, d3, d4⟩ := St.lit_at hrw hlt
        have hkl : k < l.length := by rw [HL.out.len]; exact hlt
        have hkr : k < r'.length := by rw [HR.out.len]; exact hlt
        have HE := fun W => eql_st l[k] r'[k] W
        have hkb : decide ((k : Int) < (n : Int)) = true := by simp; omega
        by_cases hxy : l[k] = r'[k]
        · have hxb : decide (l[k] = r'[k]) = true := decide_eq_true hxy
          simp only [hxb] at HE
          have HXY := Lib.hid hxy
          clear hxy hxb
          go_wp2_with fail
          go_quiet (fail)
          go_wp2_with fail
          go_roundg (n - k - 1)
          case measure => omega
          case rel =>
            refine ⟨k + 1, by omega, by go_num, by omega, Lib.hid ?_, Lib.hid (by obtain ⟨q, hq⟩ := HQ.out; exact ⟨_, by rw [hq, World.drewN_drewN]⟩)⟩
            rw [List.take_add_one, List.take_add_one, HT.out, List.getElem?_eq_getElem hkl, List.getElem?_eq_getElem hkr, HXY.out]
        · have hxb : decide (l[k] = r'[k]) = false := decide_eq_false hxy
          simp only [hxb] at HE
          have HX : Hid (decide (l = r') = false) := Lib.hid (decide_eq_false (fun e => hxy (by subst e; rfl)))
          clear hxy hxb
          go_wp2_with fail
          go_quiet (fail)
          go_wp2_with fail
          go_ret
          rw [HX.out]
          exact ⟨rfl, by obtain ⟨q, hq⟩ := HQ.out; exact ⟨_, by rw [hq, World.drewN_drewN]⟩⟩
      · have hkb : decide ((k : Int) < (n : Int)) = false := by simp; omega
        have HX : Hid (decide (l = r') = true) := Lib.hid (decide_eq_true (by
          have h := HT.out
          rwa [List.take_of_length_le (by rw [HL.out.len]; exact hge), List.take_of_length_le (by rw [HR.out.len]; exact hge)] at h))
        go_wp2_with fail
        go_ret
        rw [HX.out]
        exact ⟨rfl, HQ.out⟩
  · have hnb : ((n : Int) != (m : Int)) = true := by rw [bne_iff_ne]; omega
    have HX : Hid (decide (l = r') = false) := Lib.hid (decide_eq_false (fun e => hnm (by rw [← hl.len, ← hr.len, e])))
    go_enter Tryd.func39, Tryd.ntmps39
    go_wp2_with fail
    go_ret
    rw [HX.out]
    exact ⟨rfl, 0, rfl⟩

end Go.Proofs.YtgpkcooipadnpaaDoor
