/-
  Contracts: the laws' own exchanged and Other. No conditions beyond what the theorems name.
-/
import Derived.Test.YtgebiffponbmlaaPlainD
namespace Go.Proofs.Ytgebiffponbmlaa
open Go.RowKit

theorem iv_get {kd : IntKind} {l : List Int} {k : Nat} {x : Int} (h : l[k]? = some x) : (iv kd l)[k]? = some (.int kd x) := by simp [iv, h]

theorem split2 {l : List Int} {p : Nat} {x y : Int} (hx : l[p]? = some x) (hy : l[p + 1]? = some y) : l = l.take p ++ x :: y :: l.drop (p + 2) := by
  obtain ⟨h1, h2⟩ := List.getElem?_eq_some_iff.1 hx
  obtain ⟨h3, h4⟩ := List.getElem?_eq_some_iff.1 hy
  have := (List.take_append_drop p l).symm
  rwa [List.drop_eq_getElem_cons h1, h2, List.drop_eq_getElem_cons h3, h4] at this
theorem split2_set {l : List Int} {p : Nat} {x y : Int} (hx : l[p]? = some x) (hy : l[p + 1]? = some y) (a b : Int) : (l.set p a).set (p + 1) b = l.take p ++ a :: b :: l.drop (p + 2) := by
  obtain ⟨h1, _⟩ := List.getElem?_eq_some_iff.1 hx
  have e := split2 hx hy
  have hl : (l.take p).length = p := by simp; omega
  generalize l.take p = T at *
  generalize l.drop (p + 2) = D at *
  subst e
  rw [List.set_append_right _ _ (by omega), hl, Nat.sub_self, List.set_append_right _ _ (by omega), hl, show p + 1 - p = 1 by omega]
  rfl
theorem split3 {l : List Int} {p : Nat} {x y z : Int} (hx : l[p]? = some x) (hy : l[p + 1]? = some y) (hz : l[p + 2]? = some z) : l = l.take p ++ x :: y :: z :: l.drop (p + 3) := by
  have e := split2 hx hy
  obtain ⟨h1, h2⟩ := List.getElem?_eq_some_iff.1 hz
  rwa [List.drop_eq_getElem_cons h1, h2] at e
theorem split3_set {l : List Int} {p : Nat} {x y z : Int} (hx : l[p]? = some x) (hy : l[p + 1]? = some y) (hz : l[p + 2]? = some z) (a b c : Int) : ((l.set p a).set (p + 1) b).set (p + 2) c = l.take p ++ a :: b :: c :: l.drop (p + 3) := by
  obtain ⟨h1, _⟩ := List.getElem?_eq_some_iff.1 hx
  have e := split3 hx hy hz
  have hl : (l.take p).length = p := by simp; omega
  generalize l.take p = T at *
  generalize l.drop (p + 3) = D at *
  subst e
  rw [List.set_append_right _ _ (by omega), hl, Nat.sub_self, List.set_append_right _ _ (by omega), hl, show p + 1 - p = 1 by omega, List.set_append_right _ _ (by omega), hl, show p + 2 - p = 2 by omega]
  rfl

theorem sgn_iff {a b : Int} (h : (decide (0 < a) == decide (0 < b)) = true) : 0 < a ↔ 0 < b := by
  rw [beq_iff_eq] at h
  exact decide_eq_decide.1 h

/-- The slice is the call's own, and reads as the list after one exchange. -/
def Changed (w w' : World) (l : List Int) (A : Option Addr) (m c : Nat) : Prop := ∃ l', Own w' w.heap.size 3 1 A m c (iv .i64 l') ∧ Below w.heap.size w w' ∧ Mv l l'

set_option maxRecDepth 100000 in
set_option maxHeartbeats 4000000 in
theorem exchanged_any (A : Option Addr) (m c p : Nat) (l : List Int) (w : World) (hl : Ints .i64 w A m l) (hm : m ≤ 1000) (hs : Small l) (hp : p ≤ m) :
    Calls Try.prog 37 #[.slice A m c, .int .i64 p] w fun e w' => ∃ A' c', e = .returned (.slice A' m c') ∧ Changed w w' l A' m c' := by
  have hlen := Lib.hid hl.len
  by_cases h1 : m ≤ p + 1
  · have hd1 : decide ((m : Int) ≤ (p : Int) + 1) = true := decide_eq_true (by omega)
    go_enter Try.func37, Try.ntmps37
    go_wp2_with (at_builtin; go_must (refine wpList_app0 w rfl (.tmp 9) (.tmp 10) 25 rfl 3 Try.underlying25 elemInt rfl A m c _ rfl hl (iv_one _ _) (by omega) ?_); intro A2 c2 w2 hown2 hb2)
    go_ret
    exact ⟨A2, c2, rfl, l, hown2, hb2, .inl rfl⟩
  · have hd1 : decide ((m : Int) ≤ (p : Int) + 1) = false := decide_eq_false (by omega)
    go_enter Try.func37, Try.ntmps37
    go_wp2_with (at_builtin; go_must (refine wpList_app0 w rfl (.tmp 9) (.tmp 10) 25 rfl 3 Try.underlying25 elemInt rfl A m c _ rfl hl (iv_one _ _) (by omega) ?_); intro A2 c2 w2 hown2 hb2)
    obtain ⟨g, rfl, hg, hg2⟩ := hown2.shape (by have := hown2.cap; omega)
    have hx : l[p]? = some (l[p]'(by have := hlen.out; omega)) := by simp
    have hy : l[p + 1]? = some (l[p + 1]'(by have := hlen.out; omega)) := by simp
    generalize l[p]'(by have := hlen.out; omega) = x at hx
    generalize l[p + 1]'(by have := hlen.out; omega) = y at hy
    have hcx : w2.cell? ⟨g, p, none⟩ = some (.int .i64 x) := by rw [hown2.cellAt (by omega), iv_get hx]
    have hcy : w2.cell? ⟨g, p + 1, none⟩ = some (.int .i64 y) := by rw [hown2.cellAt (by omega), iv_get hy]
    have hxs := hs x (List.mem_of_getElem? hx)
    have hys := hs y (List.mem_of_getElem? hy)
    have hk2 : (p : Int) + 1 < (m : Int) := by omega
    have hk3 : IntKind.i64.wrap ((p : Int) + 1) = (p : Int) + 1 := IntWalk.i64_in _ (by omega)
    have hk4 : (0 : Int) ≤ (p : Int) + 1 := by omega
    have hk5 : ((p : Int) + 1).toNat = p + 1 := by omega
    have hk6 : p < m := by omega
    have hf1 := hown2.frozenAt p
    have hf2 := hown2.frozenAt (p + 1)
    have E1 := Lib.hid (split2 hx hy)
    have E2 := Lib.hid (split2_set hx hy)
    have HOW := fun k => Lib.hid (((hown2.drewN k).stored p (.int .i64 y)).stored (p + 1) (.int .i64 x))
    have HBW := fun k => Lib.hid ((below_drewN hb2 k).trans (((hown2.drewN k).stored_below p (.int .i64 y)).trans (((hown2.drewN k).stored p (.int .i64 y)).stored_below (p + 1) (.int .i64 x))))
    have HX := Lib.hid hx
    have HY := Lib.hid hy
    clear hx hy
    by_cases h2 : m ≤ p + 2
    · have hd2 : decide ((p : Int) + 2 < (m : Int)) = false := decide_eq_false (by omega)
      go_wp2_with fail
      go_quiet (fail)
      go_wp2_with fail
      all_goals go_ret
      all_goals first
        | exact ⟨some ⟨g, 0, none⟩, c2, rfl, (l.set p y).set (p + 1) x, by rw [iv_set, iv_set]; exact (HOW nq).out, (HBW nq).out, .inr (.inl ⟨_, x, y, _, E1.out, E2.out y x, by omega⟩)⟩
        | exact ⟨some ⟨g, 0, none⟩, c2, rfl, l, hown2.drewN nq, below_drewN hb2 nq, .inl rfl⟩
    · have hd2 : decide ((p : Int) + 2 < (m : Int)) = true := decide_eq_true (by omega)
      have hz : l[p + 2]? = some (l[p + 2]'(by have := hlen.out; omega)) := by simp
      generalize l[p + 2]'(by have := hlen.out; omega) = z at hz
      have hcz : w2.cell? ⟨g, p + 2, none⟩ = some (.int .i64 z) := by rw [hown2.cellAt (by omega), iv_get hz]
      have hf3 := hown2.frozenAt (p + 2)
      have hm2 : (p : Int) + 2 < (m : Int) := by omega
      have hm3 : IntKind.i64.wrap ((p : Int) + 2) = (p : Int) + 2 := IntWalk.i64_in _ (by omega)
      have hm4 : (0 : Int) ≤ (p : Int) + 2 := by omega
      have hm5 : ((p : Int) + 2).toNat = p + 2 := by omega
      have hzs := hs z (List.mem_of_getElem? hz)
      by_cases he : z = x
      · subst he
        have E3 := Lib.hid (split3 HX.out HY.out hz)
        have E4 := Lib.hid (split3_set HX.out HY.out hz)
        clear hz
        have HOW3 := fun k => Lib.hid ((((hown2.drewN k).stored p (.int .i64 y)).stored (p + 1) (.int .i64 z)).stored (p + 2) (.int .i64 y))
        have HBW3 := fun k => Lib.hid ((below_drewN hb2 k).trans (((hown2.drewN k).stored_below p (.int .i64 y)).trans ((((hown2.drewN k).stored p (.int .i64 y)).stored_below (p + 1) (.int .i64 z)).trans ((((hown2.drewN k).stored p (.int .i64 y)).stored (p + 1) (.int .i64 z)).stored_below (p + 2) (.int .i64 y)))))
        go_wp2_with fail
        go_quiet (fail)
        go_wp2_with fail
        all_goals go_ret
        all_goals first
          | exact ⟨some ⟨g, 0, none⟩, c2, rfl, (l.set p y).set (p + 1) z, by rw [iv_set, iv_set]; exact (HOW nq).out, (HBW nq).out, .inr (.inl ⟨_, z, y, _, E1.out, E2.out y z, by omega⟩)⟩
          | exact ⟨some ⟨g, 0, none⟩, c2, rfl, ((l.set p y).set (p + 1) z).set (p + 2) y, by rw [iv_set, iv_set, iv_set]; exact (HOW3 nq).out, (HBW3 nq).out, .inr (.inr ⟨_, z, y, _, E3.out, E4.out y z y, by omega, sgn_iff ‹_›⟩)⟩
          | exact ⟨some ⟨g, 0, none⟩, c2, rfl, l, hown2.drewN nq, below_drewN hb2 nq, .inl rfl⟩
      · have heb : (z == x) = false := by simp [he]
        clear hz he
        go_wp2_with fail
        go_quiet (fail)
        go_wp2_with fail
        all_goals go_ret
        all_goals first
          | exact ⟨some ⟨g, 0, none⟩, c2, rfl, (l.set p y).set (p + 1) x, by rw [iv_set, iv_set]; exact (HOW nq).out, (HBW nq).out, .inr (.inl ⟨_, x, y, _, E1.out, E2.out y x, by omega⟩)⟩
          | exact ⟨some ⟨g, 0, none⟩, c2, rfl, l, hown2.drewN nq, below_drewN hb2 nq, .inl rfl⟩

end Go.Proofs.Ytgebiffponbmlaa
