/-
  written.Expand, for every text of at most 2000 bytes. Condition: strconv's variables hold what their initialisers lay (Vars).
-/
import Derived.Test.YtgpkcooipadnpaaDoorWrD
namespace Go.Proofs.YtgpkcooipadnpaaDoor
set_option linter.unusedSimpArgs false
set_option linter.unusedVariables false
open Go.RowKit
set_option maxRecDepth 100000

theorem list_ok : ∀ f : Nat, ListOk f := by
  intro f
  induction f using Nat.strongRecOn with
  | _ f ih =>
    cases f with
    | zero => exact fun w g k lg s _ _ _ _ _ h => absurd h (by omega)
    | succ f => exact list_step f fun f1 h => item_ok f1 (ih f1 (by omega))

theorem clip_any (A : Option Addr) (n c : Nat) (w : World) (hn : n ≤ c) (hc : c ≤ 9223372036854775807) :
    Calls Tryd.prog 31 #[.slice A n c] w fun e w' => e = .returned (.slice A n n) ∧ w' = w := by
  go_enter Tryd.func31, Tryd.ntmps31
  go_wp2_with fail
  go_ret
  exact ⟨rfl, rfl⟩

theorem Blk.new' (w : World) (t n : Nat) (cs : List Value) (h : w.heap.size = n) : Blk (w.alloc (.cells cs.toArray t)) n t cs := by subst h; exact Blk.new w t cs
/-- The world when Expand calls its list closure. -/
abbrev envW (w : World) (s : ByteArray) : World :=
  ((((((w.alloc (.cells #[.string s] 9)).alloc (.cells #[.int .i64 0] 3)).alloc (.cells #[.bool false] 4)).alloc (.cells #[shortV w.heap.size] 59)).alloc (.cells #[wordV w.heap.size] 60)).alloc (.cells #[listV w.heap.size] 61)).alloc (.cells #[itemV w.heap.size] 61)
theorem env_new (w : World) (s : ByteArray) : Env (envW w s) w.heap.size 0 false s where
  str := ((((((Blk.new w 9 [.string s]).alloc _).alloc _).alloc _).alloc _).alloc _).alloc _
  at_ := (((((Blk.new' (w.alloc _) 3 (w.heap.size + 1) [.int .i64 0] (by simp)).alloc _).alloc _).alloc _).alloc _).alloc _
  long := ((((Blk.new' ((w.alloc _).alloc _) 4 (w.heap.size + 2) [.bool false] (by simp)).alloc _).alloc _).alloc _).alloc _
  short := (((((Blk.new' (((w.alloc _).alloc _).alloc _) 59 (w.heap.size + 3) [shortV w.heap.size] (by simp)).alloc _).alloc _).alloc _)).cell 0
  word := ((((Blk.new' ((((w.alloc _).alloc _).alloc _).alloc _) 60 (w.heap.size + 4) [wordV w.heap.size] (by simp)).alloc _).alloc _)).cell 0
  list := (((Blk.new' (((((w.alloc _).alloc _).alloc _).alloc _).alloc _) 61 (w.heap.size + 5) [listV w.heap.size] (by simp)).alloc _)).cell 0
  item := ((Blk.new' ((((((w.alloc _).alloc _).alloc _).alloc _).alloc _).alloc _) 61 (w.heap.size + 6) [itemV w.heap.size] (by simp))).cell 0
  room := by simp
theorem envW_below (w : World) (s : ByteArray) : Below w.heap.size w (envW w s) :=
  ((((((((Below.refl _ w).alloc (by simp <;> omega) _).alloc (by simp <;> omega) _).alloc (by simp <;> omega) _).alloc (by simp <;> omega) _).alloc (by simp <;> omega) _).alloc (by simp <;> omega) _).alloc (by simp <;> omega) _)
theorem KeptOut.own {K : Nat → Prop} {B : Nat} {a b c : World} (hb : Below B a b) (hk : KeptOut K b c) (hB : B ≤ a.heap.size) (h : ∀ x, K x → B ≤ x) : Below B a c :=
  ⟨hk.os.trans hb.os, hk.tape.trans hb.tape, hk.output.trans hb.output, Nat.le_trans hb.size hk.size, fun x hx => (hk.block x (by have := hb.size; omega) (fun e => by have := h x e; omega)).trans (hb.block x hx)⟩

/-- What Expand answers. -/
def EOut (res : Int × List St) (w : World) (e : Ending) (w' : World) : Prop :=
  ∃ A n, e = .returned (.tuple #[.slice A n n, .int .i64 res.1]) ∧ Sts w' A n res.2 ∧ Fresh w.heap.size A ∧ n ≤ 16

set_option maxHeartbeats 4000000 in
theorem expand_any (s : ByteArray) (w : World) (hs : s.size ≤ 2000) (hV : Vars w) (hg : 5 ≤ w.heap.size) :
    Calls Tryd.prog 9 #[.string s] w fun e w' => EOut (expandL s.data.toList) w e w' ∧ Below w.heap.size w w' := by
  have HV := Lib.hid hV; clear hV
  rcases Nat.lt_or_ge 1024 s.size with h1 | h1
  · have HX : Hid (expandL s.data.toList = (3, [])) := Lib.hid (by unfold expandL; rw [if_pos (by simpa using h1)])
    go_enter Tryd.func9, Tryd.ntmps9
    go_wp2_with fail
    go_ret2
    rw [HX.out]
    exact ⟨⟨none, 0, rfl, Sts.nil_, Fresh.none_, by omega⟩, (Below.refl _ w).alloc (Nat.le_refl _) _⟩
  · have HX : Hid (expandL s.data.toList = match dlist (s.size + 1) s.data.toList [] false with
      | none => (4, [])
      | some (row, lg, r) => if r ≠ [] then (4, []) else if lg then (3, []) else (0, row)) := Lib.hid (by unfold expandL; rw [if_neg (by simpa using h1)]; rw [show s.data.toList.length = s.size by simp]; rfl)
    have hsf := fun (a : Addr) (fn : Fn) (f c : Array Value) (w : World) => run_store Tryd.prog w a (.func fn f c) .plain rfl
    have hsz := fun (a : Addr) (w : World) => run_store Tryd.prog w a .nilFunc .plain rfl
    have HL := Lib.hid (list_ok (s.size + 1) (envW w s) w.heap.size 0 false s (env_new w s) (HV.out.below (envW_below w s)) hg (by omega) hs (by omega))
    go_enter Tryd.func9, Tryd.ntmps9
    go_wp2_with fail
    refine HL.out.mono ?_
    rintro e w1 ⟨hk1, hres⟩
    rw [List.drop_zero] at hres
    have hb1 : Below w.heap.size w w1 := hk1.own (envW_below w s) (Nat.le_refl _) (fun x hx => by rcases hx with rfl | rfl <;> omega)
    clear HL
    cases hd : dlist (s.size + 1) s.data.toList [] false with
    | none =>
      rw [hd] at hres
      have HN : Hid (expandL s.data.toList = (4, [])) := Lib.hid (by rw [HX.out, hd])
      clear hd
      obtain ⟨v, rfl⟩ := hres
      go_wp2_with fail
      go_ret2
      rw [HN.out]
      exact ⟨⟨none, 0, rfl, Sts.nil_, Fresh.none_, by omega⟩, hb1⟩
    | some res =>
      obtain ⟨row, lg1, r⟩ := res
      rw [hd] at hres
      obtain ⟨A, n, c, k2, rfl, hst, hfr, hnc, hcm, hE1, hdr, hk2, hn16⟩ := hres
      have HE := Lib.hid hE1
      have a1 := hE1.at_.cell 0
      have s1 := hE1.str.cell 0
      have l1 := hE1.long.cell 0
      simp only [List.getElem?_cons_zero, Bool.false_or] at a1 s1 l1
      clear hE1
      have HN : Hid (expandL s.data.toList = if r ≠ [] then (4, []) else if lg1 then (3, []) else (0, row)) := Lib.hid (by rw [HX.out, hd])
      clear hd
      rcases Nat.lt_or_ge k2 s.size with hlt | hge
      · have HN2 : Hid (expandL s.data.toList = (4, [])) := Lib.hid (by
          rw [HN.out, if_pos]
          intro e
          rw [e] at hdr
          have := congrArg List.length hdr
          simp at this
          omega)
        clear hdr
        have hlb : decide ((k2 : Int) < (s.size : Int)) = true := by simp; omega
        go_wp2_with fail
        go_ret2
        rw [HN2.out]
        exact ⟨⟨none, 0, rfl, Sts.nil_, Fresh.none_, by omega⟩, hb1⟩
      · have hr : r = [] := by rw [← hdr]; exact drop_end hge
        clear hdr
        have hlb : decide ((k2 : Int) < (s.size : Int)) = false := by simp; omega
        cases lg1 with
        | true =>
          have HN2 : Hid (expandL s.data.toList = (3, [])) := Lib.hid (by rw [HN.out, if_neg (by simp [hr])]; rfl)
          go_wp2_with fail
          go_ret2
          rw [HN2.out]
          exact ⟨⟨none, 0, rfl, Sts.nil_, Fresh.none_, by omega⟩, hb1⟩
        | false =>
          have HN2 : Hid (expandL s.data.toList = (0, row)) := Lib.hid (by rw [HN.out, if_neg (by simp [hr])]; rfl)
          go_wp2_with fail
          refine (clip_any A n c w1 hnc hcm).mono ?_
          rintro e w2 ⟨rfl, rfl⟩
          go_wp2_with fail
          go_ret2
          rw [HN2.out]
          exact ⟨⟨A, n, rfl, hst, fun ad e => Nat.le_trans (envW_below w s).size (hfr ad e), hn16⟩, hb1⟩

end Go.Proofs.YtgpkcooipadnpaaDoor
