/-
  The closures of written.Expand that read an item and a list, by turns: what they return is what the plain parser says. Condition: strconv's variables hold what their initialisers lay (Vars).
-/
import Derived.Test.YtgpkcooipadnpaaDoorWrB
import Derived.Test.YtgpkcooipadnpaaDoorCopyN
namespace Go.Proofs.YtgpkcooipadnpaaDoor
set_option linter.unusedSimpArgs false
set_option linter.unusedVariables false
open Go.RowKit
set_option maxRecDepth 100000

abbrev shortV (g : Nat) : Value := .func (.func 23) #[] #[.pointer (some ⟨g + 2, 0, none⟩)]
abbrev wordV (g : Nat) : Value := .func (.func 24) #[] #[.pointer (some ⟨g + 1, 0, none⟩), .pointer (some ⟨g, 0, none⟩)]
abbrev itemV (g : Nat) : Value := .func (.func 25) #[] #[.pointer (some ⟨g + 1, 0, none⟩), .pointer (some ⟨g, 0, none⟩), .pointer (some ⟨g + 4, 0, none⟩), .pointer (some ⟨g + 5, 0, none⟩), .pointer (some ⟨g + 3, 0, none⟩)]
abbrev listV (g : Nat) : Value := .func (.func 30) #[] #[.pointer (some ⟨g + 6, 0, none⟩), .pointer (some ⟨g + 3, 0, none⟩), .pointer (some ⟨g + 1, 0, none⟩), .pointer (some ⟨g, 0, none⟩)]

/-- The variables that the closures share. -/
structure Env (w : World) (g k : Nat) (lg : Bool) (s : ByteArray) : Prop where
  str : Blk w g 9 [.string s]
  at_ : Blk w (g + 1) 3 [.int .i64 k]
  long : Blk w (g + 2) 4 [.bool lg]
  short : w.cell? ⟨g + 3, 0, none⟩ = some (shortV g)
  word : w.cell? ⟨g + 4, 0, none⟩ = some (wordV g)
  list : w.cell? ⟨g + 5, 0, none⟩ = some (listV g)
  item : w.cell? ⟨g + 6, 0, none⟩ = some (itemV g)
  room : g + 7 ≤ w.heap.size
/-- The two that they write. -/
def Kg (g b : Nat) : Prop := b = g + 1 ∨ b = g + 2
theorem Env.upd {w w' : World} {g k k' : Nat} {lg lg' : Bool} {s : ByteArray} (h : Env w g k lg s) (hk : KeptOut (Kg g) w w') (h1 : Blk w' (g + 1) 3 [.int .i64 k']) (h2 : Blk w' (g + 2) 4 [.bool lg']) : Env w' g k' lg' s := by
  have hr := h.room
  refine ⟨h.str.of_block (hk.block g (by omega) (by unfold Kg; omega)), h1, h2, ?_, ?_, ?_, ?_, Nat.le_trans hr hk.size⟩
  · exact (hk.cell (p := ⟨g + 3, 0, none⟩) (by simp; omega) (by unfold Kg; simp)).trans h.short
  · exact (hk.cell (p := ⟨g + 4, 0, none⟩) (by simp; omega) (by unfold Kg; simp)).trans h.word
  · exact (hk.cell (p := ⟨g + 5, 0, none⟩) (by simp; omega) (by unfold Kg; simp)).trans h.list
  · exact (hk.cell (p := ⟨g + 6, 0, none⟩) (by simp; omega) (by unfold Kg; simp)).trans h.item
theorem Env.below {w w' : World} {g k : Nat} {lg : Bool} {s : ByteArray} (h : Env w g k lg s) (hb : Below w.heap.size w w') : Env w' g k lg s :=
  h.upd (KeptOut.of_below hb) (h.at_.below hb h.at_.lt) (h.long.below hb h.long.lt)
theorem Env.drew {w : World} {g k : Nat} {lg : Bool} {s : ByteArray} (h : Env w g k lg s) : Env w.drew g k lg s := h.below (Below.refl _ w).drew
theorem KeptOut.weak {K K' : Nat → Prop} {w w' : World} (h : KeptOut K w w') (hk : ∀ b, K b → K' b) : KeptOut K' w w' := ⟨h.os, h.tape, h.output, h.size, fun b hb hn => h.block b hb (fun e => hn (hk b e))⟩
theorem var_keptK {P : Program} {w w' : World} {K : Nat → Prop} {n : String} {cs : Array Value} {g : Nat} (hg : P.globalNamed n = some g) (hk : KeptOut K w w') (hK : ¬ K g) (h : w.var? P n = some cs) : w'.var? P n = some cs := by
  unfold World.var? at h ⊢
  rw [hg] at h ⊢
  simp only [Option.bind_some] at h ⊢
  cases hh : w.heap[g]? with
  | none => rw [hh] at h; cases h
  | some o =>
    rw [hk.block g (Array.getElem?_eq_some_iff.1 hh).1 hK, hh]
    rw [hh] at h
    exact h
theorem gTab : Tryd.prog.globalNamed "internal/strconv.uint64pow10" = some 0 := by kernel_rfl
theorem gSyn : Tryd.prog.globalNamed "strconv.ErrSyntax" = some 1 := by kernel_rfl
theorem gRan : Tryd.prog.globalNamed "strconv.ErrRange" = some 2 := by kernel_rfl
theorem Vars.keptK {w w' : World} {K : Nat → Prop} (h : Vars w) (hk : KeptOut K w w') (hK : ∀ b, K b → 5 ≤ b) : Vars w' := by
  obtain ⟨h1, ⟨a, b, h2⟩, ⟨c, d, h3⟩⟩ := h
  refine ⟨var_keptK gTab hk (fun e => ?_) h1, ⟨a, b, var_keptK gSyn hk (fun e => ?_) h2⟩, ⟨c, d, var_keptK gRan hk (fun e => ?_) h3⟩⟩
  all_goals
    have := hK _ e
    omega

def PPost (res : PRes) (g : Nat) (s : ByteArray) (lg : Bool) (w : World) (e : Ending) (w' : World) : Prop :=
  KeptOut (Kg g) w w' ∧ match res with
  | none => ∃ v, e = .returned (.tuple #[v, .bool false])
  | some (row, lg1, r) => ∃ A n c k', e = .returned (.tuple #[.slice A n c, .bool true]) ∧ Sts w' A n row ∧ Fresh w.heap.size A ∧ n ≤ c ∧ c ≤ 9223372036854775807 ∧ Env w' g k' (lg || lg1) s ∧ s.data.toList.drop k' = r ∧ k' ≤ s.size ∧ n ≤ 16

theorem PPost.no {g : Nat} {s : ByteArray} {lg b : Bool} {w w' : World} {v : Value} (hk : KeptOut (Kg g) w w') (hb : b = false) : PPost none g s lg w (.returned (.tuple #[v, .bool b])) w' := ⟨hk, v, by rw [hb]⟩
theorem PPost.yes {g : Nat} {s : ByteArray} {lg lg1 b : Bool} {w w' : World} {A : Option Addr} {n c k' : Nat} {row : List St} {r : List UInt8} (hk : KeptOut (Kg g) w w') (hb : b = true) (hst : Sts w' A n row) (hf : Fresh w.heap.size A) (hnc : n ≤ c) (hc : c ≤ 9223372036854775807)
    (hE : Env w' g k' (lg || lg1) s) (hd : s.data.toList.drop k' = r) (hk' : k' ≤ s.size) (hn : n ≤ 16) : PPost (some (row, lg1, r)) g s lg w (.returned (.tuple #[.slice A n c, .bool b])) w' :=
  ⟨hk, A, n, c, k', by rw [hb], hst, hf, hnc, hc, hE, hd, hk', hn⟩

theorem ditem_word {rec_ : List UInt8 → PRes} {r : List UInt8} (h : r.head? ≠ some 91) : ditem rec_ r = match stParse (wd r) with
    | none => none
    | some x => some ([x], false, wrest r) := by
  unfold ditem
  split
  · simp at h
  · rfl

theorem stParse_yes (s : ByteArray) (w : World) (x : St) (hs : s.size ≤ 1000000) (h : stParse s.data.toList = some x) :
    Calls Tryd.prog 26 #[.string s] w fun e w' => e = .returned (.tuple #[.agg #[.int .u8 x.kind, .int .u8 x.yarn, .int .i64 x.a, .int .i64 x.b, .bool x.front], .int .i64 0]) ∧ Below w.heap.size w w' := by
  refine (stParse_any s w hs).mono ?_
  rintro e w' ⟨h1, hb⟩
  unfold StOut at h1
  rw [h] at h1
  exact ⟨h1, hb⟩
theorem stParse_no (s : ByteArray) (w : World) (hs : s.size ≤ 1000000) (h : stParse s.data.toList = none) :
    Calls Tryd.prog 26 #[.string s] w fun e w' => e = .returned (.tuple #[.agg #[.int .u8 0, .int .u8 0, .int .i64 0, .int .i64 0, .bool false], .int .i64 4]) ∧ Below w.heap.size w w' := by
  refine (stParse_any s w hs).mono ?_
  rintro e w' ⟨h1, hb⟩
  unfold StOut at h1
  rw [h] at h1
  exact ⟨h1, hb⟩

theorem ditem_none {rec_ : List UInt8 → PRes} {r1 : List UInt8} (h : rec_ r1 = none) : ditem rec_ (91 :: r1) = none := by unfold ditem; simp only [h]
theorem pre_split {r2 : List UInt8} (h : Lib.hasPrefix r2 [93, 120] = true) : ∃ r3, r2 = 93 :: 120 :: r3 := by
  unfold Lib.hasPrefix at h
  match r2, h with
  | [], h => simp [List.isPrefixOf] at h
  | [a], h => simp [List.isPrefixOf] at h
  | a :: b :: r3, h =>
    simp [List.isPrefixOf] at h
    exact ⟨r3, by rw [← h.1, ← h.2]⟩
theorem ditem_nopre {rec_ : List UInt8 → PRes} {r1 r2 : List UInt8} {row : List St} {lg : Bool} (h : rec_ r1 = some (row, lg, r2)) (hn : Lib.hasPrefix r2 [93, 120] = false) : ditem rec_ (91 :: r1) = none := by
  unfold ditem
  simp only [h]
  split
  · simp [Lib.hasPrefix, List.isPrefixOf] at hn
  · rfl
theorem ditem_zero {rec_ : List UInt8 → PRes} {r1 r3 : List UInt8} {row : List St} {lg : Bool} (h : rec_ r1 = some (row, lg, 93 :: 120 :: r3)) (hn : cnt (wd r3) 16 = 0) : ditem rec_ (91 :: r1) = none := by
  unfold ditem
  simp only [h, hn, if_true]
theorem ditem_rep {rec_ : List UInt8 → PRes} {r1 r3 : List UInt8} {row : List St} {lg : Bool} {m : Nat} (h : rec_ r1 = some (row, lg, 93 :: 120 :: r3)) (hm : cnt (wd r3) 16 = (m : Int)) (hn : 0 < m) :
    ditem rec_ (91 :: r1) = some ((repL m row).take 16, lg || decide (16 < (repL m row).length), wrest r3) := by
  unfold ditem
  simp only [h]
  rw [if_neg (by omega), hm]
  rfl
theorem cnt_bound (s : List UInt8) : ∃ m : Nat, cnt s 16 = (m : Int) ∧ m ≤ 16 := by
  by_cases h : cnt s 16 = 0
  · exact ⟨0, by rw [h]; rfl, by omega⟩
  · obtain ⟨h1, h2, _⟩ := cnt_ne h
    exact ⟨(cnt s 16).toNat, by omega, by omega⟩

/-- The contract of the list closure at a depth. -/
def ListOk (f : Nat) : Prop := ∀ (w : World) (g k : Nat) (lg : Bool) (s : ByteArray), Env w g k lg s → Vars w → 5 ≤ g → k ≤ s.size → s.size ≤ 2000 → s.size - k < f →
  Calls Tryd.prog 30 #[.pointer (some ⟨g + 6, 0, none⟩), .pointer (some ⟨g + 3, 0, none⟩), .pointer (some ⟨g + 1, 0, none⟩), .pointer (some ⟨g, 0, none⟩)] w fun e w' => PPost (dlist f (s.data.toList.drop k) [] false) g s lg w e w'
def ItemOk (f : Nat) : Prop := ∀ (w : World) (g k : Nat) (lg : Bool) (s : ByteArray), Env w g k lg s → Vars w → 5 ≤ g → k ≤ s.size → s.size ≤ 2000 → s.size - k ≤ f →
  Calls Tryd.prog 25 #[.pointer (some ⟨g + 1, 0, none⟩), .pointer (some ⟨g, 0, none⟩), .pointer (some ⟨g + 4, 0, none⟩), .pointer (some ⟨g + 5, 0, none⟩), .pointer (some ⟨g + 3, 0, none⟩)] w fun e w' => PPost (ditem (fun r1 => dlist f r1 [] false) (s.data.toList.drop k)) g s lg w e w'

set_option maxHeartbeats 4000000 in
theorem item_ok (f : Nat) (hL : ListOk f) : ItemOk f := by
  intro w g k lg s hE hV hg hk hs hf
  have HE := Lib.hid hE
  have HV := Lib.hid hV; clear hV
  have HL := Lib.hid hL; clear hL
  have a0 := hE.at_.cell 0
  have s0 := hE.str.cell 0
  have fa := hE.at_.frozen 0
  simp only [List.getElem?_cons_zero] at a0 s0
  have sh0 := hE.short
  have wo0 := hE.word
  have li0 := hE.list
  have hroom := hE.room
  clear hE
  by_cases h91 : k < s.size ∧ s.data.toList[k]? = some 91
  · obtain ⟨hlt, h91⟩ := h91
    have hx : s[k] = 91 := by
      rw [List.getElem?_eq_getElem (by simpa using hlt)] at h91
      injection h91
    have hne : ((s[k].toNat : Int) != 91) = false := by rw [hx]; rfl
    have HSP : Hid (s.data.toList.drop k = 91 :: s.data.toList.drop (k + 1)) := Lib.hid (by rw [drop_at hlt, hx])
    clear hx h91
    have hEA : Env (w.setCell ⟨g + 1, 0, none⟩ (.int .i64 ((k : Int) + 1))) g (k + 1) lg s :=
      HE.out.upd ((KeptOut.refl w).set_ (.inl rfl) _) (HE.out.at_.set_ 0 _) (HE.out.long.far (p := ⟨g + 1, 0, none⟩) (by simp) _)
    have hkA : KeptOut (Kg g) w (w.setCell ⟨g + 1, 0, none⟩ (.int .i64 ((k : Int) + 1))) := (KeptOut.refl w).set_ (.inl rfl) _
    have HLL := Lib.hid (HL.out _ g (k + 1) lg s hEA (HV.out.keptK hkA (fun b hb => by rcases hb with rfl | rfl <;> omega)) hg (by omega) hs (by omega))
    go_enter Tryd.func25, Tryd.ntmps25
    go_wp2_with fail
    refine HLL.out.mono ?_
    rintro e w1 ⟨hk1, hres⟩
    have hkk := hkA.trans hk1
    clear HLL hEA hk1 hkA
    cases hd : dlist f (s.data.toList.drop (k + 1)) [] false with
    | none =>
      rw [hd] at hres
      have HDN : Hid (ditem (fun r1 => dlist f r1 [] false) (s.data.toList.drop k) = none) := Lib.hid (by rw [HSP.out]; exact ditem_none hd)
      clear hd
      obtain ⟨v, rfl⟩ := hres
      go_wp2_with fail
      go_ret2
      rw [HDN.out]
      exact ⟨hkk, _, rfl⟩
    | some res =>
      obtain ⟨row, lg1, r2⟩ := res
      rw [hd] at hres
      have HDL := Lib.hid hd; clear hd
      obtain ⟨A, n, c, k2, rfl, hst, hfr, hnc, hcm, hE1, hdr, hk2, hn16⟩ := hres
      replace hfr : Fresh w.heap.size A := by simpa [World.setCell] using hfr
      have HE1 := Lib.hid hE1
      have a1 := hE1.at_.cell 0
      have s1 := hE1.str.cell 0
      have fb := hE1.at_.frozen 0
      simp only [List.getElem?_cons_zero] at a1 s1
      have wo1 := hE1.word
      have hroom1 := hE1.room
      clear hE1
      have HDR := Lib.hid hdr; clear hdr
      have HPX := Lib.hid (fun (W : World) => Tryd.strings_HasPrefix (s.extract k2 s.size) ⟨#[93, 120]⟩ W)
      have hex : (s.extract k2 s.size).data.toList = r2 := by rw [Lib.extract_to_end]; exact HDR.out
      cases hpre : Lib.hasPrefix r2 [93, 120] with
      | false =>
        have HDN : Hid (ditem (fun r1 => dlist f r1 [] false) (s.data.toList.drop k) = none) := Lib.hid (by rw [HSP.out]; exact ditem_nopre HDL.out hpre)
        have HPR := Lib.hid hpre; clear hpre
        have HEX := Lib.hid hex; clear hex
        go_wp2_with fail
        refine (HPX.out w1).mono ?_
        rintro e w2 ⟨rfl, rfl⟩
        rw [HEX.out, HPR.out]
        go_wp2_with fail
        go_ret2
        rw [HDN.out]
        exact ⟨hkk, _, rfl⟩
      | true =>
        obtain ⟨r3, rfl⟩ := pre_split hpre
        have HPR := Lib.hid hpre; clear hpre
        have HEX := Lib.hid hex; clear hex
        have hk22 : k2 + 2 ≤ s.size := by
          have := congrArg List.length HDR.out
          simp at this; omega
        have HDR3 : Hid (s.data.toList.drop (k2 + 2) = r3) := Lib.hid (by
          have := congrArg (List.drop 2) HDR.out
          rw [List.drop_drop] at this
          exact this)
        have hEB : Env (w1.setCell ⟨g + 1, 0, none⟩ (.int .i64 ((k2 : Int) + 2))) g (k2 + 2) (lg || lg1) s :=
          HE1.out.upd ((KeptOut.refl w1).set_ (.inl rfl) _) (HE1.out.at_.set_ 0 _) (HE1.out.long.far (p := ⟨g + 1, 0, none⟩) (by simp) _)
        have HEB := Lib.hid hEB; clear hEB
        have hkB : KeptOut (Kg g) w (w1.setCell ⟨g + 1, 0, none⟩ (.int .i64 ((k2 : Int) + 2))) := hkk.set_ (.inl rfl) _
        have hstB : Sts (w1.setCell ⟨g + 1, 0, none⟩ (.int .i64 ((k2 : Int) + 2))) A n row := hst.keptK ((KeptOut.refl w1).set_ (K := Kg g) (.inl rfl) _) (fun ad e => by have := hfr ad e; unfold Kg; omega)
        have HW := Lib.hid (word_any g (g + 1) (k2 + 2) s _ HEB.out.str HEB.out.at_ (by omega) hk22 (by omega))
        go_wp2_with fail
        refine (HPX.out w1).mono ?_
        rintro e w2 ⟨rfl, rfl⟩
        rw [HEX.out, HPR.out]
        go_wp2_with fail
        refine HW.out.mono ?_
        rintro e w3 ⟨t, k3, rfl, HT, ha3, hkp⟩
        have htz : t.size ≤ 1000000 := by have := HT.out.2.1; have := HT.out.2.2.2; omega
        have hk3 : KeptOut (Kg g) w w3 := hkB.trans (hkp.weak fun b hb => .inl hb)
        have hE3 : Env w3 g k3 (lg || lg1) s := HEB.out.upd (hkp.weak fun b hb => .inl hb) ha3 (HEB.out.long.of_block (hkp.block (g + 2) HEB.out.long.lt (by omega)))
        have hst3 : Sts w3 A n row := hstB.keptK hkp (fun ad e => by have := hfr ad e; omega)
        have HE3 := Lib.hid hE3; clear hE3
        have HT2 : Hid (t.data.toList = wd r3 ∧ s.data.toList.drop k3 = wrest r3 ∧ k3 ≤ s.size) := Lib.hid ⟨by rw [HT.out.1, HDR3.out], by rw [HT.out.2.2.1, HDR3.out], HT.out.2.2.2⟩
        clear hkp ha3 hstB hst
        have HV3 := Lib.hid (HV.out.keptK hk3 (fun b hb => by rcases hb with rfl | rfl <;> omega))
        obtain ⟨m, hm, hm16⟩ := cnt_bound (wd r3)
        have HM : Hid (cnt t.data.toList 16 = (m : Int)) := Lib.hid (by rw [HT2.out.1]; exact hm)
        have HM2 := Lib.hid hm; clear hm
        have HCNT := Lib.hid (count_any t 16 w3 htz (by omega) (by omega) HV3.out)
        have hnm : n * m ≤ 256 := Nat.mul_le_mul hn16 hm16
        rcases Nat.lt_or_ge 16 (n * m) with h16 | h16
        · have hmpos : 0 < m := by
            rcases Nat.eq_zero_or_pos m with h | h
            · rw [h, Nat.mul_zero] at h16; omega
            · exact h
          have hmb : decide (0 < (m : Int)) = true := by simp; omega
          go_wp2_with fail
          refine HCNT.out.mono ?_
          rintro e w4 ⟨rfl, hb4⟩
          rw [HM.out]
          have hE4 := HE3.out.below hb4
          have hst4 := hst3.below hb4
          have hk4 : KeptOut (Kg g) w w4 := hk3.step (hb4.mono hk3.size)
          have sh4 := hE4.short
          have hroom4 := hE4.room
          have hlb := hE4.long.lt
          have HE4 := Lib.hid hE4
          clear hE4
          go_wp2_with fail
          go_region_held3 (fun w' => w'.cell? ⟨g + 3, 0, none⟩ = some (shortV g)) (first | go_keep | exact sh4 | exact hS6 | exact (hb5.cell (p := ⟨g + 3, 0, none⟩) (by simp; omega)).trans sh4) (first
            | (go_at_call 29
               first | (refine (repeat_any A n c m row _ hst4 (by omega) (by omega)).mono ?_) | (refine (repeat_any A n c m row _ hst4.drew (by omega) (by omega)).mono ?_) | (refine (repeat_any A n c m row _ hst4.drew.drew (by omega) (by omega)).mono ?_)
               rintro e w5 ⟨A5, rfl, hown5, hb5⟩
               replace hb5 : Below w4.heap.size w4 w5 := (by first | exact hb5 | exact (Below.refl _ w4).drew.trans hb5)
               have hE5 := HE4.out.below hb5)
            | (go_at_call 23
               refine (shortc_gt A5 (n * m) (n * m) (g + 2) (lg || lg1) _ (by omega) (Nat.le_refl _) (by omega) (by first | exact hE5.long | exact hE5.long.drew)).mono ?_
               rintro e w6 ⟨rfl, rfl⟩
               have hS6 : (w5.setCell ⟨g + 2, 0, none⟩ (.bool true)).cell? ⟨g + 3, 0, none⟩ = some (shortV g) := (World.cell?_setCell_other w5 ⟨g + 2, 0, none⟩ ⟨g + 3, 0, none⟩ (.bool true) (by simp)).trans hE5.short))
          go_wp2_with fail
          go_ret2
          have hlen5 : (repL m row).length = n * m := by rw [repL_length, hst4.len, Nat.mul_comm]
          have HDN : ditem (fun r1 => dlist f r1 [] false) (s.data.toList.drop k) = some ((repL m row).take 16, lg1 || decide (16 < (repL m row).length), wrest r3) := by
            rw [HSP.out]
            exact ditem_rep HDL.out HM2.out hmpos
          rw [HDN, hlen5, decide_eq_true h16]
          have hw6 : KeptOut (Kg g) w5 (w5.setCell ⟨g + 2, 0, none⟩ (.bool true)) := (KeptOut.refl w5).set_ (.inr rfl) _
          refine PPost.yes ((hk4.step (hb5.mono hk4.size)).trans hw6) rfl ?_ ?_ (by omega) (by omega) ?_ HT2.out.2.1 HT2.out.2.2 (by omega)
          · exact (hown5.sts.take (by omega)).keptK hw6 (fun ad e => by have h0 : w4.heap.size ≤ ad.block := hown5.fresh ad e; have := hk4.size; unfold Kg; omega)
          · exact fun ad e => Nat.le_trans hk4.size (hown5.fresh ad e)
          · rw [Bool.or_true, Bool.or_true]
            exact hE5.upd hw6 (hE5.at_.far (p := ⟨g + 2, 0, none⟩) (by simp) _) (hE5.long.set_ 0 (.bool true))
        · go_wp2_with fail
          refine HCNT.out.mono ?_
          rintro e w4 ⟨rfl, hb4⟩
          rw [HM.out]
          have hE4 := HE3.out.below hb4
          have hst4 := hst3.below hb4
          have hk4 : KeptOut (Kg g) w w4 := hk3.step (hb4.mono hk3.size)
          have sh4 := hE4.short
          have hroom4 := hE4.room
          have hlb := hE4.long.lt
          have HE4 := Lib.hid hE4
          clear hE4
          go_wp2_with fail
          go_region_held3 (fun w' => w'.cell? ⟨g + 3, 0, none⟩ = some (shortV g)) (first | go_keep | exact sh4 | exact hS6 | exact (hb5.cell (p := ⟨g + 3, 0, none⟩) (by simp; omega)).trans sh4) (first
            | (go_at_call 29
               first | (refine (repeat_any A n c m row _ hst4 (by omega) (by omega)).mono ?_) | (refine (repeat_any A n c m row _ hst4.drew (by omega) (by omega)).mono ?_) | (refine (repeat_any A n c m row _ hst4.drew.drew (by omega) (by omega)).mono ?_)
               rintro e w5 ⟨A5, rfl, hown5, hb5⟩
               replace hb5 : Below w4.heap.size w4 w5 := (by first | exact hb5 | exact (Below.refl _ w4).drew.trans hb5)
               have hE5 := HE4.out.below hb5)
            | (go_at_call 23
               refine (shortc_le A5 (n * m) (n * m) (g + 2) _ (by omega)).mono ?_
               rintro e w6 ⟨rfl, rfl⟩
               have hS6 := hE5.short))
          rcases Nat.eq_zero_or_pos m with hm0 | hmpos
          · have HDN : ditem (fun r1 => dlist f r1 [] false) (s.data.toList.drop k) = none := by
              rw [HSP.out]
              exact ditem_zero HDL.out (by rw [HM2.out, hm0]; rfl)
            subst hm0
            go_wp2_with fail
            go_ret2
            rw [HDN]
            exact PPost.no (hk4.step (hb5.mono hk4.size)) rfl
          · have hmb : decide (0 < (m : Int)) = true := by simp; omega
            go_wp2_with fail
            go_ret2
            have hlen5 : (repL m row).length = n * m := by rw [repL_length, hst4.len, Nat.mul_comm]
            have HDN : ditem (fun r1 => dlist f r1 [] false) (s.data.toList.drop k) = some ((repL m row).take 16, lg1 || decide (16 < (repL m row).length), wrest r3) := by
              rw [HSP.out]
              exact ditem_rep HDL.out HM2.out hmpos
            rw [HDN, List.take_of_length_le (by omega), hlen5, decide_eq_false (by omega), Bool.or_false]
            exact PPost.yes (hk4.step (hb5.mono hk4.size)) (decide_eq_true hmpos) hown5.sts (fun ad e => Nat.le_trans hk4.size (hown5.fresh ad e)) (Nat.le_refl _) (by omega) hE5 HT2.out.2.1 HT2.out.2.2 (by omega)
  · have hhd : (s.data.toList.drop k).head? ≠ some 91 := by
      intro e
      rw [List.head?_drop] at e
      have := (List.getElem?_eq_some_iff.1 e).1
      exact h91 ⟨by simpa using this, e⟩
    have HD := Lib.hid (ditem_word (rec_ := fun r1 => dlist f r1 [] false) hhd)
    clear hhd
    have HW := Lib.hid (word_any g (g + 1) k s w HE.out.str HE.out.at_ (by omega) hk (by omega))
    have htest : (s.size ≤ k) ∨ (∃ h : k < s.size, ((s[k].toNat : Int) != 91) = true) := by
      rcases Nat.lt_or_ge k s.size with h | h
      · refine .inr ⟨h, u8_ne (b := 91) fun e => h91 ⟨h, ?_⟩⟩
        rw [List.getElem?_eq_getElem (by simpa using h)]
        exact congrArg some e
      · exact .inl h
    clear h91
    rcases htest with hge | ⟨hlt, hne⟩
    all_goals
      go_enter Tryd.func25, Tryd.ntmps25
      go_wp2_with fail
      refine HW.out.mono ?_
      rintro e w1 ⟨t, k', rfl, HT, ha1, hkp⟩
      have htz : t.size ≤ 1000000 := by have := HT.out.2.1; have := HT.out.2.2.2; omega
      have hk1 : KeptOut (Kg g) w w1 := hkp.weak fun b hb => .inl hb
      have hE1 : Env w1 g k' lg s := HE.out.upd hk1 ha1 (HE.out.long.of_block (hkp.block (g + 2) HE.out.long.lt (by omega)))
      clear hkp ha1
      cases hp : stParse t.data.toList with
      | none =>
        have HP := Lib.hid hp; clear hp
        have HDN : Hid (ditem (fun r1 => dlist f r1 [] false) (s.data.toList.drop k) = none) := Lib.hid (by rw [HD.out, ← HT.out.1, HP.out])
        go_wp2_with fail
        refine (stParse_no t w1 htz HP.out).mono ?_
        rintro e w2 ⟨rfl, hb2⟩
        go_wp2_with fail
        go_ret2
        rw [HDN.out]
        exact ⟨hk1.step (((hb2.alloc hb2.size _).alloc (by simp; have := hb2.size; omega) _).mono hk1.size), _, rfl⟩
      | some x =>
        have HP := Lib.hid hp; clear hp
        have HDN : Hid (ditem (fun r1 => dlist f r1 [] false) (s.data.toList.drop k) = some ([x], false, wrest (s.data.toList.drop k))) := Lib.hid (by rw [HD.out, ← HT.out.1, HP.out])
        go_wp2_with fail
        refine (stParse_yes t w1 x htz HP.out).mono ?_
        rintro e w2 ⟨rfl, hb2⟩
        go_wp2_with fail
        go_ret2
        rw [HDN.out]
        have hb4 := (hb2.alloc hb2.size (.cells #[.int .u8 x.kind, .int .u8 x.yarn, .int .i64 x.a, .int .i64 x.b, .bool x.front] 29)).alloc (by simp; have := hb2.size; omega) (.cells #[.int .u8 x.kind, .int .u8 x.yarn, .int .i64 x.a, .int .i64 x.b, .bool x.front] 29)
        have hst : Sts ((w2.alloc (.cells #[.int .u8 x.kind, .int .u8 x.yarn, .int .i64 x.a, .int .i64 x.b, .bool x.front] 29)).alloc (.cells #[.int .u8 x.kind, .int .u8 x.yarn, .int .i64 x.a, .int .i64 x.b, .bool x.front] 29)) (some ⟨w2.heap.size + 1, 0, none⟩) 1 [x] := by
          have := Sts.lit (w2.alloc (.cells #[.int .u8 x.kind, .int .u8 x.yarn, .int .i64 x.a, .int .i64 x.b, .bool x.front] 29)) 29 [x]
          rwa [show (w2.alloc (.cells #[.int .u8 x.kind, .int .u8 x.yarn, .int .i64 x.a, .int .i64 x.b, .bool x.front] 29)).heap.size = w2.heap.size + 1 by simp] at this
        refine ⟨hk1.step (hb4.mono hk1.size), _, 1, 1, k', rfl, hst, ?_, by omega, by omega, ?_, HT.out.2.2.1, HT.out.2.2.2, by omega⟩
        · intro ad e
          injection e with e
          subst e
          have h1 := hk1.size
          have h2 := hb2.size
          show w.heap.size ≤ w2.heap.size + 1
          omega
        · rw [Bool.or_false]
          exact hE1.below hb4

end Go.Proofs.YtgpkcooipadnpaaDoor
