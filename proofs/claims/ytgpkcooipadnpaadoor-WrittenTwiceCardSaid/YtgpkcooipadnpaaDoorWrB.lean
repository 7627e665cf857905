/-
  Contracts of the closures of written.Expand that cut a row short and read a word. No conditions.
-/
import Derived.Test.YtgpkcooipadnpaaDoorSts
import Derived.Test.YtgpkcooipadnpaaDoorWrA
namespace Go.Proofs.YtgpkcooipadnpaaDoor
set_option linter.unusedSimpArgs false
set_option linter.unusedVariables false
open Go.RowKit
set_option maxRecDepth 100000

theorem shortc_le (A : Option Addr) (n c g : Nat) (w : World) (h : n ≤ 16) :
    Calls Tryd.prog 23 #[.slice A n c, .pointer (some ⟨g, 0, none⟩)] w fun e w' => e = .returned (.slice A n c) ∧ w = w' := by
  have hb : decide (16 < (n : Int)) = false := by simp; omega
  go_enter Tryd.func23, Tryd.ntmps23
  go_wp2
  go_ret
  exact ⟨rfl, rfl⟩
theorem shortc_gt (A : Option Addr) (n c g : Nat) (lg : Bool) (w : World) (h : 16 < n) (hc : n ≤ c) (hcm : c ≤ 9223372036854775807) (hb : Blk w g 4 [.bool lg]) :
    Calls Tryd.prog 23 #[.slice A n c, .pointer (some ⟨g, 0, none⟩)] w fun e w' => e = .returned (.slice A 16 c) ∧ w' = w.setCell ⟨g, 0, none⟩ (.bool true) := by
  have h0 := hb.cell 0
  have f0 := hb.frozen 0
  simp only [List.getElem?_cons_zero] at h0
  have hbb : decide (16 < (n : Int)) = true := by simp; omega
  have h16 : 16 ≤ c := by omega
  go_enter Tryd.func23, Tryd.ntmps23
  go_wp2
  go_ret
  exact ⟨rfl, rfl⟩

theorem u8_ne {a b : UInt8} (h : ¬ a = b) : ((a.toNat : Int) != (b.toNat : Int)) = true := by
  rw [bne_iff_ne]
  intro e
  exact h (UInt8.toNat_inj.1 (by omega))
theorem word_step {s : ByteArray} {k j : Nat} (hkj : k ≤ j) (hlt : j < s.size)
    (h : wd (s.data.toList.drop k) = (s.data.toList.drop k).take (j - k) ++ wd (s.data.toList.drop j) ∧ wrest (s.data.toList.drop k) = wrest (s.data.toList.drop j))
    (hd : s.data.toList.drop j = s[j] :: s.data.toList.drop (j + 1)) (hs : stopB s[j] = false) :
    wd (s.data.toList.drop k) = (s.data.toList.drop k).take (j + 1 - k) ++ wd (s.data.toList.drop (j + 1)) ∧ wrest (s.data.toList.drop k) = wrest (s.data.toList.drop (j + 1)) := by
  have h1 : wd (s.data.toList.drop j) = s[j] :: wd (s.data.toList.drop (j + 1)) := by
    rw [hd]; unfold wd; rw [List.takeWhile_cons, if_pos (by simp [hs])]
  have h2 : wrest (s.data.toList.drop j) = wrest (s.data.toList.drop (j + 1)) := by
    rw [hd]; unfold wrest; rw [List.dropWhile_cons, if_pos (by simp [hs])]
  refine ⟨?_, h.2.trans h2⟩
  rw [h.1, h1]
  have e : j + 1 - k = (j - k) + 1 := by omega
  have hget : (s.data.toList.drop k)[j - k]? = some s[j] := by
    rw [List.getElem?_drop, show k + (j - k) = j by omega]
    have := congrArg (·[0]?) hd
    simpa using this
  rw [e, List.take_add_one, hget]
  simp
theorem KeptOut.set_ {K : Nat → Prop} {w w' : World} {g o : Nat} (h : KeptOut K w w') (hg : K g) (u : Value) : KeptOut K w (w'.setCell ⟨g, o, none⟩ u) :=
  ⟨h.os, h.tape, h.output, by simpa [World.setCell] using h.size, fun k hk hn => (Below.heap_setCell w' ⟨g, o, none⟩ u k (fun e => hn (e ▸ hg))).trans (h.block k hk hn)⟩
def WordOut (gs ga k : Nat) (s : ByteArray) (w : World) (e : Ending) (w' : World) : Prop :=
  ∃ (t : ByteArray) (k' : Nat), e = .returned (.string t) ∧ Hid (t.data.toList = wd (s.data.toList.drop k) ∧ k' = k + t.size ∧ s.data.toList.drop k' = wrest (s.data.toList.drop k) ∧ k' ≤ s.size) ∧ Blk w' ga 3 [.int .i64 k'] ∧ KeptOut (fun b => b = ga) w w'
theorem word_end {gs ga k j : Nat} {s : ByteArray} {w w' : World} (hkj : k ≤ j) (hj : j ≤ s.size) (hz : s.size ≤ 1000000)
    (h : wd (s.data.toList.drop k) = (s.data.toList.drop k).take (j - k) ++ wd (s.data.toList.drop j) ∧ wrest (s.data.toList.drop k) = wrest (s.data.toList.drop j))
    (hstop : s.data.toList.drop j = [] ∨ ∃ c r, s.data.toList.drop j = c :: r ∧ stopB c = true) (hb : Blk w' ga 3 [.int .i64 j]) (hk : KeptOut (fun b => b = ga) w w') : WordOut gs ga k s w (.returned (.string (s.extract k j))) w' := by
  have h0 : wd (s.data.toList.drop j) = [] ∧ wrest (s.data.toList.drop j) = s.data.toList.drop j := by
    rcases hstop with e | ⟨c, r, e, hc⟩
    · rw [e]; exact ⟨rfl, rfl⟩
    · rw [e]; simp [wd, wrest, List.takeWhile_cons, List.dropWhile_cons, hc]
  refine ⟨_, j, rfl, Lib.hid ⟨?_, ?_, ?_, hj⟩, hb, hk⟩
  · rw [h.1, h0.1, List.append_nil, Lib.extract_data]
  · rw [ByteArray.size_extract]; omega
  · rw [h.2, h0.2]

/-- The word closure. -/
theorem word_any (gs ga k : Nat) (s : ByteArray) (w : World) (hs : Blk w gs 9 [.string s]) (ha : Blk w ga 3 [.int .i64 k]) (hne : gs ≠ ga) (hk : k ≤ s.size) (hz : s.size ≤ 1000000) :
    Calls Tryd.prog 24 #[.pointer (some ⟨ga, 0, none⟩), .pointer (some ⟨gs, 0, none⟩)] w fun e w' => WordOut gs ga k s w e w' := by
  have s0 := hs.cell 0
  have a0 := ha.cell 0
  simp only [List.getElem?_cons_zero] at s0 a0
  have hgs := hs.lt
  go_enter Tryd.func24, Tryd.ntmps24
  go_wp2_with fail
  go_loopg [5] (s.size - k) (fun m _ wr => ∃ j : Nat, k ≤ j ∧ j ≤ s.size ∧ m = s.size - j ∧ Hid (wd (s.data.toList.drop k) = (s.data.toList.drop k).take (j - k) ++ wd (s.data.toList.drop j) ∧ wrest (s.data.toList.drop k) = wrest (s.data.toList.drop j)) ∧ Blk wr ga 3 [.int .i64 j] ∧ KeptOut (fun b => b = ga) w wr)
  case atStart => exact ⟨k, Nat.le_refl _, hk, rfl, Lib.hid ⟨by simp, rfl⟩, ha, KeptOut.refl w⟩
  case round =>
    obtain ⟨j, hkj, hj, hm, HW, haj, hkp⟩ := hrel
    have s1 : wr.cell? ⟨gs, 0, none⟩ = some (.string s) := (hkp.cell (p := ⟨gs, 0, none⟩) hgs hne).trans s0
    have a1 := haj.cell 0
    have f1 := haj.frozen 0
    simp only [List.getElem?_cons_zero] at a1
    rcases Nat.lt_or_ge j s.size with hlt | hge
    · have HD := Lib.hid (drop_at hlt)
      by_cases h32 : s[j] = 32
      · have h32b : ((s[j].toNat : Int) != 32) = false := by rw [h32]; rfl
        have HS : Hid (stopB s[j] = true) := Lib.hid (by rw [h32]; rfl)
        clear h32
        go_wp2_with fail
        go_ret
        exact word_end hkj hj hz HW.out (.inr ⟨_, _, HD.out, HS.out⟩) haj hkp
      · by_cases h93 : s[j] = 93
        · have h32b : ((s[j].toNat : Int) != 32) = true := u8_ne (b := 32) h32
          have h93b : ((s[j].toNat : Int) != 93) = false := by rw [h93]; rfl
          have HS : Hid (stopB s[j] = true) := Lib.hid (by rw [h93]; rfl)
          clear h32 h93
          go_wp2_with fail
          go_ret
          exact word_end hkj hj hz HW.out (.inr ⟨_, _, HD.out, HS.out⟩) haj hkp
        · have h32b : ((s[j].toNat : Int) != 32) = true := u8_ne (b := 32) h32
          have h93b : ((s[j].toNat : Int) != 93) = true := u8_ne (b := 93) h93
          have HS : Hid (stopB s[j] = false) := Lib.hid (by simp [stopB, h32, h93])
          clear h32 h93
          have ha2 := haj.set_ 0 (.int .i64 ((j : Int) + 1))
          have hk2 : KeptOut (fun b => b = ga) w (wr.setCell ⟨ga, 0, none⟩ (.int .i64 ((j : Int) + 1))) := hkp.set_ rfl _
          go_wp2_with fail
          go_roundg (s.size - (j + 1))
          case measure => omega
          case rel => exact ⟨j + 1, by omega, by omega, rfl, Lib.hid (word_step hkj hlt HW.out HD.out HS.out), ha2, hk2⟩
    · go_wp2_with fail
      go_ret
      exact word_end hkj hj hz HW.out (.inl (drop_end hge)) haj hkp

end Go.Proofs.YtgpkcooipadnpaaDoor
