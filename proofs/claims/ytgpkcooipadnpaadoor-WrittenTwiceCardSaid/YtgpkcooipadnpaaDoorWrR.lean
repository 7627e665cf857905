/-
  The walk of the reference's Expand. Condition: a text of at most 2000 bytes.
-/
import Derived.Test.YtgpkcooipadnpaaDoorWrRa
import Derived.Deep.CutRange
import Derived.Deep.CutBlock
namespace Go.Proofs.YtgpkcooipadnpaaDoor
set_option linter.unusedSimpArgs false
set_option linter.unusedVariables false
open Go.RowKit
set_option maxRecDepth 100000

/-- What the reference's Expand answers. -/
def ROut (res : Int × List St) (w : World) (e : Ending) (w' : World) : Prop :=
  ∃ A n c, e = .returned (.tuple #[.slice A n c, .int .i64 res.1]) ∧ Sts w' A n res.2 ∧ Fresh w.heap.size A ∧ n ≤ c ∧ c ≤ 9223372036854775807
theorem ROut.none_ {k : Int} {w w' : World} : ROut (k, []) w (.returned (.tuple #[.slice none 0 0, .int .i64 k])) w' := ⟨none, 0, 0, rfl, Sts.nil_, Fresh.none_, by omega, by omega⟩

theorem word_ends {k j : Nat} {s : ByteArray} (hkj : k ≤ j)
    (h : wd (s.data.toList.drop k) = (s.data.toList.drop k).take (j - k) ++ wd (s.data.toList.drop j) ∧ wrest (s.data.toList.drop k) = wrest (s.data.toList.drop j))
    (hstop : s.data.toList.drop j = [] ∨ ∃ c r, s.data.toList.drop j = c :: r ∧ stopB c = true) : (s.extract k j).data.toList = wd (s.data.toList.drop k) ∧ s.data.toList.drop j = wrest (s.data.toList.drop k) := by
  have h0 : wd (s.data.toList.drop j) = [] ∧ wrest (s.data.toList.drop j) = s.data.toList.drop j := by
    rcases hstop with e | ⟨c, r, e, hc⟩
    · rw [e]; exact ⟨rfl, rfl⟩
    · rw [e]; simp [wd, wrest, List.takeWhile_cons, List.dropWhile_cons, hc]
  constructor
  · rw [h.1, h0.1, List.append_nil, Lib.extract_data]
  · rw [h.2, h0.2]

theorem u8_eq {a b : UInt8} (h : ¬ a = b) : ((a.toNat : Int) == (b.toNat : Int)) = false := by
  rw [beq_eq_false_iff_ne]
  intro e
  exact h (UInt8.toNat_inj.1 (by omega))
/-- Where the word from k on ends. -/
def WordE (s : ByteArray) (k : Nat) (v : Value) : Prop := ∃ j, v = .int .i64 (j : Nat) ∧ k ≤ j ∧ j ≤ s.size ∧ (s.extract k j).data.toList = wd (s.data.toList.drop k) ∧ s.data.toList.drop j = wrest (s.data.toList.drop k)
theorem WordE.at_ {s : ByteArray} {k j : Nat} (hkj : k ≤ j) (hj : j ≤ s.size)
    (h : wd (s.data.toList.drop k) = (s.data.toList.drop k).take (j - k) ++ wd (s.data.toList.drop j) ∧ wrest (s.data.toList.drop k) = wrest (s.data.toList.drop j))
    (hstop : s.data.toList.drop j = [] ∨ ∃ c r, s.data.toList.drop j = c :: r ∧ stopB c = true) : WordE s k (.int .i64 (j : Nat)) := ⟨j, rfl, hkj, hj, (word_ends hkj h hstop).1, (word_ends hkj h hstop).2⟩

theorem mclose_no {K : Kont} {o : List (List St)} {c : UInt8} {r : List UInt8} (h : c ≠ 93 ∨ o.length < 2 ∨ r = [] ∨ r.head? ≠ some 120) : mclose K o c r = (4, []) := by
  unfold mclose
  split
  · split
    · split
      · rename_i h2
        obtain ⟨rfl, rfl⟩ := h2
        rcases h with h | h | h | h
        · exact absurd rfl h
        · simp at h; omega
        · cases h
        · simp at h
      · rfl
    · rfl
  · rfl
theorem mclose_zero {K : Kont} {o : List (List St)} {r3 : List UInt8} (h : cnt (wd r3) 16 = 0) : mclose K o 93 (120 :: r3) = (4, []) := by
  unfold mclose
  split
  · simp [h]
  · rfl
theorem mclose_yes {K : Kont} {row up : List St} {below : List (List St)} {r3 : List UInt8} : mclose K (row :: up :: below) 93 (120 :: r3) = if cnt (wd r3) 16 = 0 then (4, []) else K ((fillL (cnt (wd r3) 16).toNat up row).take 17 :: below) (wrest r3) false := by
  unfold mclose
  simp

set_option maxHeartbeats 20000000 in
theorem refExpand_any (s : ByteArray) (w : World) (hs : s.size ≤ 2000) :
    Calls Tryd.prog 12 #[.string s] w fun e w' => ROut (refL s.data.toList) w e w' ∧ Below w.heap.size w w' := by
  have hsl : s.data.toList.length = s.size := by simp
  rcases Nat.lt_or_ge 1024 s.size with h1 | h1
  · have HX : Hid (refL s.data.toList = (3, [])) := Lib.hid (by unfold refL; rw [if_pos (by omega)])
    have hb : decide (1024 < (s.size : Int)) = true := by simp; omega
    clear hsl
    go_enter Tryd.func12, Tryd.ntmps12
    go_wp2_with fail
    go_ret2
    rw [HX.out]
    exact ⟨ROut.none_, Below.refl _ _⟩
  · have HX : Hid (refL s.data.toList = mrun (s.size + 1) [[]].reverse (s.data.toList.drop 0) true) := Lib.hid (by unfold refL; rw [if_neg (by omega), hsl]; rfl)
    have hb : decide (1024 < (s.size : Int)) = false := by simp; omega
    clear hsl
    have hbel0 : Below w.heap.size w (w.alloc (.cells #[.slice none 0 0] 22)) := (Below.refl _ _).alloc (Nat.le_refl _) _
    have hst0 := Stk.first w
    go_enter Tryd.func12, Tryd.ntmps12
    go_wp2_with fail
    go_loopg [4, 5, 6] s.size (fun r v4 v5 v6 wr => ∃ (f at_ : Nat) (item : Bool) (A : Option Addr) (n c : Nat) (vs : List Value) (L : List (List St)), v4 = .slice A n c ∧ v5 = .int .i64 at_ ∧ v6 = .bool item ∧ r = s.size - at_ ∧ at_ ≤ s.size ∧ s.size + 1 ≤ f + at_ ∧ 1 ≤ n ∧ n ≤ at_ + 1 ∧ Stk wr w.heap.size A n c vs L ∧ Below w.heap.size w wr ∧ Hid (refL s.data.toList = mrun f L.reverse (s.data.toList.drop at_) item))
    case atStart => exact ⟨s.size + 1, 0, true, _, 1, 1, _, _, rfl, rfl, rfl, by omega, by omega, by omega, by omega, by omega, hst0, hbel0, HX⟩
    case round =>
      clear hst0 hbel0 HX
      obtain ⟨f, at_, item, A, n, c, vs, L, rfl, rfl, rfl, hr, hat, hf, hn1, hn2, HS, hbel, HR⟩ := hrel
      obtain ⟨f', hf'⟩ : ∃ f', f = f' + 1 := ⟨f - 1, by omega⟩
      have HR1 : Hid (refL s.data.toList = mrun (f' + 1) L.reverse (s.data.toList.drop at_) item) := Lib.hid (by rw [HR.out, hf'])
      have hf2 : s.size ≤ f' + at_ := by omega
      clear HR hf' hf
      cases item with
      | true =>
        have HR2 : Hid (refL s.data.toList = mitem (mrun f') L.reverse (s.data.toList.drop at_)) := Lib.hid (by rw [HR1.out, mrun, if_pos rfl])
        clear HR1
        rcases Nat.lt_or_ge at_ s.size with hlt | hge
        · have hab : decide ((s.size : Int) ≤ (at_ : Int)) = false := by simp; omega
          have HD := Lib.hid (drop_at hlt)
          by_cases h91 : s[at_] = 91
          · have h91b : ((s[at_].toNat : Int) == 91) = true := by rw [h91]; rfl
            have HR3 : Hid (refL s.data.toList = mrun f' ([] :: L.reverse) (s.data.toList.drop (at_ + 1)) true) := Lib.hid (by rw [HR2.out, HD.out, mitem, if_pos h91])
            clear h91 HR2
            go_wp2_with (at_builtin; go_must (refine wpList_app1 wr rfl (.tmp 134) (.tmp 135) 43 rfl w.heap.size 22 Tryd.underlying43 elemRw A n c _ rfl HS.own _ rfl rfl (by omega) hbel.size ?_); intro A2 c2 w2 hown2 hg2 ha2)
            have HS2 := HS.push hown2 hg2 ha2 (Nat.le_succ _)
            have hbel2 : Below w.heap.size w w2 := hbel.trans (HS.own.belowG hg2 hbel.size)
            go_wp2_with fail
            go_roundg (s.size - at_ - 1)
            case measure => omega
            case rel => exact ⟨f', at_ + 1, true, A2, n + 1, c2, _, _, rfl, by go_num, rfl, by omega, by omega, by omega, by omega, by omega, HS2, hbel2, Lib.hid (by rw [HR3.out, List.reverse_append]; rfl)⟩
          · have h91b : ((s[at_].toNat : Int) == 91) = false := by
              exact u8_eq (b := 91) h91
            have HR3 : Hid (refL s.data.toList = match stParse (wd (s.data.toList.drop at_)) with
              | none => (4, [])
              | some x => madd (mrun f') L.reverse x (wrest (s.data.toList.drop at_))) := Lib.hid (by rw [HR2.out, HD.out, mitem, if_neg h91]; rfl)
            clear h91 HR2
            go_upto_block 6 with fail
            go_cut [5] from 20 to 187 (fun v wx => WordE s (at_) v ∧ wr = wx)
            case first =>
              as_aux_lemma =>
                go_wp2_with fail
                rename World => w5
                go_loopg [5] (s.size - (at_)) (fun r5 v5 wr5 => ∃ j : Nat, (at_) ≤ j ∧ j ≤ s.size ∧ v5 = .int .i64 j ∧ r5 = s.size - j ∧ Hid (wd (s.data.toList.drop (at_)) = (s.data.toList.drop (at_)).take (j - (at_)) ++ wd (s.data.toList.drop j) ∧ wrest (s.data.toList.drop (at_)) = wrest (s.data.toList.drop j)) ∧ w5 = wr5)
                case atStart => exact ⟨at_, Nat.le_refl _, by omega, by go_num, rfl, Lib.hid ⟨by simp, rfl⟩, rfl⟩
                case round =>
                  obtain ⟨j, hkj, hj, rfl, hr5, HW, rfl⟩ := hrel
                  rcases Nat.lt_or_ge j s.size with hjlt | hjge
                  · have hjb : decide ((j : Int) < (s.size : Int)) = true := by simp; omega
                    have HDJ := Lib.hid (drop_at hjlt)
                    by_cases h32 : s[j] = 32
                    · have h32b : ((s[j].toNat : Int) != 32) = false := by rw [h32]; rfl
                      have HE : Hid (WordE s (at_) (.int .i64 (j : Nat))) := Lib.hid (WordE.at_ hkj hj HW.out (.inr ⟨_, _, HDJ.out, by rw [h32]; rfl⟩))
                      clear h32
                      go_wp2_with fail
                      go_meet
                      exact ⟨HE.out, rfl⟩
                    · have h32b : ((s[j].toNat : Int) != 32) = true := u8_ne (b := 32) h32
                      by_cases h93 : s[j] = 93
                      · have h93b : ((s[j].toNat : Int) != 93) = false := by rw [h93]; rfl
                        have HE : Hid (WordE s (at_) (.int .i64 (j : Nat))) := Lib.hid (WordE.at_ hkj hj HW.out (.inr ⟨_, _, HDJ.out, by rw [h93]; rfl⟩))
                        clear h32 h93
                        go_wp2_with fail
                        go_meet
                        exact ⟨HE.out, rfl⟩
                      · have h93b : ((s[j].toNat : Int) != 93) = true := u8_ne (b := 93) h93
                        have HSB : Hid (stopB s[j] = false) := Lib.hid (by simp [stopB, h32, h93])
                        clear h32 h93
                        go_wp2_with fail
                        go_roundg (s.size - j - 1)
                        case measure => omega
                        case rel => exact ⟨j + 1, by omega, by omega, by go_num, by omega, Lib.hid (word_step hkj hjlt HW.out HDJ.out HSB.out), rfl⟩
                  · have hjb : decide ((j : Int) < (s.size : Int)) = false := by simp; omega
                    have HE : Hid (WordE s (at_) (.int .i64 (j : Nat))) := Lib.hid (WordE.at_ hkj hj HW.out (.inl (drop_end hjge)))
                    go_wp2_with fail
                    go_meet
                    exact ⟨HE.out, rfl⟩
            case rest =>
              as_aux_lemma =>
                obtain ⟨⟨j, rfl, hkj, hj, hT1, hT2⟩, rfl⟩ := hcut
                have HT1 := Lib.hid hT1
                have HT2 := Lib.hid hT2
                clear hT1 hT2
                have htz : (s.extract at_ j).size ≤ 1000000 := by rw [ByteArray.size_extract]; omega
                cases hp : stParse (s.extract at_ j).data.toList with
                | none =>
                  have HP := Lib.hid hp
                  have HR4 : Hid (refL s.data.toList = (4, [])) := Lib.hid (by rw [HR3.out, ← HT1.out, hp])
                  clear hp
                  go_wp2_with fail
                  refine (stParse_no _ _ htz HP.out).mono ?_
                  rintro e w6 ⟨rfl, hb6⟩
                  go_wp2_with fail
                  go_ret2
                  rw [HR4.out]
                  exact ⟨ROut.none_, hbel.trans ((hb6.alloc hb6.size _).mono hbel.size)⟩
                | some x =>
                  have HP := Lib.hid hp
                  have HR4 : Hid (refL s.data.toList = madd (mrun f') L.reverse x (s.data.toList.drop j)) := Lib.hid (by rw [HR3.out, ← HT1.out, hp, HT2.out])
                  have hjgt : at_ < j := by
                    rcases Nat.lt_or_ge at_ j with h | h
                    · exact h
                    · exfalso
                      have : (s.extract at_ j).data.toList = [] := by
                        rw [Lib.extract_data, show j - at_ = 0 by omega]; rfl
                      rw [this] at hp
                      cases hp
                  clear hp HR3
                  go_wp2_with fail
                  refine (stParse_yes _ _ x htz HP.out).mono ?_
                  rintro e w6 ⟨rfl, hb6⟩
                  have hX7 : Blk (w6.alloc (.cells #[.int .u8 x.kind, .int .u8 x.yarn, .int .i64 x.a, .int .i64 x.b, .bool x.front] 29)) w6.heap.size 29 [.int .u8 x.kind, .int .u8 x.yarn, .int .i64 x.a, .int .i64 x.b, .bool x.front] := Blk.new w6 29 [.int .u8 x.kind, .int .u8 x.yarn, .int .i64 x.a, .int .i64 x.b, .bool x.front]
                  have hb7 : Below wr.heap.size wr (w6.alloc (.cells #[.int .u8 x.kind, .int .u8 x.yarn, .int .i64 x.a, .int .i64 x.b, .bool x.front] 29)) := hb6.alloc hb6.size _
                  have hq1 : wr.heap.size ≤ w6.heap.size := hb6.size
                  clear hb6
                  go_upto_region 39 with fail
                  generalize w6.alloc (.cells #[.int .u8 x.kind, .int .u8 x.yarn, .int .i64 x.a, .int .i64 x.b, .bool x.front] 29) = w7 at *
                  generalize w6.heap.size = q at *
                  have hbel7 : Below w.heap.size w w7 := hbel.trans (hb7.mono hbel.size)
                  have hws : w.heap.size ≤ w7.heap.size := hbel7.size
                  have hwr : wr.heap.size ≤ w7.heap.size := hb7.size
                  obtain ⟨k, hk⟩ : ∃ k, n = k + 1 := ⟨n - 1, by omega⟩
                  have HS7 := HS.below hb7
                  have hsub : (n : Int) - 1 = (k : Int) := by omega
                  rw [hk] at HS7
                  obtain ⟨g, B, m, kk, l, hA, hg1, hg2, HL, HV, c0, f0, hown, hne, hl17, hlm⟩ := HS7.top
                  subst hA
                  have HLR : Hid (L.reverse = l :: (L.take k).reverse) := Lib.hid (by
                    have := congrArg List.reverse HL
                    rw [List.reverse_append] at this
                    exact this)
                  have HK := Lib.hid hk
                  have hkn : (k : Int) < (n : Int) := by omega
                  have HLM := Lib.hid hlm
                  have HHV := Lib.hid HV
                  clear HL HV hk hlm
                  rcases Nat.lt_or_ge m 17 with hm17 | hm17
                  · have hmb : decide ((m : Int) < 17) = true := by simp; omega
                    have HR5 : Hid (refL s.data.toList = mrun f' ((l ++ [x]) :: (L.take k).reverse) (s.data.toList.drop j) false) := Lib.hid (by
                      rw [HR4.out, HLR.out]
                      show mrun f' ((if l.length < 17 then l ++ [x] else l) :: _) _ _ = _
                      rw [if_pos (by rw [HLM.out]; exact hm17)])
                    have hgq : g < q := Nat.lt_of_lt_of_le (HS.own.low g rfl).2 hq1
                    have HST := Lib.hid hown.sts
                    go_upto_region 41 with fail
                    refine region41_wp _ w7 g k n c q m kk B l x hX7 hsub (by omega) hkn (by omega) hgq hg2 c0 f0 HST.out hm17 _ _ _ _ _ _ _ _ _ _ _ _ _ _ _ _ _ _ _ _ _ _ _ _ _ _ _ _ _ _ _ _ _ _ _ _ _ _ _ _ _ _ _ _ _ _ _ _ _ _ _ _ _ _ _ _ _ _ _ _ _ _ _ _ _ _ _ _ _ _ _ _ _ _ _ _ _ _ _ _ _ _ _ _ _ _ _ _ _ _ _ _ _ _ _ _ _ _ _ _ _ _ _ _ _ _ _ _ _ _ _ _ _ _ _ _ _ _ _ _ _ _ _ _ _ _ _ _ _ _ _ _ _ _ _ _ _ _ _ _ _ _ _ _ _ _ _ _ _ _ _ _ _ _ _ _ _ _ _ _ _ _ _ _ _ _ _ _ _ _ _ _ _ _ _ _ _ _ _ _ _ _ _ _ _ _ _ _ _ _ _ _ _ _ _ _ ?_
                    intro A4 c4 w4 x177 x178 x179 x180 x181 x182 x183 x184 x185 x186 x187 hown4 hB4
                    have HSN := HS7.item HHV.out hB4 hown4 hws (by rw [HLM.out]; exact hm17)
                    have hbelN : Below w.heap.size w (w4.setCell ⟨g, k, none⟩ (.slice A4 (m + 1) c4)) := (hbel7.trans (hB4.mono hws)).setCell hg1 _
                    have HR6 : Hid (refL s.data.toList = mrun f' (L.take k ++ [l ++ [x]]).reverse (s.data.toList.drop j) false) := Lib.hid (by rw [HR5.out, List.reverse_append]; rfl)
                    clear hX7 c0 f0 hgq hown
                    go_wp2_with fail
                    go_roundg (s.size - j)
                    case measure => omega
                    case rel => exact ⟨f', j, false, _, n, c, _, _, rfl, rfl, rfl, by omega, by omega, by omega, by omega, by omega, by rw [HK.out]; exact HSN, hbelN, HR6⟩
                  · have hmb : decide ((m : Int) < 17) = false := by simp; omega
                    have HR5 : Hid (refL s.data.toList = mrun f' L.reverse (s.data.toList.drop j) false) := Lib.hid (by
                      rw [HR4.out, HLR.out]
                      show mrun f' ((if l.length < 17 then l ++ [x] else l) :: _) _ _ = _
                      rw [if_neg (by rw [HLM.out]; omega)])
                    go_wp2_with fail
                    go_roundg (s.size - j)
                    case measure => omega
                    case rel => exact ⟨f', j, false, _, n, c, _, _, rfl, rfl, rfl, by omega, by omega, by omega, by omega, by omega, by rw [HK.out]; exact HS7, hbel7, HR5⟩
        · have hab : decide ((s.size : Int) ≤ (at_ : Int)) = true := by simp; omega
          have HR3 : Hid (refL s.data.toList = (4, [])) := Lib.hid (by rw [HR2.out, drop_end hge]; rfl)
          clear HR2
          go_wp2_with fail
          go_ret2
          rw [HR3.out]
          exact ⟨ROut.none_, hbel⟩
      | false =>
        have HR2 : Hid (refL s.data.toList = mnext (mrun f') L.reverse (s.data.toList.drop at_)) := Lib.hid (by rw [HR1.out, mrun, if_neg (by simp)])
        clear HR1
        rcases Nat.lt_or_ge at_ s.size with hlt | hge
        · have hab : decide ((at_ : Int) < (s.size : Int)) = true := by simp; omega
          have HD := Lib.hid (drop_at hlt)
          by_cases h32 : s[at_] = 32
          · have h32b : ((s[at_].toNat : Int) == 32) = true := by rw [h32]; rfl
            have HR3 : Hid (refL s.data.toList = mrun f' L.reverse (s.data.toList.drop (at_ + 1)) true) := Lib.hid (by rw [HR2.out, HD.out, mnext, if_pos h32])
            clear h32 HR2
            go_wp2_with fail
            go_roundg (s.size - at_ - 1)
            case measure => omega
            case rel => exact ⟨f', at_ + 1, true, A, n, c, _, _, rfl, by go_num, rfl, by omega, by omega, by omega, by omega, by omega, HS, hbel, HR3⟩
          · have h32b : ((s[at_].toNat : Int) == 32) = false := by
              exact u8_eq (b := 32) h32
            have HR3 : Hid (refL s.data.toList = mclose (mrun f') L.reverse s[at_] (s.data.toList.drop (at_ + 1))) := Lib.hid (by rw [HR2.out, HD.out, mnext, if_neg h32])
            clear h32 HR2
            have hLn : Hid (L.reverse.length = n) := Lib.hid (by rw [List.length_reverse, HS.len])
            by_cases h93 : s[at_] = 93
            · have h93b : ((s[at_].toNat : Int) != 93) = false := by rw [h93]; rfl
              have H93 := Lib.hid h93
              clear h93
              rcases Nat.lt_or_ge n 2 with hn | hn
              · have hnb : decide ((n : Int) < 2) = true := by simp; omega
                have HR4 : Hid (refL s.data.toList = (4, [])) := Lib.hid (by rw [HR3.out, mclose_no (.inr (.inl (by rw [hLn.out]; exact hn)))])
                go_wp2_with fail
                go_ret2
                rw [HR4.out]
                exact ⟨ROut.none_, hbel⟩
              · have hnb : decide ((n : Int) < 2) = false := by simp; omega
                rcases Nat.lt_or_ge (at_ + 1) s.size with hlt1 | hge1
                · have hab1 : decide ((s.size : Int) ≤ (at_ : Int) + 1) = false := by simp; omega
                  have HD1 := Lib.hid (drop_at hlt1)
                  by_cases h120 : s[at_ + 1] = 120
                  · have h120b : ((s[at_ + 1].toNat : Int) != 120) = false := by rw [h120]; rfl
                    have H120 := Lib.hid h120
                    clear h120
                    have hk2 : at_ + 2 ≤ s.size := by omega
                    go_upto_block 2 with fail
                    go_cut [5] from 20 to 187 (fun v wx => WordE s (at_ + 2) v ∧ wr = wx)
                    case first =>
                      as_aux_lemma =>
                        go_wp2_with fail
                        rename World => w5
                        go_loopg [5] (s.size - (at_ + 2)) (fun r5 v5 wr5 => ∃ j : Nat, (at_ + 2) ≤ j ∧ j ≤ s.size ∧ v5 = .int .i64 j ∧ r5 = s.size - j ∧ Hid (wd (s.data.toList.drop (at_ + 2)) = (s.data.toList.drop (at_ + 2)).take (j - (at_ + 2)) ++ wd (s.data.toList.drop j) ∧ wrest (s.data.toList.drop (at_ + 2)) = wrest (s.data.toList.drop j)) ∧ w5 = wr5)
                        case atStart => exact ⟨at_ + 2, Nat.le_refl _, by omega, by go_num, rfl, Lib.hid ⟨by simp, rfl⟩, rfl⟩
                        case round =>
                          obtain ⟨j, hkj, hj, rfl, hr5, HW, rfl⟩ := hrel
                          rcases Nat.lt_or_ge j s.size with hjlt | hjge
                          · have hjb : decide ((j : Int) < (s.size : Int)) = true := by simp; omega
                            have HDJ := Lib.hid (drop_at hjlt)
                            by_cases h32 : s[j] = 32
                            · have h32b : ((s[j].toNat : Int) != 32) = false := by rw [h32]; rfl
                              have HE : Hid (WordE s (at_ + 2) (.int .i64 (j : Nat))) := Lib.hid (WordE.at_ hkj hj HW.out (.inr ⟨_, _, HDJ.out, by rw [h32]; rfl⟩))
                              clear h32
                              go_wp2_with fail
                              go_meet
                              exact ⟨HE.out, rfl⟩
                            · have h32b : ((s[j].toNat : Int) != 32) = true := u8_ne (b := 32) h32
                              by_cases h93 : s[j] = 93
                              · have h93b : ((s[j].toNat : Int) != 93) = false := by rw [h93]; rfl
                                have HE : Hid (WordE s (at_ + 2) (.int .i64 (j : Nat))) := Lib.hid (WordE.at_ hkj hj HW.out (.inr ⟨_, _, HDJ.out, by rw [h93]; rfl⟩))
                                clear h32 h93
                                go_wp2_with fail
                                go_meet
                                exact ⟨HE.out, rfl⟩
                              · have h93b : ((s[j].toNat : Int) != 93) = true := u8_ne (b := 93) h93
                                have HSB : Hid (stopB s[j] = false) := Lib.hid (by simp [stopB, h32, h93])
                                clear h32 h93
                                go_wp2_with fail
                                go_roundg (s.size - j - 1)
                                case measure => omega
                                case rel => exact ⟨j + 1, by omega, by omega, by go_num, by omega, Lib.hid (word_step hkj hjlt HW.out HDJ.out HSB.out), rfl⟩
                          · have hjb : decide ((j : Int) < (s.size : Int)) = false := by simp; omega
                            have HE : Hid (WordE s (at_ + 2) (.int .i64 (j : Nat))) := Lib.hid (WordE.at_ hkj hj HW.out (.inl (drop_end hjge)))
                            go_wp2_with fail
                            go_meet
                            exact ⟨HE.out, rfl⟩
                    case rest =>
                      as_aux_lemma =>
                        obtain ⟨⟨j, rfl, hkj, hj, hT1, hT2⟩, rfl⟩ := hcut
                        have HT1 := Lib.hid hT1
                        have HT2 := Lib.hid hT2
                        clear hT1 hT2
                        have htz : (s.extract (at_ + 2) j).size ≤ 1000000 := by rw [ByteArray.size_extract]; omega
                        have HNL : Hid (numL (s.extract (at_ + 2) j).data.toList 16 = cnt (wd (s.data.toList.drop (at_ + 2))) 16) := Lib.hid (by rw [numL_eq _ (by omega), HT1.out])
                        obtain ⟨N, hN, hN16⟩ := cnt_bound (wd (s.data.toList.drop (at_ + 2)))
                        have HR4 : Hid (refL s.data.toList = mclose (mrun f') L.reverse 93 (120 :: s.data.toList.drop (at_ + 2))) := Lib.hid (by rw [HR3.out, H93.out, HD1.out, H120.out])
                        have HN := Lib.hid hN
                        clear hN HR3
                        have HNC := Lib.hid (number_any (s.extract (at_ + 2) j) 16 wr (by omega) htz)
                        rcases Nat.eq_zero_or_pos N with hN0 | hN0
                        · have HR5 : Hid (refL s.data.toList = (4, [])) := Lib.hid (by
                            rw [HR4.out, mclose_zero]
                            rw [HN.out, hN0]
                            rfl)
                          subst hN0
                          go_wp2_with fail
                          refine HNC.out.mono ?_
                          rintro e w6 ⟨rfl, rfl⟩
                          rw [show ((16 : Nat) : Int) = 16 from rfl, HNL.out, HN.out]
                          go_wp2_with fail
                          go_ret2
                          rw [HR5.out]
                          exact ⟨ROut.none_, hbel⟩
                        · have hNb : ((N : Int) == 0) = false := by rw [beq_eq_false_iff_ne]; omega
                          obtain ⟨k, hk⟩ : ∃ k, n = k + 1 + 1 := ⟨n - 2, by omega⟩
                          have HS8 := HS
                          rw [hk] at HS8
                          have hcap := HS8.own.cap
                          obtain ⟨g, R, rn, rc, row, B, m, kk, up, hA, hg1, hg2, HL, HV, c1, c0, f0, oR, oB, hne, hrl, hul, hr17, hm17, hnBg⟩ := HS8.two
                          subst hA
                          have HP := HS8.pop
                          have HLR : Hid (L.reverse = row :: up :: (L.take k).reverse) := Lib.hid (by
                            have := congrArg List.reverse HL
                            rw [List.reverse_append, List.reverse_append] at this
                            exact this)
                          have HTT : Hid ((L.take (k + 1)).take k = L.take k) := Lib.hid (by rw [List.take_take, Nat.min_eq_left (by omega)])
                          obtain ⟨k1, hk1⟩ : ∃ k1, k1 = k + 1 := ⟨_, rfl⟩
                          rw [← hk1] at c1
                          have hsub1 : (n : Int) - 1 = (k1 : Int) := by omega
                          have hsub2 : (k1 : Int) - 1 = (k : Int) := by omega
                          have hI1 : (k1 : Int) < (n : Int) := by omega
                          have hI2 : (k : Int) < (k1 : Int) := by omega
                          have hI3 : (k1 : Int) ≤ (c : Int) := by omega
                          have hI4 : k1 ≤ c := by omega
                          have hI5 : 1 ≤ k1 := by omega
                          have hI6 : k1 ≤ at_ + 1 := by omega
                          have HR5 : Hid (refL s.data.toList = mrun f' ((fillL N up row).take 17 :: (L.take k).reverse) (s.data.toList.drop j) false) := Lib.hid (by
                            rw [HR4.out, HLR.out, mclose_yes, HN.out, if_neg (by omega), HT2.out]
                            rfl)
                          have HHV := Lib.hid HV
                          have HK := Lib.hid hk
                          have HK1 := Lib.hid hk1
                          have HUL := Lib.hid hul
                          have HRL := Lib.hid hrl
                          have HBR := Lib.hid oB.reads
                          have HOR := Lib.hid oR
                          have HOB := Lib.hid oB
                          clear HL HV hk hk1 hul hrl HR4 HLR
                          go_wp2_with fail
                          refine HNC.out.mono ?_
                          rintro e w6 ⟨rfl, rfl⟩
                          rw [show ((16 : Nat) : Int) = 16 from rfl, HNL.out, HN.out]
                          go_wp2_with fail
                          rename World => w5
                          go_loopg [10, 11] N (fun r v10 v11 wr => ∃ (i : Nat) (B2 : Option Addr) (m2 kk2 : Nat) (ul : List St), i ≤ N ∧ v10 = .slice B2 m2 kk2 ∧ v11 = .int .i64 i ∧ r = N - i ∧ m2 ≤ 34 ∧ Own wr w.heap.size 29 5 B2 m2 kk2 (sc ul) ∧ w5.grownBy wr (ownB B) ∧ (ownB B2 = ownB B ∨ ∃ f, ownB B2 = some f ∧ w5.heap.size ≤ f) ∧ Hid (fillL (N - i) ul row = fillL N up row))
                          case atStart => exact ⟨0, B, m, kk, up, by omega, rfl, rfl, by omega, by omega, oB, World.grownBy.refl _ _, .inl rfl, Lib.hid rfl⟩
                          case round =>
                            obtain ⟨i, B2, m2, kk2, ul, hiN, rfl, rfl, hr10, hm34, hown, hgr, hB2, HFL⟩ := hrel
                            have HML : Hid (ul.length = m2) := Lib.hid (Ent.len hown)
                            have hbelr : Below w.heap.size w wr := hbel.trans ((Below.refl w.heap.size w5).grown hgr hbel.size (fun b hb => (HOB.out.low b hb).1))
                            rcases Nat.lt_or_ge i N with hilt | hige
                            · have hib : decide ((i : Int) < (N : Int)) = true := by simp; omega
                              rcases Nat.lt_or_ge m2 17 with hm2 | hm2
                              · have hmb : decide ((m2 : Int) < 17) = true := by simp; omega
                                have horow : Own wr w.heap.size 29 5 R rn rc (sc row) := HOR.out.kept hgr hne
                                have HROW := Lib.hid horow.reads
                                clear horow
                                go_wp2_with (at_builtin; go_must (refine wpList_app wr rfl (.tmp 113) (.tmp 114) 22 rfl w.heap.size 29 Tryd.underlying22 elemSt B2 m2 kk2 _ rfl hown wr.heap.size R rn rc (sc row) rfl HROW.out (sc_one _) (by omega) hbelr.size ?_); intro A6 c6 w6 hown6 hg6 ha6)
                                have hg56 : w5.grownBy w6 (ownB B) := grownBy_trans hgr hg6 (by
                                  rcases hB2 with e | ⟨fb, e, hfb⟩
                                  · exact .inl e
                                  · exact .inr (.inr ⟨fb, e, hfb⟩))
                                have hA6 : ownB A6 = ownB B ∨ ∃ fb, ownB A6 = some fb ∧ w5.heap.size ≤ fb := by
                                  rcases ha6 with e | e
                                  · rw [e]; exact hB2
                                  · exact .inr ⟨_, e, hgr.size⟩
                                go_wp2_with fail
                                go_roundg (N - i - 1)
                                case measure => omega
                                case rel => exact ⟨i + 1, A6, m2 + rn, c6, ul ++ row, by omega, by go_num, by go_num, by omega, by omega, by rw [sc_append]; exact hown6, hg56, hA6, Lib.hid (by
                                  rw [← HFL.out, show N - i = (N - (i + 1)) + 1 by omega]
                                  conv => rhs; unfold fillL
                                  rw [if_pos (by rw [HML.out]; exact hm2)])⟩
                              · have hmb : decide ((m2 : Int) < 17) = false := by simp; omega
                                have HFE : Hid (fillL N up row = ul) := Lib.hid (by
                                  rw [← HFL.out, show N - i = (N - (i + 1)) + 1 by omega]
                                  unfold fillL
                                  rw [if_neg (by rw [HML.out]; omega)])
                                have hgg := hgr.block g hg2 (fun e => hnBg.elim (fun h => by rw [h] at e; cases e) (fun h => h e.symm))
                                have cR : wr.cell? ⟨g, k, none⟩ = some (.slice B m kk) := (World.cell?_of_block (a := ⟨g, k, none⟩) hgg).trans c0
                                have fR : wr.frozen? ⟨g, k, none⟩ = false := (World.frozen?_of_block (a := ⟨g, k, none⟩) hgg).trans f0
                                have hcap1 := hown.cap.1
                                have hcap2 := hown.cap.2
                                have HSN := HP.closed HHV.out hgr hown hB2 (min (m2 : Int) 17).toNat (by omega)
                                have hbelN : Below w.heap.size w (wr.setCell ⟨g, k, none⟩ (.slice B2 (min (m2 : Int) 17).toNat kk2)) := hbelr.setCell hg1 _
                                have HR6 : Hid (refL s.data.toList = mrun f' ((L.take (k + 1)).take k ++ [ul.take 17]).reverse (s.data.toList.drop j) false) := Lib.hid (by rw [HR5.out, HFE.out, HTT.out, List.reverse_append]; rfl)
                                clear hgg hnBg
                                go_wp2_with fail
                                go_roundg (s.size - j)
                                case measure => omega
                                case rel => exact ⟨f', j, false, _, k1, c, _, _, rfl, rfl, rfl, by omega, by omega, by omega, by omega, by omega, by rw [HK1.out]; exact HSN, hbelN, HR6⟩
                            · have hib : decide ((i : Int) < (N : Int)) = false := by simp; omega
                              have HFE : Hid (fillL N up row = ul) := Lib.hid (by
                                rw [← HFL.out, show N - i = 0 by omega]
                                rfl)
                              have hgg := hgr.block g hg2 (fun e => hnBg.elim (fun h => by rw [h] at e; cases e) (fun h => h e.symm))
                              have cR : wr.cell? ⟨g, k, none⟩ = some (.slice B m kk) := (World.cell?_of_block (a := ⟨g, k, none⟩) hgg).trans c0
                              have fR : wr.frozen? ⟨g, k, none⟩ = false := (World.frozen?_of_block (a := ⟨g, k, none⟩) hgg).trans f0
                              have hcap1 := hown.cap.1
                              have hcap2 := hown.cap.2
                              have HSN := HP.closed HHV.out hgr hown hB2 (min (m2 : Int) 17).toNat (by omega)
                              have hbelN : Below w.heap.size w (wr.setCell ⟨g, k, none⟩ (.slice B2 (min (m2 : Int) 17).toNat kk2)) := hbelr.setCell hg1 _
                              have HR6 : Hid (refL s.data.toList = mrun f' ((L.take (k + 1)).take k ++ [ul.take 17]).reverse (s.data.toList.drop j) false) := Lib.hid (by rw [HR5.out, HFE.out, HTT.out, List.reverse_append]; rfl)
                              clear hgg hnBg
                              go_wp2_with fail
                              go_roundg (s.size - j)
                              case measure => omega
                              case rel => exact ⟨f', j, false, _, k1, c, _, _, rfl, rfl, rfl, by omega, by omega, by omega, by omega, by omega, by rw [HK1.out]; exact HSN, hbelN, HR6⟩
                  · have h120b : ((s[at_ + 1].toNat : Int) != 120) = true := u8_ne (b := 120) h120
                    have HR4 : Hid (refL s.data.toList = (4, [])) := Lib.hid (by rw [HR3.out, mclose_no (.inr (.inr (.inr (by rw [HD1.out]; simpa using h120))))])
                    clear h120
                    go_wp2_with fail
                    go_ret2
                    rw [HR4.out]
                    exact ⟨ROut.none_, hbel⟩
                · have hab1 : decide ((s.size : Int) ≤ (at_ : Int) + 1) = true := by simp; omega
                  have HR4 : Hid (refL s.data.toList = (4, [])) := Lib.hid (by rw [HR3.out, mclose_no (.inr (.inr (.inl (drop_end hge1))))])
                  go_wp2_with fail
                  go_ret2
                  rw [HR4.out]
                  exact ⟨ROut.none_, hbel⟩
            · have h93b : ((s[at_].toNat : Int) != 93) = true := u8_ne (b := 93) h93
              have HR4 : Hid (refL s.data.toList = (4, [])) := Lib.hid (by rw [HR3.out, mclose_no (.inl h93)])
              clear h93
              go_wp2_with fail
              go_ret2
              rw [HR4.out]
              exact ⟨ROut.none_, hbel⟩
        · have hab : decide ((at_ : Int) < (s.size : Int)) = false := by simp; omega
          have HR3 : Hid (refL s.data.toList = mend L.reverse) := Lib.hid (by rw [HR2.out, drop_end hge]; rfl)
          clear HR2
          rcases Nat.lt_or_ge 1 n with hn | hn
          · have hnb : ((n : Int) != 1) = true := by rw [bne_iff_ne]; omega
            have HR4 : Hid (refL s.data.toList = (4, [])) := Lib.hid (by
              rw [HR3.out]
              unfold mend
              split
              · rename_i e
                have := congrArg List.length e
                rw [List.length_reverse, HS.len] at this
                simp at this
                omega
              · rfl)
            go_wp2_with fail
            go_ret2
            rw [HR4.out]
            exact ⟨ROut.none_, hbel⟩
          · have hn0 : n = 0 + 1 := by omega
            subst hn0
            obtain ⟨g, B, m, k, l, rfl, hg1, hg2, HL, HV, c0, f0, hown, hne, hl17, hlm⟩ := HS.top
            have HR4 : Hid (refL s.data.toList = if 16 < m then (3, []) else (0, l)) := Lib.hid (by rw [HR3.out, HL]; show mend [l] = _; rw [← hlm]; rfl)
            clear HL HV hlm
            rcases Nat.lt_or_ge 16 m with h16 | h16
            · have h16b : decide (16 < (m : Int)) = true := by simp; omega
              have HR5 : Hid (refL s.data.toList = (3, [])) := Lib.hid (by rw [HR4.out, if_pos h16])
              go_wp2_with fail
              go_ret2
              rw [HR5.out]
              exact ⟨ROut.none_, hbel⟩
            · have h16b : decide (16 < (m : Int)) = false := by simp; omega
              have HR5 : Hid (refL s.data.toList = (0, l)) := Lib.hid (by rw [HR4.out, if_neg (by omega)])
              go_wp2_with fail
              go_ret2
              rw [HR5.out]
              exact ⟨⟨B, m, k, rfl, hown.sts, hown.fresh, hown.cap.1, hown.cap.2⟩, hbel⟩

end Go.Proofs.YtgpkcooipadnpaaDoor
