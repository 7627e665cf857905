/-
  Contract of the law's own parser: every text of at most 1000 bytes. No conditions.
-/
import Derived.Test.YtkanbechahhmkaaDoorTextB
namespace Go.Proofs.YtkanbechahhmkaaDoor
set_option linter.unusedSimpArgs false
set_option linter.unusedVariables false
open Go.RowKit
set_option maxRecDepth 100000

/-- What the law's parser says. -/
def parsedL (s : List UInt8) : Option (List Int) := if s = [45] then some [] else toks (sp s)
def ParsedOut (s : List UInt8) (w : World) (e : Ending) (w' : World) : Prop :=
  Below w.heap.size w w' ∧ match parsedL s with
  | some l => ∃ A c, e = .returned (.tuple #[.slice A l.length c, .bool (decide (l.length ≤ 64))]) ∧ Own w' w.heap.size 3 1 A l.length c (iv .i64 l)
  | none => e = .returned (.tuple #[.slice none 0 0, .bool false])
theorem ParsedOut.no {s : List UInt8} {w w' : World} (h : parsedL s = none) (hb : Below w.heap.size w w') : ParsedOut s w (.returned (.tuple #[.slice none 0 0, .bool false])) w' := by
  unfold ParsedOut; rw [h]; exact ⟨hb, rfl⟩
theorem ParsedOut.yes {s : List UInt8} {w w' : World} {l : List Int} {A : Option Addr} {n c : Nat} {b : Bool} (h : parsedL s = some l) (hn : l.length = n) (hB : b = decide (n ≤ 64)) (hb : Below w.heap.size w w') (ho : Own w' w.heap.size 3 1 A n c (iv .i64 l)) : ParsedOut s w (.returned (.tuple #[.slice A n c, .bool b])) w' := by
  subst hn
  subst hB
  unfold ParsedOut; rw [h]; exact ⟨hb, A, c, rfl, ho⟩

theorem drop_at {s : ByteArray} {k : Nat} (h : k < s.size) : s.data.toList.drop k = s[k] :: s.data.toList.drop (k + 1) := by
  rw [List.drop_eq_getElem_cons (by simpa using h)]; rfl
theorem drop_end {s : ByteArray} {k : Nat} (h : s.size ≤ k) : s.data.toList.drop k = [] := List.drop_of_length_le (by simpa using h)

/-- The state of the parser: what it has, and what the rest says. -/
def PSt (s : List UInt8) (l : List Int) (rest : List UInt8) : Prop := parsedL s = (toks (sp rest)).map (l ++ ·)
theorem PSt.none_ {s : List UInt8} {l : List Int} {rest : List UInt8} (h : PSt s l rest) (hn : toks (sp rest) = none) : parsedL s = none := by
  unfold PSt at h; rw [h, hn]; rfl
theorem PSt.end_ {s : List UInt8} {l : List Int} {rest : List UInt8} {x : Int} (h : PSt s l rest) (hn : toks (sp rest) = some [x]) : parsedL s = some (l ++ [x]) := by
  unfold PSt at h; rw [h, hn]; rfl
theorem PSt.more {s : List UInt8} {l : List Int} {rest r : List UInt8} {x : Int} (h : PSt s l rest) (hn : toks (sp rest) = (toks (sp r)).map (x :: ·)) : PSt s (l ++ [x]) r := by
  unfold PSt at h ⊢
  rw [h, hn]
  cases toks (sp r) <;> simp

set_option maxHeartbeats 4000000 in
theorem parsed_any (s : ByteArray) (w : World) (hs : s.size ≤ 1000) :
    Calls Tryd.prog 10 #[.string s] w fun e w' => ParsedOut s.data.toList w e w' := by
  by_cases h45 : s = ⟨#[45]⟩
  · subst h45
    go_enter Tryd.func10, Tryd.ntmps10
    go_wp2
    go_ret2
    exact ⟨Below.refl _ _, none, 0, rfl, Own.nil_⟩
  · have hsb : (s.toList == [45]) = false := toList_ne_lit h45
    have H45 : Hid (¬ s.data.toList = [45]) := Lib.hid (fun e => h45 (ba_eq (by simpa using e)))
    clear h45
    go_enter Tryd.func10, Tryd.ntmps10
    go_wp2_with fail
    go_loopw [4, 5] (fun v i wr => ∃ (k : Nat) (l : List Int) (A : Option Addr) (c : Nat), k ≤ s.size ∧ i = .int .i64 k ∧ v = .slice A l.length c ∧ l.length ≤ k ∧ Hid (PSt s.data.toList l (s.data.toList.drop k)) ∧ Own wr w.heap.size 3 1 A l.length c (iv .i64 l) ∧ Below w.heap.size w wr) (fun _ i _ => s.size - (intOf i).toNat)
    case atStart => exact ⟨0, [], none, 0, by omega, rfl, rfl, by simp, Lib.hid (by unfold PSt parsedL; rw [if_neg H45.out]; simp), Own.nil_, Below.refl _ _⟩
    case round =>
      obtain ⟨k, l, A, c, hk, rfl, rfl, hlk, HP, hown, hbel⟩ := hrel
      generalize hn : l.length = n at *
      have HN := Lib.hid hn; clear hn
      rcases Nat.lt_or_ge k s.size with hlt | hge
      · by_cases h0 : s[k] = 45
        · have h0b : ((s[k].toNat : Int) == 45) = true := by rw [h0]; rfl
          have HQ : Hid (s.data.toList.drop k = pre true ++ s.data.toList.drop (k + 1)) := Lib.hid (by rw [drop_at hlt, h0]; rfl)
          clear h0
          rcases Nat.lt_or_ge (k + 1) s.size with hlt1 | hge1
          · have hj0 : decide (s.size ≤ (k + 1)) = false := by simp; omega
            have HD : Hid (s.data.toList.drop k = pre true ++ s[(k + 1)] :: s.data.toList.drop ((k + 1) + 1)) := Lib.hid (by rw [HQ.out, drop_at hlt1])
            have hrange := s[(k + 1)].toNat_lt
            by_cases hd : dig17 s[(k + 1)]
            · have hd1 : decide ((s[(k + 1)].toNat : Int) < 49) = false := by simp; have := hd.1; omega
              have hd2 : decide (55 < (s[(k + 1)].toNat : Int)) = false := by simp; have := hd.2; omega
              have hd3 : 49 ≤ (s[(k + 1)].toNat : Int) := by have := hd.1; omega
              have hd4 : (s[(k + 1)].toNat : Int) ≤ 55 := by have := hd.2; omega
              have HDIG := Lib.hid hd; clear hd
              rcases Nat.lt_or_ge ((k + 1) + 1) s.size with hlt2 | hge2
              · have hj1 : (((k + 1) : Int) + 1 == (s.size : Int)) = false := by simp; omega
                have HD2 := Lib.hid (drop_at hlt2)
                by_cases h32 : s[(k + 1) + 1] = 32
                · have h32b : ((s[(k + 1) + 1].toNat : Int) != 32) = false := by rw [h32]; rfl
                  have HNX : Hid (PSt s.data.toList (l ++ [sgn true * ((s[(k + 1)].toNat : Int) - 48)]) (s.data.toList.drop ((k + 1) + 2))) := Lib.hid (HP.out.more (by
                    rw [HD.out, HD2.out, h32, go_more true HDIG.out]))
                  clear h32
                  go_wp2_with (at_builtin; go_must (refine wpList_app1 wr rfl (.tmp 37) (.tmp 45) 25 rfl w.heap.size 3 Tryd.underlying25 elemInt A n c _ rfl hown _ rfl rfl (by omega) hbel.size ?_); intro A2 c2 w2 hown2 hg2 _)
                  go_roundw
                  case rel =>
                    refine ⟨(k + 1) + 2, l ++ [sgn true * ((s[(k + 1)].toNat : Int) - 48)], A2, c2, by omega, by go_num, by simp [HN.out], by simp [HN.out]; omega, HNX.out, ?_, hbel.trans (hown.belowG hg2 hbel.size)⟩
                    have e : (l ++ [sgn true * ((s[(k + 1)].toNat : Int) - 48)]).length = n + 1 := by simp [HN.out]
                    rw [e, iv_append]
                    exact by simpa [sgn, iv] using hown2
                  case measure => simp [intOf]; omega
                · have h32b : ((s[(k + 1) + 1].toNat : Int) != 32) = true := by
                    simp only [bne_iff_ne, ne_eq]
                    intro e
                    exact h32 (UInt8.toNat_inj.1 (by simpa using Int.ofNat.inj e))
                  have H32 := Lib.hid h32; clear h32
                  go_wp2_with (at_builtin; go_must (refine wpList_app1 wr rfl (.tmp 37) (.tmp 45) 25 rfl w.heap.size 3 Tryd.underlying25 elemInt A n c _ rfl hown _ rfl rfl (by omega) hbel.size ?_); intro A2 c2 w2 hown2 hg2 _)
                  go_ret2
                  exact ParsedOut.no (HP.out.none_ (by rw [HD.out, HD2.out]; exact go_bad true HDIG.out H32.out _)) (hbel.trans (hown.belowG hg2 hbel.size))
              · have hsz : s.size = (k + 1) + 1 := by omega
                have hj1 : (((k + 1) : Int) + 1 == (s.size : Int)) = true := by simp; omega
                have HSZ := Lib.hid hsz; clear hsz
                go_wp2_with (at_builtin; go_must (refine wpList_app1 wr rfl (.tmp 37) (.tmp 45) 25 rfl w.heap.size 3 Tryd.underlying25 elemInt A n c _ rfl hown _ rfl rfl (by omega) hbel.size ?_); intro A2 c2 w2 hown2 hg2 _)
                go_ret2
                refine ParsedOut.yes (l := l ++ [sgn true * ((s[(k + 1)].toNat : Int) - 48)]) (HP.out.end_ (by rw [HD.out, drop_end (by have := HSZ.out; omega)]; exact go_end true HDIG.out)) (by simp [HN.out]) (by simp; omega) (hbel.trans (hown.belowG hg2 hbel.size)) ?_
                rw [iv_append]
                exact by simpa [sgn, iv] using hown2
            · have HDIG := Lib.hid hd
              have hdd : (s[(k + 1)].toNat : Int) < 49 ∨ 49 ≤ (s[(k + 1)].toNat : Int) ∧ 55 < (s[(k + 1)].toNat : Int) := by unfold dig17 at hd; omega
              clear hd
              rcases hdd with hd1 | ⟨hd1, hd2⟩
              · go_wp2_with fail
                go_ret2
                exact ParsedOut.no (HP.out.none_ (by rw [HD.out]; exact go_nodig true (fun h => by cases h) HDIG.out _)) hbel
              · go_wp2_with fail
                go_ret2
                exact ParsedOut.no (HP.out.none_ (by rw [HD.out]; exact go_nodig true (fun h => by cases h) HDIG.out _)) hbel
          · have hj0 : decide (s.size ≤ (k + 1)) = true := by simp; omega
            go_wp2_with fail
            go_ret2
            exact ParsedOut.no (HP.out.none_ (by rw [HQ.out, drop_end (by omega), List.append_nil]; exact go_stop true)) hbel
        · have h0b : ((s[k].toNat : Int) == 45) = false := by
            rw [beq_eq_false_iff_ne]
            intro e
            exact h0 (UInt8.toNat_inj.1 (by simpa using Int.ofNat.inj e))
          have HQ : Hid (s.data.toList.drop k = pre false ++ s.data.toList.drop k) := Lib.hid rfl
          have HB := Lib.hid (fun (_ : false = false) => h0)
          clear h0
          rcases Nat.lt_or_ge k s.size with hlt1 | hge1
          · have hj0 : decide (s.size ≤ k) = false := by simp; omega
            have HD : Hid (s.data.toList.drop k = pre false ++ s[k] :: s.data.toList.drop (k + 1)) := Lib.hid (by rw [HQ.out, drop_at hlt1])
            have hrange := s[k].toNat_lt
            by_cases hd : dig17 s[k]
            · have hd1 : decide ((s[k].toNat : Int) < 49) = false := by simp; have := hd.1; omega
              have hd2 : decide (55 < (s[k].toNat : Int)) = false := by simp; have := hd.2; omega
              have hd3 : 49 ≤ (s[k].toNat : Int) := by have := hd.1; omega
              have hd4 : (s[k].toNat : Int) ≤ 55 := by have := hd.2; omega
              have HDIG := Lib.hid hd; clear hd
              rcases Nat.lt_or_ge (k + 1) s.size with hlt2 | hge2
              · have hj1 : ((k : Int) + 1 == (s.size : Int)) = false := by simp; omega
                have HD2 := Lib.hid (drop_at hlt2)
                by_cases h32 : s[k + 1] = 32
                · have h32b : ((s[k + 1].toNat : Int) != 32) = false := by rw [h32]; rfl
                  have HNX : Hid (PSt s.data.toList (l ++ [sgn false * ((s[k].toNat : Int) - 48)]) (s.data.toList.drop (k + 2))) := Lib.hid (HP.out.more (by
                    rw [HD.out, HD2.out, h32, go_more false HDIG.out]))
                  clear h32
                  go_wp2_with (at_builtin; go_must (refine wpList_app1 wr rfl (.tmp 37) (.tmp 45) 25 rfl w.heap.size 3 Tryd.underlying25 elemInt A n c _ rfl hown _ rfl rfl (by omega) hbel.size ?_); intro A2 c2 w2 hown2 hg2 _)
                  go_roundw
                  case rel =>
                    refine ⟨k + 2, l ++ [sgn false * ((s[k].toNat : Int) - 48)], A2, c2, by omega, by go_num, by simp [HN.out], by simp [HN.out]; omega, HNX.out, ?_, hbel.trans (hown.belowG hg2 hbel.size)⟩
                    have e : (l ++ [sgn false * ((s[k].toNat : Int) - 48)]).length = n + 1 := by simp [HN.out]
                    rw [e, iv_append]
                    exact by simpa [sgn, iv] using hown2
                  case measure => simp [intOf]; omega
                · have h32b : ((s[k + 1].toNat : Int) != 32) = true := by
                    simp only [bne_iff_ne, ne_eq]
                    intro e
                    exact h32 (UInt8.toNat_inj.1 (by simpa using Int.ofNat.inj e))
                  have H32 := Lib.hid h32; clear h32
                  go_wp2_with (at_builtin; go_must (refine wpList_app1 wr rfl (.tmp 37) (.tmp 45) 25 rfl w.heap.size 3 Tryd.underlying25 elemInt A n c _ rfl hown _ rfl rfl (by omega) hbel.size ?_); intro A2 c2 w2 hown2 hg2 _)
                  go_ret2
                  exact ParsedOut.no (HP.out.none_ (by rw [HD.out, HD2.out]; exact go_bad false HDIG.out H32.out _)) (hbel.trans (hown.belowG hg2 hbel.size))
              · have hsz : s.size = k + 1 := by omega
                have hj1 : ((k : Int) + 1 == (s.size : Int)) = true := by simp; omega
                have HSZ := Lib.hid hsz; clear hsz
                go_wp2_with (at_builtin; go_must (refine wpList_app1 wr rfl (.tmp 37) (.tmp 45) 25 rfl w.heap.size 3 Tryd.underlying25 elemInt A n c _ rfl hown _ rfl rfl (by omega) hbel.size ?_); intro A2 c2 w2 hown2 hg2 _)
                go_ret2
                refine ParsedOut.yes (l := l ++ [sgn false * ((s[k].toNat : Int) - 48)]) (HP.out.end_ (by rw [HD.out, drop_end (by have := HSZ.out; omega)]; exact go_end false HDIG.out)) (by simp [HN.out]) (by simp; omega) (hbel.trans (hown.belowG hg2 hbel.size)) ?_
                rw [iv_append]
                exact by simpa [sgn, iv] using hown2
            · have HDIG := Lib.hid hd
              have hdd : (s[k].toNat : Int) < 49 ∨ 49 ≤ (s[k].toNat : Int) ∧ 55 < (s[k].toNat : Int) := by unfold dig17 at hd; omega
              clear hd
              rcases hdd with hd1 | ⟨hd1, hd2⟩
              · go_wp2_with fail
                go_ret2
                exact ParsedOut.no (HP.out.none_ (by rw [HD.out]; exact go_nodig false (fun _ => HB.out trivial) HDIG.out _)) hbel
              · go_wp2_with fail
                go_ret2
                exact ParsedOut.no (HP.out.none_ (by rw [HD.out]; exact go_nodig false (fun _ => HB.out trivial) HDIG.out _)) hbel
          · have hj0 : decide (s.size ≤ k) = true := by simp; omega
            go_wp2_with fail
            go_ret2
            exact ParsedOut.no (HP.out.none_ (by rw [HQ.out, drop_end (by omega), List.append_nil]; exact go_stop false)) hbel
      · obtain rfl : k = s.size := by omega
        go_wp2_with fail
        go_ret2
        exact ParsedOut.no (HP.out.none_ (by rw [drop_end (Nat.le_refl _)]; rfl)) hbel

end Go.Proofs.YtkanbechahhmkaaDoor
