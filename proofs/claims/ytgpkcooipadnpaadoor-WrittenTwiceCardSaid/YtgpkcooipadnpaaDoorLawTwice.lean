/-
  The law WrittenTwice, walked. Condition: strconv's variables hold what their initialisers lay (Vars).
-/
import Derived.Test.YtgpkcooipadnpaaDoorLawShorten
import Derived.Test.YtgpkcooipadnpaaDoorCofE
import Derived.Test.YtgpkcooipadnpaaDoorOpenGrid
namespace Go.Proofs.YtgpkcooipadnpaaDoor
set_option linter.unusedSimpArgs false
set_option linter.unusedVariables false
open Go.RowKit
set_option maxRecDepth 100000

/-- What the chapter says of a row that is written twice. -/
theorem twice_plain {row : List St} (hne : row ≠ []) (hv : ∀ x ∈ row, x.valid = true) (h8 : row.length ≤ 8) :
    expandL (91 :: (shortL row ++ [93, 120, 50])) = (0, row ++ row) ∧ expandL (shortL row ++ 32 :: shortL row) = (0, row ++ row) ∧ (shortL (row ++ row)).length ≤ (shortL row).length + 4 ∧ (shortL (row ++ row)).length ≤ 2 * (shortL row).length + 1 := by
  obtain ⟨⟨T, h1, h2, h3⟩, _⟩ := short_good hne hv (by omega)
  have hl := short_length hne hv (by omega)
  have hne2 : row ++ row ≠ [] := by simp [hne]
  have hv2 : ∀ x ∈ row ++ row, x.valid = true := fun x hx => (List.mem_append.1 hx).elim (hv x) (hv x)
  have hg := (short_good hne2 hv2 (by rw [List.length_append]; omega)).2
  have hi : Lib.itoa ((2 : Nat) : Int) = [50] := by decide +kernel
  have r1 : (Tr.rep T 2).row = row ++ row := by simp [Tr.row, h3, repL]
  have r2 : (Tr.two T T).row = row ++ row := by simp [Tr.row, h3]
  have t1 : (Tr.rep T 2).text = 91 :: (shortL row ++ [93, 120, 50]) := by
    simp only [Tr.text, h2, hi]
  have t2 : (Tr.two T T).text = shortL row ++ 32 :: shortL row := by simp only [Tr.text, h2]
  have o1 : (Tr.rep T 2).ok := ⟨h1, by omega, by omega⟩
  have o2 : (Tr.two T T).ok := ⟨h1, h1⟩
  refine ⟨?_, ?_, ?_, ?_⟩
  · have := expand_tree o1 (by rw [r1, List.length_append]; omega) (by rw [t1]; simp; omega)
    rwa [t1, r1] at this
  · have := expand_tree o2 (by rw [r2, List.length_append]; omega) (by rw [t2]; simp; omega)
    rwa [t2, r2] at this
  · have := (hg _ o1 r1).length
    rw [t1] at this
    simpa using this
  · have := (hg _ o2 r2).length
    rw [t2, List.length_append, List.length_cons] at this
    omega

set_option maxHeartbeats 8000000 in
theorem law_twice (wd : Int) (A : Option Addr) (n c : Nat) (rows : List (List Int)) (w : World) (h0 : 0 ≤ wd) (h255 : wd ≤ 255) (hl : Grid .u8 w A n rows) (hby : ∀ r ∈ rows, ∀ y ∈ r, 0 ≤ y ∧ y ≤ 255) (hnc : n ≤ c) (hcm : c ≤ 9223372036854775807) (hV : Vars w) (hg : 5 ≤ w.heap.size) :
    Calls Tryd.prog 5 #[.agg #[.int .u8 wd, .slice A n c]] w fun e w' => e = .returned (.bool true) ∧ Below w.heap.size w w' := by
  have HV := Lib.hid hV
  have hbel0 : Below w.heap.size w (w.alloc (.cells #[.int .u8 wd, .slice A n c] 42)) := (Below.refl _ _).alloc (Nat.le_refl _) _
  have HCO := Lib.hid (cof_any wd A n c rows (w.alloc (.cells #[.int .u8 wd, .slice A n c] 42)) h0 h255 (hl.alloc _) hby hnc hcm)
  clear hV hl hby
  go_enter Tryd.func5, Tryd.ntmps5
  go_wp2_with fail
  refine HCO.out.mono ?_
  rintro e w1 ⟨⟨G, k, ck, vs, rfl, hoG, hk1, hk9, hRO⟩, hb1⟩
  have hbel1 : Below w.heap.size w w1 := hbel0.trans (hb1.mono hbel0.size)
  have hvl : 0 < vs.length := by have := hoG.1; omega
  obtain ⟨B, m, d, row, hv0, ho, hval, hm1, hm8⟩ := hRO _ (List.getElem_mem hvl)
  obtain ⟨g, rfl, _, hgl⟩ := hoG.shape (by have := hoG.cap; omega)
  have cG0 : w1.cell? ⟨g, 0, none⟩ = some (.slice B m d) := by rw [hoG.cellAt (by omega), List.getElem?_eq_getElem hvl, hv0]
  have cG : (w1.alloc (.cells #[.slice (some ⟨g, 0, none⟩) k ck] 45)).cell? ⟨g, 0, none⟩ = some (.slice B m d) := (World.cell?_alloc_lt w1 _ _ hgl).trans cG0
  have hst : Sts (w1.alloc (.cells #[.slice (some ⟨g, 0, none⟩) k ck] 45)) B m row := ho.sts.alloc _
  have hbel2 : Below w.heap.size w (w1.alloc (.cells #[.slice (some ⟨g, 0, none⟩) k ck] 45)) := hbel1.alloc hbel1.size _
  have hmd := ho.cap.1
  have hdm := ho.cap.2
  have hrl := Ent.len ho
  have hne : row ≠ [] := fun e => by rw [e] at hrl; simp at hrl; omega
  obtain ⟨p1, p2, p3, p4⟩ := twice_plain hne hval (by omega)
  have hsl := short_length hne hval (by omega)
  have HP1 := Lib.hid p1
  have HP2 := Lib.hid p2
  have HP3 := Lib.hid p3
  have HP4 := Lib.hid p4
  have HSL := Lib.hid hsl
  have HNE := Lib.hid hne
  have HVAL := Lib.hid hval
  have HRL := Lib.hid hrl
  have hk0 : (0 : Int) < (k : Int) := by omega
  have h8b : decide (8 < (m : Int)) = false := by simp; omega
  have HSHR := Lib.hid (shorten_any B m d row _ hst (fun x hx => valid_wf (hval x hx)) hmd hdm (by omega))
  have HST := Lib.hid hst
  have HB2 := Lib.hid hbel2
  clear hoG hRO hv0 ho hgl cG0 hb1 hbel1 hbel0 p1 p2 p3 p4 hsl hne hval hrl hst hbel2 hvl
  go_wp2_with fail
  refine HSHR.out.mono ?_
  rintro e w3 ⟨hso, hb3⟩
  have he := hso.ok HNE.out HVAL.out (by have := HRL.out; omega)
  subst he
  obtain ⟨t, ht⟩ := bytes_of (shortL row)
  have HT := Lib.hid ht
  have hte : str (shortL row) = .string t := by rw [← ht, ← st_str]
  have hts : t.size ≤ 100 := by
    have e1 : t.data.toList.length = t.size := by simp
    rw [← e1, ht]
    have := HSL.out
    have := HRL.out
    omega
  rw [hte]
  have hst3 := HST.out.below hb3
  have hbel3 := HB2.out.trans (hb3.mono HB2.out.size)
  clear hso ht hte hb3 cG
  have hst3' := hst3
  go_wp2_with (first
    | (at_builtin; refine wpList_app0 w3 rfl (.tmp 30) (.tmp 31) 22 rfl 29 Tryd.underlying22 elemSt rfl B m d _ rfl hst3 (sc_one _) (by omega) ?_; intro A4 c4 w4 hown4 hq4; have hr4 := hst3'.below hq4)
    | (at_builtin; refine wpList_appB w4 rfl (.tmp 32) (.tmp 33) 22 rfl w3.heap.size 29 Tryd.underlying22 elemSt A4 m c4 _ rfl hown4 B m d _ rfl hr4 (sc_one _) (by omega) hq4.size ?_; intro A5 c5 w5 hown5 hq5))
  have hq35 : Below w3.heap.size w3 w5 := hq4.trans hq5
  have hbel5 := hbel3.trans (hq35.mono hbel3.size)
  have h5 : Sts w5 A5 (m + m) (row ++ row) := by
    have := hown5.reads
    rw [← sc_append] at this
    exact this
  have hcap5 := hown5.cap
  have hne2 : row ++ row ≠ [] := by
    intro e
    exact HNE.out (List.append_eq_nil_iff.1 e).1
  have hv2 : ∀ x ∈ row ++ row, x.valid = true := fun x hx => (List.mem_append.1 hx).elim (HVAL.out x) (HVAL.out x)
  have HNE2 := Lib.hid hne2
  have HV2 := Lib.hid hv2
  have HSH2 := Lib.hid (shorten_any A5 (m + m) c5 (row ++ row) w5 h5 (fun x hx => valid_wf (hv2 x hx)) hcap5.1 hcap5.2 (by omega))
  clear hown4 hown5 hq4 hq5 hr4 hne2 hv2 hst3 hst3'
  refine HSH2.out.mono ?_
  rintro e w6 ⟨hso, hb6⟩
  have he := hso.ok HNE2.out HV2.out (by rw [List.length_append]; have := HRL.out; omega)
  subst he
  obtain ⟨u, hu⟩ := bytes_of (shortL (row ++ row))
  have hue : str (shortL (row ++ row)) = .string u := by rw [← hu, ← st_str]
  have hl4 : u.size ≤ t.size + 4 := by
    have e1 : u.data.toList.length = u.size := by simp
    have e2 : t.data.toList.length = t.size := by simp
    rw [← e1, ← e2, hu, HT.out]
    exact HP3.out
  have hl2 : u.size ≤ 2 * t.size + 1 := by
    have e1 : u.data.toList.length = u.size := by simp
    have e2 : t.data.toList.length = t.size := by simp
    rw [← e1, ← e2, hu, HT.out]
    exact HP4.out
  rw [hue]
  have h56 := h5.below hb6
  have hbel6 := hbel5.trans (hb6.mono hbel5.size)
  clear hso hu hue hb6 h5
  have hg6 : 5 ≤ w6.heap.size := by have := hbel6.size; omega
  have HX1 := Lib.hid (expand_any (⟨#[91]⟩ ++ t ++ ⟨#[93, 120, 50]⟩) w6 (by
    rw [ByteArray.size_append, ByteArray.size_append]
    show 1 + t.size + 3 ≤ 2000
    omega) (HV.out.below hbel6) hg6)
  have HE1 : Hid (expandL (⟨#[91]⟩ ++ t ++ ⟨#[93, 120, 50]⟩ : ByteArray).data.toList = (0, row ++ row)) := Lib.hid (by
    rw [← HP1.out, ← HT.out]
    simp)
  go_wp2_with fail
  refine HX1.out.mono ?_
  rintro e w7 ⟨heo, hb7⟩
  rw [HE1.out] at heo
  obtain ⟨A7, n7, rfl, hst7, _, hn7⟩ := heo
  have h57 := h56.below hb7
  have hbel7 := hbel6.trans (hb7.mono hbel6.size)
  have HX2 := Lib.hid (expand_any (t ++ ⟨#[32]⟩ ++ t) w7 (by
    rw [ByteArray.size_append, ByteArray.size_append]
    show t.size + 1 + t.size ≤ 2000
    omega) (HV.out.below hbel7) (by have := hbel7.size; omega))
  have HE2 : Hid (expandL (t ++ ⟨#[32]⟩ ++ t : ByteArray).data.toList = (0, row ++ row)) := Lib.hid (by
    rw [← HP2.out, ← HT.out]
    simp)
  clear h56 hb7 hbel6
  go_wp2_with fail
  refine HX2.out.mono ?_
  rintro e w8 ⟨heo, hb8⟩
  rw [HE2.out] at heo
  obtain ⟨A8, n8, rfl, hst8, _, hn8⟩ := heo
  have h58 := h57.below hb8
  have h78 := hst7.below hb8
  simp only at hst8 h78
  have hbel8 := hbel7.trans (hb8.mono hbel7.size)
  have HDF1 := Lib.hid (differ_any A7 A5 n7 (m + m) n7 c5 (row ++ row) (row ++ row) w8 h78 h58 (by omega) (by omega))
  have H58 := Lib.hid h58
  have H88 := Lib.hid hst8
  clear h57 hst7 hb8 hbel7 h58 h78 hst8
  go_wp2_with fail
  refine HDF1.out.mono ?_
  rintro e w9 ⟨rfl, hb9⟩
  rw [difI_eq rfl]
  have hbel9 := hbel8.trans (hb9.mono hbel8.size)
  have HDF2 := Lib.hid (differ_any A8 A5 n8 (m + m) n8 c5 (row ++ row) (row ++ row) w9 (H88.out.below hb9) (H58.out.below hb9) (by omega) (by omega))
  clear hb9 hbel8
  go_wp2_with fail
  refine HDF2.out.mono ?_
  rintro e w10 ⟨rfl, hb10⟩
  rw [difI_eq rfl]
  have hbel10 := hbel9.trans (hb10.mono hbel9.size)
  have hlb4 : decide ((u.size : Int) ≤ (t.size : Int) + 4) = true := by simp; omega
  have hlb2 : decide ((u.size : Int) ≤ 2 * (t.size : Int) + 1) = true := by simp; omega
  clear hb10 hbel9
  go_wp2_with fail
  refine (lives_any w10 (HV.out.below hbel10) (by have := hbel10.size; omega)).mono ?_
  rintro e w11 ⟨rfl, hb11⟩
  go_wp2_with fail
  go_ret
  exact ⟨rfl, hbel10.trans (hb11.mono hbel10.size)⟩

end Go.Proofs.YtgpkcooipadnpaaDoor
