/-
  The contract of words.Act.
-/
import Derived.Test.YtkanbechahhmkaaDoorWordsF
namespace Go.Proofs.YtkanbechahhmkaaDoor
set_option linter.unusedSimpArgs false
set_option linter.unusedVariables false
open Go.RowKit
set_option maxRecDepth 100000

/-- The generators. -/
def gens (k : Nat) : List (List Int) := (List.range k).map fun (i : Nat) => [(i : Int) + 1]
theorem gens_succ (k : Nat) : gens (k + 1) = gens k ++ [[(k : Int) + 1]] := by simp [gens, List.range_succ]
theorem gens_length (k : Nat) : (gens k).length = k := by simp [gens]
/-- What a letter does to the images, as Act does it. -/
def actStep (ls : List (List Int)) (k : Int) : List (List Int) :=
  if 0 < k then
    (ls.set (k.toNat - 1) (joinL (joinL (ls.getD (k.toNat - 1) []) (ls.getD k.toNat [])) (inv (ls.getD (k.toNat - 1) [])))).set k.toNat (ls.getD (k.toNat - 1) [])
  else
    (ls.set ((-k).toNat - 1) (ls.getD (-k).toNat [])).set (-k).toNat (joinL (joinL (inv (ls.getD (-k).toNat [])) (ls.getD ((-k).toNat - 1) [])) (ls.getD (-k).toNat []))
def actL (n : Nat) (l : List Int) : List (List Int) := l.foldl actStep (gens n)
theorem actL_snoc (n : Nat) (l : List Int) (x : Int) : actL n (l ++ [x]) = actStep (actL n l) x := by simp [actL]
theorem actStep_length (ls : List (List Int)) (k : Int) : (actStep ls k).length = ls.length := by unfold actStep; split <;> simp
theorem actL_length (n : Nat) (l : List Int) : (actL n l).length = n := by
  have key : ∀ (l : List Int) (g : List (List Int)), (l.foldl actStep g).length = g.length := by
    intro l
    induction l with
    | nil => intro g; rfl
    | cons x l ih => intro g; simp only [List.foldl_cons]; rw [ih, actStep_length]
  rw [actL, key, gens_length]
theorem Small.inv {l : List Int} (h : Small l) : Small (inv l) := by
  intro z hz
  simp only [Proofs.YtkanbechahhmkaaDoor.inv, List.mem_reverse, List.mem_map] at hz
  obtain ⟨y, hy, rfl⟩ := hz
  have := h y hy
  omega
theorem small_getD {ls : List (List Int)} (h : ∀ l ∈ ls, Small l) (k : Nat) : Small (ls.getD k []) := by
  rw [List.getD_eq_getElem?_getD]
  rcases hk : ls[k]? with _ | l
  · intro x hx; simp at hx
  · exact h l (List.mem_of_getElem? hk)
theorem actStep_small {ls : List (List Int)} (h : ∀ l ∈ ls, Small l) (k : Int) : ∀ l ∈ actStep ls k, Small l := by
  intro l hl
  unfold actStep at hl
  split at hl
  · exact mem_set_of (p := Small) (fun z hz => mem_set_of (p := Small) h (((small_getD h _).join (small_getD h _)).join (small_getD h _).inv) hz) (small_getD h _) hl
  · exact mem_set_of (p := Small) (fun z hz => mem_set_of (p := Small) h (small_getD h _) hz) ((((small_getD h _).inv).join (small_getD h _)).join (small_getD h _)) hl
theorem actL_small (n : Nat) (hn : n ≤ 8) (l : List Int) : ∀ r ∈ actL n l, Small r := by
  have key : ∀ (l : List Int) (g : List (List Int)), (∀ r ∈ g, Small r) → ∀ r ∈ l.foldl actStep g, Small r := by
    intro l
    induction l with
    | nil => intro g hg; exact hg
    | cons x l ih => intro g hg; exact ih _ (actStep_small hg x)
  refine key l _ ?_
  intro r hr
  simp only [gens, List.mem_map, List.mem_range] at hr
  obtain ⟨i, hi, rfl⟩ := hr
  intro x hx
  simp at hx
  omega
/-- No image has more than 262144 letters behind any letter of the word. -/
def ActOk (n : Nat) (l : List Int) : Prop := ∀ k, k ≤ l.length → ∀ r ∈ actL n (l.take k), r.length ≤ 262144

/-- A slice without spare room. -/
def Clipped (v : Value) : Prop := ∃ r m, v = .slice r m m

set_option maxRecDepth 100000 in
set_option maxHeartbeats 1600000 in
theorem act_any (n : Nat) (A : Option Addr) (m c : Nat) (l : List Int) (w : World) (hl : Ints .i64 w A m l) (hmc : m ≤ c) (hc : c ≤ 9223372036854775807) (hn : 1 ≤ n) (hn2 : n ≤ 8) (hw : Wd n l) (hok : ActOk n l) :
    Calls Tryd.prog 17 #[.int .i64 n, .slice A m c] w fun e w' => ∃ A' vs, e = .returned (.tuple #[.slice A' n n, .int .i64 0]) ∧ Reads w' w'.heap.size 1 A' n vs ∧ RowsOf .i64 w' vs (actL n l) ∧ (∀ v ∈ vs, Clipped v) ∧ Below w.heap.size w w' := by
  have hm : m ≤ 64 := by have := hl.len; have := hw.1; omega
  have HC := Lib.hid (hw.check ▸ check_any n A m c l w hl (by omega) (by omega) (by omega))
  have HW := Lib.hid hw
  have HOK := Lib.hid hok
  clear hw hok
  have hlen := Lib.hid hl.len
  go_enter Tryd.func17, Tryd.ntmps17
  go_wp2_with fail
  refine HC.out.mono ?_
  rintro e w1 ⟨rfl, hbel1⟩
  go_wp2_with (at_make; go_must (refine wpList_mk w1 rfl (.tmp 22) (.tmp 22) 42 rfl w1.heap.size 25 Tryd.underlying42 elemSlZ rfl .i64 .i64 n n n rfl rfl rfl rfl (by omega) (Nat.le_refl _) ?_); intro w2 hown2 hg2)
  have hbel2 : Below w.heap.size w w2 := hbel1.trans (below_of_grown_none hg2 hbel1.size)
  generalize hG : w1.heap.size = g at hown2 ⊢
  have hgl : g < w2.heap.size := (hown2.low _ rfl).2
  have hgw : w.heap.size ≤ g := by rw [← hG]; exact hbel1.size
  clear hG hg2
  go_loopw [8, 26] (fun _ i wr => ∃ (k : Nat) (vs : List Value), k ≤ n ∧ i = .int .i64 k ∧ Own wr g 25 1 (some ⟨g, 0, none⟩) n n (vs ++ List.replicate (n - k) (.slice none 0 0)) ∧ RowsOf .i64 wr vs (gens k) ∧ (∀ v ∈ vs, FreshV (g + 1) v) ∧ Below w.heap.size w wr) (fun _ i _ => n - (intOf i).toNat)
  case atStart => exact ⟨0, [], by omega, rfl, by simpa using hown2, by simpa [gens] using RowsOf.nil_, by simp, hbel2⟩
  case round =>
    obtain ⟨k, vs, hk, rfl, hown, hrows, hfresh, hbel⟩ := hrel
    have hgr : g < wr.heap.size := (hown.low _ rfl).2
    have hvl : vs.length = k := by rw [hrows.1, gens_length]
    have HVL := Lib.hid hvl
    clear hvl
    rcases Nat.lt_or_ge k n with hlt | hge
    · have hown1 := hown.alloc (.cells #[.int .i64 ((k : Int) + 1)] 3)
      have hcell : (wr.alloc (.cells #[.int .i64 ((k : Int) + 1)] 3)).cell? ⟨g, k, none⟩ = some (.slice none 0 0) := by
        rw [hown1.cellAt (by omega), List.getElem?_append_right (by have := HVL.out; omega), HVL.out, List.getElem?_replicate]; simp; omega
      have hfr := hown1.frozenAt k
      have hst := hown1.stored k (.slice (some ⟨wr.heap.size, 0, none⟩) 1 1)
      have e1 : (vs ++ List.replicate (n - k) (Value.slice none 0 0)).set k (.slice (some ⟨wr.heap.size, 0, none⟩) 1 1) = (vs ++ [.slice (some ⟨wr.heap.size, 0, none⟩) 1 1]) ++ List.replicate (n - (k + 1)) (Value.slice none 0 0) := by
        rw [List.set_append_right _ _ (by have := HVL.out; omega), HVL.out, show n - k = (n - (k + 1)) + 1 by omega, List.replicate_succ]
        simp
      rw [e1] at hst
      have hri : Ints .i64 (wr.alloc (.cells #[.int .i64 ((k : Int) + 1)] 3)) (some ⟨wr.heap.size, 0, none⟩) 1 [(k : Int) + 1] := by
        have := Reads.box (size := 1) wr 3 #[.int .i64 ((k : Int) + 1)] 1 (by simp)
        exact Reads.more this (by simp)
      have hfnew : FreshV (g + 1) (.slice (some ⟨wr.heap.size, 0, none⟩) 1 1) := FreshV.mk (fun ad e => by injection e with e; subst e; exact hgr)
      have hr2 := (((hrows.below ((Below.refl _ _).alloc (Nat.le_refl _) (.cells #[.int .i64 ((k : Int) + 1)] 3))).far hfresh (p := ⟨g, k, none⟩) (by simp) (.slice (some ⟨wr.heap.size, 0, none⟩) 1 1))).snoc
        (v := .slice (some ⟨wr.heap.size, 0, none⟩) 1 1) (l := [(k : Int) + 1]) ⟨_, 1, 1, rfl, Nat.le_refl _, by omega, hri.far (fun ad e => by injection e with e; subst e; simp; omega) _⟩
      have hbb := hbel.trans (((Below.refl _ wr).alloc hbel.size _).trans ((hown1.stored_below k (.slice (some ⟨wr.heap.size, 0, none⟩) 1 1)).mono hgw))
      rw [World.setCell_alloc_past _ _ _ _ hgr] at hst hr2 hbb
      have HST := Lib.hid hst
      have HR2 := Lib.hid hr2
      have HB := Lib.hid hbb
      have HF := Lib.hid hfresh
      clear hst hr2 hbb e1 hrows hfresh
      go_wp2
      go_roundw
      case rel =>
        refine ⟨k + 1, _, by omega, by go_num, HST.out, by rw [gens_succ]; exact HR2.out, ?_, HB.out⟩
        intro v hv
        rcases List.mem_append.1 hv with h | h
        · exact HF.out v h
        · simp only [List.mem_singleton] at h
          subst h
          exact hfnew
      case measure => simp [intOf]; omega
    · obtain rfl : k = n := by omega
      rw [Nat.sub_self, List.replicate_zero, List.append_nil] at hown
      have e0 : actL k (l.take 0) = gens k := by simp [actL]
      rw [← e0] at hrows
      have HROWS := Lib.hid hrows
      have HFR := Lib.hid hfresh
      clear e0 hrows hfresh
      go_wp2
      go_loopw [38] (fun i wr => ∃ (q : Nat) (vs : List Value), q ≤ m ∧ i = .int .i64 q ∧ Own wr g 25 1 (some ⟨g, 0, none⟩) k k vs ∧ Hid (RowsOf .i64 wr vs (actL k (l.take q))) ∧ Hid (∀ v ∈ vs, FreshV (g + 1) v) ∧ Below w.heap.size w wr) (fun i _ => m - (intOf i).toNat)
      case atStart => exact ⟨0, vs, by omega, rfl, hown, HROWS, HFR, hbel⟩
      case round =>
        clear hown hbel HVL HROWS HFR hgr
        obtain ⟨q, us, hq, rfl, hown, HR, HF, hbel⟩ := hrel
        have hgr : g < wr.heap.size := (hown.low _ rfl).2
        rcases Nat.lt_or_ge q m with hlt | hge2
        · obtain ⟨ad, rfl, hadl, x, hxk, hc0⟩ := hl.at_ hlt
          have hcx := (hbel.cell (p := ad.add q) (by rw [block_of_add]; exact hadl)).trans hc0
          clear hc0
          have hxw := HW.out.2 x (List.mem_of_getElem? hxk)
          have e1 : actL k (l.take (q + 1)) = actStep (actL k (l.take q)) x := by rw [List.take_add_one, hxk]; exact actL_snoc k _ x
          have HE := Lib.hid e1
          have HXK := Lib.hid hxk
          clear e1 hxk
          have hle := HOK.out q (by have := hlen.out; omega)
          have hle2 := HOK.out (q + 1) (by have := hlen.out; omega)
          have hsm := actL_small k hn2 (l.take q)
          have hL := actL_length k (l.take q)
          generalize actL k (l.take q) = ls at *
          have HLE := Lib.hid hle
          have HLE2 := Lib.hid hle2
          have HSM := Lib.hid hsm
          have HL := Lib.hid hL
          clear hle hle2 hsm hL
          rcases (show 0 < x ∨ x < 0 by omega) with hx | hx
          · obtain ⟨j, rfl⟩ : ∃ j : Nat, x = (j : Int) + 1 := ⟨(x - 1).toNat, by omega⟩
            have hj : j + 1 < k := by omega
            have hlsl : ls.length = k := HL.out
            have huj : us[j]? = some (us[j]'(by have := HR.out.1; omega)) := by simp
            have huj1 : us[j + 1]? = some (us[j + 1]'(by have := HR.out.1; omega)) := by simp
            have hlj : ls[j]? = some (ls[j]'(by omega)) := by simp
            have hlj1 : ls[j + 1]? = some (ls[j + 1]'(by omega)) := by simp
            generalize us[j]'(by have := HR.out.1; omega) = u1 at huj
            generalize us[j + 1]'(by have := HR.out.1; omega) = u2 at huj1
            generalize ls[j]'(by omega) = a at hlj
            generalize ls[j + 1]'(by omega) = b at hlj1
            obtain ⟨r1, m1, d1, rfl, hma1, hma2, hia⟩ := HR.out.2 j u1 a huj hlj
            obtain ⟨r2, m2, d2, rfl, hmb1, hmb2, hib⟩ := HR.out.2 (j + 1) u2 b huj1 hlj1
            have hca : wr.cell? ⟨g, j, none⟩ = some (.slice r1 m1 d1) := by rw [hown.cellAt (by omega), huj]
            have hcb : wr.cell? ⟨g, j + 1, none⟩ = some (.slice r2 m2 d2) := by rw [hown.cellAt (by omega), huj1]
            have hma : m1 ≤ 262144 := by have := HLE.out a (List.mem_of_getElem? hlj); have := hia.len; omega
            have hmb : m2 ≤ 262144 := by have := HLE.out b (List.mem_of_getElem? hlj1); have := hib.len; omega
            have hsa := HSM.out a (List.mem_of_getElem? hlj)
            have hsb := HSM.out b (List.mem_of_getElem? hlj1)
            have HSA := Lib.hid hsa
            have HSB := Lib.hid hsb
            have HFA := Lib.hid (HF.out _ (List.mem_of_getElem? huj))
            have es : actStep ls ((j : Int) + 1) = (ls.set j (joinL (joinL a b) (inv a))).set (j + 1) a := by
              unfold actStep
              rw [if_pos (by omega), show ((j : Int) + 1).toNat = j + 1 by omega, Nat.add_sub_cancel, List.getD_eq_getElem?_getD, List.getD_eq_getElem?_getD, hlj, hlj1]
              rfl
            have HES := Lib.hid es
            have HPL := Lib.hid (place_any ((j : Int) + 1) wr (by omega) (by omega))
            clear huj huj1 hlj hlj1 hsa hsb es hlsl
            go_wp2_with fail
            refine HPL.out.mono ?_
            rintro e wz ⟨rfl, rfl⟩
            have hp1 : ¬ ((j : Int) + 1 < 0) := by omega
            go_wp2_with fail
            go_quiet (fail)
            generalize hWW : wr.drewN nq = w3
            have hb3 : Below wr.heap.size wr w3 := by rw [← hWW]; exact below_drewN (Below.refl _ _) _
            clear hWW hca hcb
            have hia3 := hia.below hb3
            have hib3 := hib.below hb3
            have HJ1 := Lib.hid (join_any r1 r2 m1 d1 m2 d2 a b w3 hia3 hib3 hma1 hma2 hmb1 hmb2 HSA.out HSB.out (by omega))
            go_wp2_with fail
            refine HJ1.out.mono ?_
            rintro e w4 ⟨A4, n4, c4, rfl, hown4, hb4⟩
            have hia4 := hia3.below hb4
            have HI4 := Lib.hid (inverse_any r1 m1 d1 a w4 hia4 (by omega) HSA.out)
            go_wp2_with fail
            refine HI4.out.mono ?_
            rintro e w5 ⟨A5, rfl, hown5, hb5⟩
            have hi45 := hown4.ints.below hb5
            have hn4 : n4 ≤ 524288 := by have := hown4.ints.len; have := joinL_length a b; have := hia.len; have := hib.len; omega
            have hcap4 := hown4.cap
            have HJ2 := Lib.hid (join_any A4 A5 n4 c4 m1 m1 (joinL a b) (inv a) w5 hi45 hown5.ints hcap4.1 hcap4.2 (Nat.le_refl _) (by omega) (HSA.out.join HSB.out) HSA.out.inv (by omega))
            go_wp2_with fail
            refine HJ2.out.mono ?_
            rintro e w6 ⟨A6, n6, c6, rfl, hown6, hb6⟩
            have hs3 := hb3.size
            have hs4 := hb4.size
            have hs5 := hb5.size
            have hbw6 : Below wr.heap.size wr w6 := hb3.trans ((hb4.mono hs3).trans ((hb5.mono (by omega)).trans (hb6.mono (by omega))))
            have hownr := hown.below hbw6
            have hl6 := hown6.ints.len
            have hcap6 := hown6.cap
            have hj6 : j < ls.length := by have := HL.out; omega
            have hn6 : n6 ≤ 262144 := by
              have h := HLE2.out
              rw [HE.out, HES.out] at h
              have h2 := h (joinL (joinL a b) (inv a)) (List.mem_of_getElem? (i := j) (by rw [List.getElem?_set_ne (by omega), List.getElem?_set_self hj6]))
              omega
            have hcell1 : ∃ v, w6.cell? ⟨g, j, none⟩ = some v := by
              rw [hownr.cellAt (by omega)]
              exact ⟨_, List.getElem?_eq_getElem (by have := HR.out.1; have := HL.out; omega)⟩
            obtain ⟨v1, hcell1⟩ := hcell1
            have hfr1 := hownr.frozenAt j
            have hown7 := hownr.stored j (.slice A6 n6 c6)
            have hcell2 : ∃ v, (w6.setCell ⟨g, j, none⟩ (.slice A6 n6 c6)).cell? ⟨g, j + 1, none⟩ = some v := by
              rw [hown7.cellAt (by omega)]
              exact ⟨_, List.getElem?_eq_getElem (by have := HR.out.1; have := HL.out; simp; omega)⟩
            obtain ⟨v2, hcell2⟩ := hcell2
            have hfr2 := hown7.frozenAt (j + 1)
            have hown8 := hown7.stored (j + 1) (.slice r1 m1 d1)
            have hcell3 : ((w6.setCell ⟨g, j, none⟩ (.slice A6 n6 c6)).setCell ⟨g, j + 1, none⟩ (.slice r1 m1 d1)).cell? ⟨g, j, none⟩ = some (.slice A6 n6 c6) := by
              rw [hown8.cellAt (by omega), List.getElem?_set_ne (by omega), List.getElem?_set_self (by have := HR.out.1; have := HL.out; omega)]
            have hcell4 : ((w6.setCell ⟨g, j, none⟩ (.slice A6 n6 c6)).setCell ⟨g, j + 1, none⟩ (.slice r1 m1 d1)).cell? ⟨g, j + 1, none⟩ = some (.slice r1 m1 d1) := by
              rw [hown8.cellAt (by omega), List.getElem?_set_self (by have := HR.out.1; have := HL.out; simp; omega)]
            have hb7 := hownr.stored_below j (.slice A6 n6 c6)
            have hb8 := hown7.stored_below (j + 1) (.slice r1 m1 d1)
            have HB8 := Lib.hid (hbel.trans ((hbw6.mono hbel.size).trans ((hb7.trans hb8).mono hgw)))
            have hfr6 : Fresh (g + 1) A6 := hown6.fresh.lower (by omega)
            have hrow6 : RowIs .i64 w6 (.slice A6 n6 c6) (joinL (joinL a b) (inv a)) := ⟨A6, n6, c6, rfl, hcap6.1, hcap6.2, hown6.ints⟩
            have hrowa : RowIs .i64 w6 (.slice r1 m1 d1) a := ⟨r1, m1, d1, rfl, hma1, hma2, hia.below hbw6⟩
            have hf2 : ∀ v ∈ us.set j (.slice A6 n6 c6), FreshV (g + 1) v := fun v hv => mem_set_of (p := FreshV (g + 1)) HF.out (FreshV.mk hfr6) hv
            have hf3 : ∀ v ∈ (us.set j (.slice A6 n6 c6)).set (j + 1) (.slice r1 m1 d1), FreshV (g + 1) v := fun v hv => mem_set_of (p := FreshV (g + 1)) hf2 HFA.out hv
            have hrr := ((((HR.out.below hbw6).set_ j hrow6).set_ (j + 1) hrowa).far hf3 (p := ⟨g, j, none⟩) (by simp) (.slice A6 n6 c6)).far hf3 (p := ⟨g, j + 1, none⟩) (by simp) (.slice r1 m1 d1)
            have HRR := Lib.hid hrr
            have HF3 := Lib.hid hf3
            have HOWN8 := Lib.hid hown8
            clear hrr hf3 hf2 hown8 hown7 hb7 hb8 hrow6 hrowa hl6
            go_wp2_with fail
            go_roundw
            case rel => exact ⟨q + 1, _, by omega, by go_num, HOWN8.out, Lib.hid (by rw [HE.out, HES.out]; exact HRR.out), HF3, HB8.out⟩
            case measure => simp [intOf]; omega
          · obtain ⟨j, rfl⟩ : ∃ j : Nat, x = -((j : Int) + 1) := ⟨(-x - 1).toNat, by omega⟩
            have hj : j + 1 < k := by omega
            have hlsl : ls.length = k := HL.out
            have huj : us[j]? = some (us[j]'(by have := HR.out.1; omega)) := by simp
            have huj1 : us[j + 1]? = some (us[j + 1]'(by have := HR.out.1; omega)) := by simp
            have hlj : ls[j]? = some (ls[j]'(by omega)) := by simp
            have hlj1 : ls[j + 1]? = some (ls[j + 1]'(by omega)) := by simp
            generalize us[j]'(by have := HR.out.1; omega) = u1 at huj
            generalize us[j + 1]'(by have := HR.out.1; omega) = u2 at huj1
            generalize ls[j]'(by omega) = a at hlj
            generalize ls[j + 1]'(by omega) = b at hlj1
            obtain ⟨r1, m1, d1, rfl, hma1, hma2, hia⟩ := HR.out.2 j u1 a huj hlj
            obtain ⟨r2, m2, d2, rfl, hmb1, hmb2, hib⟩ := HR.out.2 (j + 1) u2 b huj1 hlj1
            have hca : wr.cell? ⟨g, j, none⟩ = some (.slice r1 m1 d1) := by rw [hown.cellAt (by omega), huj]
            have hcb : wr.cell? ⟨g, j + 1, none⟩ = some (.slice r2 m2 d2) := by rw [hown.cellAt (by omega), huj1]
            have hma : m1 ≤ 262144 := by have := HLE.out a (List.mem_of_getElem? hlj); have := hia.len; omega
            have hmb : m2 ≤ 262144 := by have := HLE.out b (List.mem_of_getElem? hlj1); have := hib.len; omega
            have hsa := HSM.out a (List.mem_of_getElem? hlj)
            have hsb := HSM.out b (List.mem_of_getElem? hlj1)
            have HSA := Lib.hid hsa
            have HSB := Lib.hid hsb
            have HFA := Lib.hid (HF.out _ (List.mem_of_getElem? huj1))
            have es : actStep ls (-((j : Int) + 1)) = (ls.set j b).set (j + 1) (joinL (joinL (inv b) a) b) := by
              unfold actStep
              rw [if_neg (by omega), show (-(-((j : Int) + 1))).toNat = j + 1 by omega, Nat.add_sub_cancel, List.getD_eq_getElem?_getD, List.getD_eq_getElem?_getD, hlj, hlj1]
              rfl
            have HES := Lib.hid es
            have HPL := Lib.hid (place_any (-((j : Int) + 1)) wr (by omega) (by omega))
            clear huj huj1 hlj hlj1 hsa hsb es hlsl
            go_wp2_with fail
            refine HPL.out.mono ?_
            rintro e wz ⟨rfl, rfl⟩
            have hp1 : -((j : Int) + 1) < 0 := by omega
            have hp2 : - -((j : Int) + 1) - 1 = (j : Int) := by omega
            go_wp2_with fail
            go_quiet (fail)
            generalize hWW : wr.drewN nq = w3
            have hb3 : Below wr.heap.size wr w3 := by rw [← hWW]; exact below_drewN (Below.refl _ _) _
            clear hWW hca hcb
            have hia3 := hia.below hb3
            have hib3 := hib.below hb3
            have HI4 := Lib.hid (inverse_any r2 m2 d2 b w3 hib3 (by omega) HSB.out)
            go_wp2_with fail
            refine HI4.out.mono ?_
            rintro e w4 ⟨A4, rfl, hown4, hb4⟩
            have HJ1 := Lib.hid (join_any A4 r1 m2 m2 m1 d1 (inv b) a w4 hown4.ints (hia3.below hb4) (Nat.le_refl _) (by omega) hma1 hma2 HSB.out.inv HSA.out (by omega))
            go_wp2_with fail
            refine HJ1.out.mono ?_
            rintro e w5 ⟨A5, n5, c5, rfl, hown5, hb5⟩
            have hn5 : n5 ≤ 524288 := by
              have h1 := hown5.ints.len
              have h2 := joinL_length (inv b) a
              have h3 := hia.len
              have h4 := hib.len
              have h5 : (inv b).length = b.length := by simp [inv]
              omega
            have hcap5 := hown5.cap
            have HJ2 := Lib.hid (join_any A5 r2 n5 c5 m2 d2 (joinL (inv b) a) b w5 hown5.ints ((hib3.below hb4).below hb5) hcap5.1 hcap5.2 hmb1 hmb2 (HSB.out.inv.join HSA.out) HSB.out (by omega))
            go_wp2_with fail
            refine HJ2.out.mono ?_
            rintro e w6 ⟨A6, n6, c6, rfl, hown6, hb6⟩
            have hs3 := hb3.size
            have hs4 := hb4.size
            have hs5 := hb5.size
            have hbw6 : Below wr.heap.size wr w6 := hb3.trans ((hb4.mono hs3).trans ((hb5.mono (by omega)).trans (hb6.mono (by omega))))
            have hownr := hown.below hbw6
            have hl6 := hown6.ints.len
            have hcap6 := hown6.cap
            have hj6 : j < ls.length := by have := HL.out; omega
            have hn6 : n6 ≤ 262144 := by
              have h := HLE2.out
              rw [HE.out, HES.out] at h
              have h2 := h (joinL (joinL (inv b) a) b) (List.mem_of_getElem? (i := j + 1) (by rw [List.getElem?_set_self (by simp; have := HL.out; omega)]))
              omega
            have hcell1 : ∃ v, w6.cell? ⟨g, j, none⟩ = some v := by
              rw [hownr.cellAt (by omega)]
              exact ⟨_, List.getElem?_eq_getElem (by have := HR.out.1; have := HL.out; omega)⟩
            obtain ⟨v1, hcell1⟩ := hcell1
            have hfr1 := hownr.frozenAt j
            have hown7 := hownr.stored j (.slice r2 m2 d2)
            have hcell2 : ∃ v, (w6.setCell ⟨g, j, none⟩ (.slice r2 m2 d2)).cell? ⟨g, j + 1, none⟩ = some v := by
              rw [hown7.cellAt (by omega)]
              exact ⟨_, List.getElem?_eq_getElem (by have := HR.out.1; have := HL.out; simp; omega)⟩
            obtain ⟨v2, hcell2⟩ := hcell2
            have hfr2 := hown7.frozenAt (j + 1)
            have hown8 := hown7.stored (j + 1) (.slice A6 n6 c6)
            have hcell3 : ((w6.setCell ⟨g, j, none⟩ (.slice r2 m2 d2)).setCell ⟨g, j + 1, none⟩ (.slice A6 n6 c6)).cell? ⟨g, j, none⟩ = some (.slice r2 m2 d2) := by
              rw [hown8.cellAt (by omega), List.getElem?_set_ne (by omega), List.getElem?_set_self (by have := HR.out.1; have := HL.out; omega)]
            have hcell4 : ((w6.setCell ⟨g, j, none⟩ (.slice r2 m2 d2)).setCell ⟨g, j + 1, none⟩ (.slice A6 n6 c6)).cell? ⟨g, j + 1, none⟩ = some (.slice A6 n6 c6) := by
              rw [hown8.cellAt (by omega), List.getElem?_set_self (by have := HR.out.1; have := HL.out; simp; omega)]
            have hb7 := hownr.stored_below j (.slice r2 m2 d2)
            have hb8 := hown7.stored_below (j + 1) (.slice A6 n6 c6)
            have HB8 := Lib.hid (hbel.trans ((hbw6.mono hbel.size).trans ((hb7.trans hb8).mono hgw)))
            have hfr6 : Fresh (g + 1) A6 := hown6.fresh.lower (by omega)
            have hrow6 : RowIs .i64 w6 (.slice A6 n6 c6) (joinL (joinL (inv b) a) b) := ⟨A6, n6, c6, rfl, hcap6.1, hcap6.2, hown6.ints⟩
            have hrowb : RowIs .i64 w6 (.slice r2 m2 d2) b := ⟨r2, m2, d2, rfl, hmb1, hmb2, hib.below hbw6⟩
            have hf2 : ∀ v ∈ us.set j (.slice r2 m2 d2), FreshV (g + 1) v := fun v hv => mem_set_of (p := FreshV (g + 1)) HF.out HFA.out hv
            have hf3 : ∀ v ∈ (us.set j (.slice r2 m2 d2)).set (j + 1) (.slice A6 n6 c6), FreshV (g + 1) v := fun v hv => mem_set_of (p := FreshV (g + 1)) hf2 (FreshV.mk hfr6) hv
            have hrr := ((((HR.out.below hbw6).set_ j hrowb).set_ (j + 1) hrow6).far hf3 (p := ⟨g, j, none⟩) (by simp) (.slice r2 m2 d2)).far hf3 (p := ⟨g, j + 1, none⟩) (by simp) (.slice A6 n6 c6)
            have HRR := Lib.hid hrr
            have HF3 := Lib.hid hf3
            have HOWN8 := Lib.hid hown8
            clear hrr hf3 hf2 hown8 hown7 hb7 hb8 hrow6 hrowb hl6
            go_wp2_with fail
            go_roundw
            case rel => exact ⟨q + 1, _, by omega, by go_num, HOWN8.out, Lib.hid (by rw [HE.out, HES.out]; exact HRR.out), HF3, HB8.out⟩
            case measure => simp [intOf]; omega
        · have e1 : l.take q = l := List.take_of_length_le (by have := hlen.out; omega)
          rw [e1] at HR
          have hlr := actL_length k l
          have hle := HOK.out m (by have := hlen.out; omega)
          rw [List.take_of_length_le (by have := hlen.out; omega)] at hle
          have HLE := Lib.hid hle
          have HLR := Lib.hid hlr
          clear e1 hle hlr
          generalize hLS : actL k l = ls at *
          have HLS := Lib.hid hLS
          clear hLS
          have hdq : decide (q < m) = false := decide_eq_false (by omega)
          go_wp2
          go_loopw [104] (fun i wr => ∃ (q : Nat) (vs : List Value), q ≤ k ∧ i = .int .i64 q ∧ Own wr g 25 1 (some ⟨g, 0, none⟩) k k vs ∧ Hid (RowsOf .i64 wr vs ls) ∧ Hid (∀ v ∈ vs, FreshV (g + 1) v) ∧ Hid (∀ p v, p < q → vs[p]? = some v → Clipped v) ∧ Below w.heap.size w wr) (fun i _ => k - (intOf i).toNat)
          case atStart => exact ⟨0, us, by omega, rfl, hown, HR, HF, Lib.hid (fun p v hp => by omega), hbel⟩
          case round =>
            clear hown hbel HR HF hgr
            obtain ⟨q, vs, hq2, rfl, hown, HR, HF, HC, hbel⟩ := hrel
            have hgr : g < wr.heap.size := (hown.low _ rfl).2
            rcases Nat.lt_or_ge q k with hlt | hge3
            · have hvq : vs[q]? = some (vs[q]'(by have := HR.out.1; have := HLR.out; omega)) := by simp
              have hlq : ls[q]? = some (ls[q]'(by have := HLR.out; omega)) := by simp
              generalize vs[q]'(by have := HR.out.1; have := HLR.out; omega) = v at hvq
              generalize ls[q]'(by have := HLR.out; omega) = r at hlq
              obtain ⟨r1, m1, d1, rfl, hma1, hma2, hia⟩ := HR.out.2 q v r hvq hlq
              have hm1 : m1 ≤ 262144 := by have := HLE.out r (List.mem_of_getElem? hlq); have := hia.len; omega
              have hcq : wr.cell? ⟨g, q, none⟩ = some (.slice r1 m1 d1) := by rw [hown.cellAt (by omega), hvq]
              have HCL := Lib.hid (clone_any r1 m1 d1 r wr hia (by omega))
              go_wp2_with fail
              refine HCL.out.mono ?_
              rintro e w3 ⟨A3, c3, rfl, hown3, hb3⟩
              have hcap3 := hown3.cap
              go_wp2_with fail
              refine (clip_any A3 m1 c3 _ hcap3.1 hcap3.2).mono ?_
              rintro e wz ⟨rfl, rfl⟩
              have hown4 := hown.below hb3
              have hcell1 : w3.cell? ⟨g, q, none⟩ = some (.slice r1 m1 d1) := by rw [hown4.cellAt (by omega), hvq]
              have hfr1 := hown4.frozenAt q
              have hown5 := hown4.stored q (.slice A3 m1 m1)
              have hb5 := hown4.stored_below q (.slice A3 m1 m1)
              have hf5 : ∀ v ∈ vs.set q (.slice A3 m1 m1), FreshV (g + 1) v := fun v hv => mem_set_of (p := FreshV (g + 1)) HF.out (FreshV.mk (hown3.fresh.lower (by omega))) hv
              have hr5 := (((HR.out.below hb3).set_ q (v := .slice A3 m1 m1) (l := r) ⟨A3, m1, m1, rfl, Nat.le_refl _, by omega, hown3.ints⟩).far hf5 (p := ⟨g, q, none⟩) (by simp) (.slice A3 m1 m1))
              have els : ls.set q r = ls := by
                obtain ⟨h1, h2⟩ := List.getElem?_eq_some_iff.1 hlq
                rw [← h2]; exact List.set_getElem_self h1
              rw [els] at hr5
              have HOWN5 := Lib.hid hown5
              have HF5 := Lib.hid hf5
              have HR5 := Lib.hid hr5
              have HB5 := Lib.hid (hbel.trans ((hb3.mono hbel.size).trans (hb5.mono hgw)))
              have hC5 : ∀ p v, p < q + 1 → (vs.set q (.slice A3 m1 m1))[p]? = some v → Clipped v := by
                intro p v hp hv
                rw [List.getElem?_set] at hv
                by_cases hqp : q = p
                · rw [if_pos hqp] at hv
                  split at hv
                  · cases hv; exact ⟨A3, m1, rfl⟩
                  · cases hv
                · rw [if_neg hqp] at hv
                  exact HC.out p v (by omega) hv
              have HC5 := Lib.hid hC5
              clear hown5 hf5 hr5 hb5 hC5 els hvq hlq hcq
              go_wp2_with fail
              go_roundw
              case rel => exact ⟨q + 1, _, by omega, by go_num, HOWN5.out, HR5, HF5, HC5, HB5.out⟩
              case measure => simp [intOf]; omega
            · go_wp2
              go_ret2
              refine ⟨_, vs, rfl, hown.reads, by rw [HLS.out]; exact HR.out, ?_, hbel⟩
              intro v hv
              obtain ⟨p, hp, rfl⟩ := List.getElem_of_mem hv
              exact HC.out p _ (by have := HR.out.1; have := HLR.out; omega) (by simp)

end Go.Proofs.YtkanbechahhmkaaDoor
