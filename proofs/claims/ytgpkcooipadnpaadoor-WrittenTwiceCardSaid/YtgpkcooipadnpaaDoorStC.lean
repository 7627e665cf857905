/-
  Contract of stitches.Text. No conditions.
-/
import Derived.Test.YtgpkcooipadnpaaDoorStB
namespace Go.Proofs.YtgpkcooipadnpaaDoor
set_option linter.unusedSimpArgs false
set_option linter.unusedVariables false
open Go.RowKit
set_option maxRecDepth 100000

def yb (y : Int) : Int := if 1 < y then 48 + y else 0
def stBytes (s : St) : List Int := if s.kind = 8 then [99, 48 + s.a, 48 + s.b, if s.front then 70 else 66, yb s.yarn] else [((symOf s.kind).toNat : Int), yb s.yarn]
theorem stBytes_all : ∀ s ∈ allSt, (nz (stBytes s)).map (fun n => UInt8.ofNat n.toNat) = stText s := by decide +kernel
theorem stBytes_text {s : St} (h : s.valid = true) : Value.string (strOfNums (nz (stBytes s))) = str (stText s) := by
  have := stBytes_all s (mem_allSt h)
  unfold strOfNums
  rw [this]
theorem valid_bounds {s : St} (h : s.valid = true) : 1 ≤ s.kind ∧ s.kind ≤ 8 ∧ 1 ≤ s.yarn ∧ s.yarn ≤ 6 ∧ (s.kind = 8 → 1 ≤ s.a ∧ s.a ≤ 3 ∧ 1 ≤ s.b ∧ s.b ≤ 3) ∧ (s.kind ≠ 8 → s.a = 0 ∧ s.b = 0 ∧ s.front = false) := by
  unfold St.valid at h
  simp only [Bool.and_eq_true, decide_eq_true_eq] at h
  obtain ⟨⟨h1, h2, h3, h4⟩, h5⟩ := h
  refine ⟨h1, h2, h3, h4, fun hk => ?_, fun hk => ?_⟩
  · rw [if_pos hk] at h5; simp only [decide_eq_true_eq] at h5; omega
  · rw [if_neg hk] at h5
    simp only [Bool.and_eq_true, decide_eq_true_eq, Bool.not_eq_true'] at h5
    exact ⟨h5.1.1, h5.1.2, h5.2⟩
theorem valid_wf {s : St} (h : s.valid = true) : s.wf := by
  have := valid_bounds h
  unfold St.wf
  by_cases hk : s.kind = 8
  · have h8 := this.2.2.2.2.1 hk; omega
  · have h8 := this.2.2.2.2.2 hk; omega

theorem sym_index1 (w : World) : (Instr.index 76 symsV (.int .u8 1)).run Tryd.prog w = .ok (.int .u8 107) w := by kernel_rfl
theorem sym_index2 (w : World) : (Instr.index 76 symsV (.int .u8 2)).run Tryd.prog w = .ok (.int .u8 112) w := by kernel_rfl
theorem sym_index3 (w : World) : (Instr.index 76 symsV (.int .u8 3)).run Tryd.prog w = .ok (.int .u8 111) w := by kernel_rfl
theorem sym_index4 (w : World) : (Instr.index 76 symsV (.int .u8 4)).run Tryd.prog w = .ok (.int .u8 47) w := by kernel_rfl
theorem sym_index5 (w : World) : (Instr.index 76 symsV (.int .u8 5)).run Tryd.prog w = .ok (.int .u8 118) w := by kernel_rfl
theorem sym_index6 (w : World) : (Instr.index 76 symsV (.int .u8 6)).run Tryd.prog w = .ok (.int .u8 116) w := by kernel_rfl
theorem sym_index7 (w : World) : (Instr.index 76 symsV (.int .u8 7)).run Tryd.prog w = .ok (.int .u8 115) w := by kernel_rfl
theorem sym_index8 (w : World) : (Instr.index 76 symsV (.int .u8 8)).run Tryd.prog w = .ok (.int .u8 99) w := by kernel_rfl
theorem sym_index (k : Int) (h1 : 1 ≤ k) (h2 : k ≤ 8) (w : World) : (Instr.index 76 symsV (.int .u8 k)).run Tryd.prog w = .ok (.int .u8 ((symOf k).toNat : Int)) w := by
  have hk : k = 1 ∨ k = 2 ∨ k = 3 ∨ k = 4 ∨ k = 5 ∨ k = 6 ∨ k = 7 ∨ k = 8 := by omega
  rcases hk with h | h | h | h | h | h | h | h <;> subst h
  · exact sym_index1 w
  · exact sym_index2 w
  · exact sym_index3 w
  · exact sym_index4 w
  · exact sym_index5 w
  · exact sym_index6 w
  · exact sym_index7 w
  · exact sym_index8 w

set_option maxHeartbeats 4000000 in
theorem stText_any (s : St) (w : World) (hw : s.wf) :
    Calls Tryd.prog 18 #[s.val] w fun e w' => e = .returned (str (stText s)) ∧ Below w.heap.size w w' := by
  obtain ⟨k, y, a, b, f⟩ := s
  have hbel0 : Below w.heap.size w (w.alloc (.cells #[.int .u8 k, .int .u8 y, .int .i64 a, .int .i64 b, .bool f] 29)) := (Below.refl _ _).alloc (Nat.le_refl _) _
  cases hv : (St.mk k y a b f).valid with
  | false =>
    have HV := Lib.hid hv; clear hv
    go_enter Tryd.func18, Tryd.ntmps18
    go_wp2_with fail
    refine (stCheck_bad ⟨k, y, a, b, f⟩ _ hw HV.out).mono ?_
    rintro e w2 ⟨rfl, hb2⟩
    go_wp2_with fail
    go_ret
    exact ⟨congrArg (fun l => Ending.returned (str l)) (stText_nil_of HV.out).symm, hbel0.trans (hb2.mono hbel0.size)⟩
  | true =>
    have HV := Lib.hid hv; clear hv
    have hbd := valid_bounds HV.out
    simp only at hbd
    obtain ⟨k1, k2, y1, y2, hc8, hn8⟩ := hbd
    have HC8 := Lib.hid hc8; clear hc8
    have HN8 := Lib.hid hn8; clear hn8
    go_enter Tryd.func18, Tryd.ntmps18
    go_wp2_with fail
    refine (stCheck_ok ⟨k, y, a, b, f⟩ _ hw HV.out).mono ?_
    rintro e w2 ⟨rfl, hb2⟩
    have hblk : Blk (w.alloc (.cells #[.int .u8 k, .int .u8 y, .int .i64 a, .int .i64 b, .bool f] 29)) w.heap.size 29 [.int .u8 k, .int .u8 y, .int .i64 a, .int .i64 b, .bool f] := Blk.new w _ _
    have hbk2 := hblk.below hb2 hblk.lt
    have hB := hbel0.trans (hb2.mono hbel0.size)
    clear hblk hb2 hbel0
    have c0 := hbk2.cell 0
    have c1 := hbk2.cell 1
    have c2 := hbk2.cell 2
    have c3 := hbk2.cell 3
    have c4 := hbk2.cell 4
    simp only [List.getElem?_cons_zero, List.getElem?_cons_succ] at c0 c1 c2 c3 c4
    have hg := hbk2.lt
    by_cases hk : k = 8
    · subst hk
      have h8 := HC8.out rfl
      cases f with
      | true =>
        by_cases hy : 1 < y
        · have HBY : Hid (stBytes ⟨8, y, a, b, true⟩ = [99, 48 + a, 48 + b, 70, 48 + y]) := Lib.hid (by unfold stBytes yb; rw [if_pos rfl, if_pos hy]; rfl)
          go_wp2_with (go_at_call 36; refine (digit_any y _ (by omega) (by omega)).mono ?_; rintro e w3 ⟨rfl, rfl⟩)
          go_region_held3 (fun w' => w'.cell? ⟨w.heap.size, 2, none⟩ = some (.int .i64 a) ∧ w'.cell? ⟨w.heap.size, 3, none⟩ = some (.int .i64 b)) (first | go_keep | exact ⟨c2, c3⟩ | exact ⟨(hb5.cell (p := ⟨w.heap.size, 2, none⟩) hg).trans c2, (hb5.cell (p := ⟨w.heap.size, 3, none⟩) hg).trans c3⟩) (first
            | (go_at_call 36; refine (digit_any _ _ (by omega) (by omega)).mono ?_; rintro e w3 ⟨rfl, rfl⟩)
            | (go_at_call 37
               first | (refine (build_any _ 5 5 [99, 48 + a, 48 + b, 70, 48 + y] _ (Ints.lit8 _ _ _) (by omega) (by intro x hx; simp at hx; omega)).mono ?_) | (refine (build_any _ 5 5 [99, 48 + a, 48 + b, 70, 48 + y] _ (Ints.lit8 _ _ _).drew (by omega) (by intro x hx; simp at hx; omega)).mono ?_) | (refine (build_any _ 5 5 [99, 48 + a, 48 + b, 70, 48 + y] _ (Ints.lit8 _ _ _).drew.drew (by omega) (by intro x hx; simp at hx; omega)).mono ?_)
               rintro e w4 ⟨rfl, hb4⟩
               have hb5 : Below w2.heap.size w2 w4 := (by first | exact ((Below.refl _ w2).alloc (Nat.le_refl _) _).trans (hb4.mono (by simp)) | exact ((Below.refl _ w2).drew.alloc (Nat.le_refl _) _).trans (hb4.mono (by simp)) | exact ((Below.refl _ w2).alloc (Nat.le_refl _) _).drew.trans (hb4.mono (by simp)))))
          go_wp2_with fail
          go_ret
          exact ⟨congrArg Ending.returned (by rw [← stBytes_text HV.out, HBY.out]; rfl), hB.trans (hb5.mono hB.size)⟩
        · have HBY : Hid (stBytes ⟨8, y, a, b, true⟩ = [99, 48 + a, 48 + b, 70, 0]) := Lib.hid (by unfold stBytes yb; rw [if_pos rfl, if_neg hy]; rfl)
          go_wp2_with fail
          go_region_held3 (fun w' => w'.cell? ⟨w.heap.size, 2, none⟩ = some (.int .i64 a) ∧ w'.cell? ⟨w.heap.size, 3, none⟩ = some (.int .i64 b)) (first | go_keep | exact ⟨c2, c3⟩ | exact ⟨(hb5.cell (p := ⟨w.heap.size, 2, none⟩) hg).trans c2, (hb5.cell (p := ⟨w.heap.size, 3, none⟩) hg).trans c3⟩) (first
            | (go_at_call 36; refine (digit_any _ _ (by omega) (by omega)).mono ?_; rintro e w3 ⟨rfl, rfl⟩)
            | (go_at_call 37
               first | (refine (build_any _ 5 5 [99, 48 + a, 48 + b, 70, 0] _ (Ints.lit8 _ _ _) (by omega) (by intro x hx; simp at hx; omega)).mono ?_) | (refine (build_any _ 5 5 [99, 48 + a, 48 + b, 70, 0] _ (Ints.lit8 _ _ _).drew (by omega) (by intro x hx; simp at hx; omega)).mono ?_) | (refine (build_any _ 5 5 [99, 48 + a, 48 + b, 70, 0] _ (Ints.lit8 _ _ _).drew.drew (by omega) (by intro x hx; simp at hx; omega)).mono ?_)
               rintro e w4 ⟨rfl, hb4⟩
               have hb5 : Below w2.heap.size w2 w4 := (by first | exact ((Below.refl _ w2).alloc (Nat.le_refl _) _).trans (hb4.mono (by simp)) | exact ((Below.refl _ w2).drew.alloc (Nat.le_refl _) _).trans (hb4.mono (by simp)) | exact ((Below.refl _ w2).alloc (Nat.le_refl _) _).drew.trans (hb4.mono (by simp)))))
          go_wp2_with fail
          go_ret
          exact ⟨congrArg Ending.returned (by rw [← stBytes_text HV.out, HBY.out]; rfl), hB.trans (hb5.mono hB.size)⟩
      | false =>
        by_cases hy : 1 < y
        · have HBY : Hid (stBytes ⟨8, y, a, b, false⟩ = [99, 48 + a, 48 + b, 66, 48 + y]) := Lib.hid (by unfold stBytes yb; rw [if_pos rfl, if_pos hy]; rfl)
          go_wp2_with (go_at_call 36; refine (digit_any y _ (by omega) (by omega)).mono ?_; rintro e w3 ⟨rfl, rfl⟩)
          go_region_held3 (fun w' => w'.cell? ⟨w.heap.size, 2, none⟩ = some (.int .i64 a) ∧ w'.cell? ⟨w.heap.size, 3, none⟩ = some (.int .i64 b)) (first | go_keep | exact ⟨c2, c3⟩ | exact ⟨(hb5.cell (p := ⟨w.heap.size, 2, none⟩) hg).trans c2, (hb5.cell (p := ⟨w.heap.size, 3, none⟩) hg).trans c3⟩) (first
            | (go_at_call 36; refine (digit_any _ _ (by omega) (by omega)).mono ?_; rintro e w3 ⟨rfl, rfl⟩)
            | (go_at_call 37
               first | (refine (build_any _ 5 5 [99, 48 + a, 48 + b, 66, 48 + y] _ (Ints.lit8 _ _ _) (by omega) (by intro x hx; simp at hx; omega)).mono ?_) | (refine (build_any _ 5 5 [99, 48 + a, 48 + b, 66, 48 + y] _ (Ints.lit8 _ _ _).drew (by omega) (by intro x hx; simp at hx; omega)).mono ?_) | (refine (build_any _ 5 5 [99, 48 + a, 48 + b, 66, 48 + y] _ (Ints.lit8 _ _ _).drew.drew (by omega) (by intro x hx; simp at hx; omega)).mono ?_)
               rintro e w4 ⟨rfl, hb4⟩
               have hb5 : Below w2.heap.size w2 w4 := (by first | exact ((Below.refl _ w2).alloc (Nat.le_refl _) _).trans (hb4.mono (by simp)) | exact ((Below.refl _ w2).drew.alloc (Nat.le_refl _) _).trans (hb4.mono (by simp)) | exact ((Below.refl _ w2).alloc (Nat.le_refl _) _).drew.trans (hb4.mono (by simp)))))
          go_wp2_with fail
          go_ret
          exact ⟨congrArg Ending.returned (by rw [← stBytes_text HV.out, HBY.out]; rfl), hB.trans (hb5.mono hB.size)⟩
        · have HBY : Hid (stBytes ⟨8, y, a, b, false⟩ = [99, 48 + a, 48 + b, 66, 0]) := Lib.hid (by unfold stBytes yb; rw [if_pos rfl, if_neg hy]; rfl)
          go_wp2_with fail
          go_region_held3 (fun w' => w'.cell? ⟨w.heap.size, 2, none⟩ = some (.int .i64 a) ∧ w'.cell? ⟨w.heap.size, 3, none⟩ = some (.int .i64 b)) (first | go_keep | exact ⟨c2, c3⟩ | exact ⟨(hb5.cell (p := ⟨w.heap.size, 2, none⟩) hg).trans c2, (hb5.cell (p := ⟨w.heap.size, 3, none⟩) hg).trans c3⟩) (first
            | (go_at_call 36; refine (digit_any _ _ (by omega) (by omega)).mono ?_; rintro e w3 ⟨rfl, rfl⟩)
            | (go_at_call 37
               first | (refine (build_any _ 5 5 [99, 48 + a, 48 + b, 66, 0] _ (Ints.lit8 _ _ _) (by omega) (by intro x hx; simp at hx; omega)).mono ?_) | (refine (build_any _ 5 5 [99, 48 + a, 48 + b, 66, 0] _ (Ints.lit8 _ _ _).drew (by omega) (by intro x hx; simp at hx; omega)).mono ?_) | (refine (build_any _ 5 5 [99, 48 + a, 48 + b, 66, 0] _ (Ints.lit8 _ _ _).drew.drew (by omega) (by intro x hx; simp at hx; omega)).mono ?_)
               rintro e w4 ⟨rfl, hb4⟩
               have hb5 : Below w2.heap.size w2 w4 := (by first | exact ((Below.refl _ w2).alloc (Nat.le_refl _) _).trans (hb4.mono (by simp)) | exact ((Below.refl _ w2).drew.alloc (Nat.le_refl _) _).trans (hb4.mono (by simp)) | exact ((Below.refl _ w2).alloc (Nat.le_refl _) _).drew.trans (hb4.mono (by simp)))))
          go_wp2_with fail
          go_ret
          exact ⟨congrArg Ending.returned (by rw [← stBytes_text HV.out, HBY.out]; rfl), hB.trans (hb5.mono hB.size)⟩
    · have hkb : (k != 8) = true := by simp [hk]
      have HK := Lib.hid hk; clear hk
      have hix := fun W => sym_index k k1 k2 W
      by_cases hy : 1 < y
      · have HBY : Hid (stBytes ⟨k, y, a, b, f⟩ = [((symOf k).toNat : Int), 48 + y]) := Lib.hid (by unfold stBytes yb; rw [if_neg HK.out, if_pos hy])
        go_wp2_with (go_at_call 36; refine (digit_any y _ (by omega) (by omega)).mono ?_; rintro e w3 ⟨rfl, rfl⟩)
        have hsy := (symOf k).toNat_lt
        go_region_held3 (fun w' => w'.cell? ⟨w.heap.size, 0, none⟩ = some (.int .u8 k)) (first | go_keep | exact c0 | exact (hb5.cell (p := ⟨w.heap.size, 0, none⟩) hg).trans c0 | exact (hb3.cell (p := ⟨w.heap.size, 0, none⟩) hg).trans c0) (first
          | (go_at_call 38
             refine (symbols_any _).mono ?_
             rintro e w3 ⟨rfl, hb3⟩
             replace hb3 : Below w2.heap.size w2 w3 := (by first | exact hb3 | exact (Below.refl _ w2).drew.trans hb3))
          | (go_at_call 37
             refine (build_any _ 2 2 [((symOf k).toNat : Int), 48 + y] _ (Ints.lit8 _ _ _) (by omega) (by intro x hx; simp at hx; omega)).mono ?_
             rintro e w4 ⟨rfl, hb4⟩
             have hz3 := hb3.size
             have hb5 : Below w2.heap.size w2 w4 := (by first | exact (hb3.alloc hz3 _).trans (hb4.mono (by simp; omega)) | exact (hb3.drew.alloc hz3 _).trans (hb4.mono (by simp; omega)) | exact (hb3.alloc hz3 _).drew.trans (hb4.mono (by simp; omega)))))
        go_wp2_with fail
        go_ret
        exact ⟨congrArg Ending.returned (by rw [← stBytes_text HV.out, HBY.out]; rfl), hB.trans (hb5.mono hB.size)⟩
      · have HBY : Hid (stBytes ⟨k, y, a, b, f⟩ = [((symOf k).toNat : Int), 0]) := Lib.hid (by unfold stBytes yb; rw [if_neg HK.out, if_neg hy])
        go_wp2_with fail
        have hsy := (symOf k).toNat_lt
        go_region_held3 (fun w' => w'.cell? ⟨w.heap.size, 0, none⟩ = some (.int .u8 k)) (first | go_keep | exact c0 | exact (hb5.cell (p := ⟨w.heap.size, 0, none⟩) hg).trans c0 | exact (hb3.cell (p := ⟨w.heap.size, 0, none⟩) hg).trans c0) (first
          | (go_at_call 38
             refine (symbols_any _).mono ?_
             rintro e w3 ⟨rfl, hb3⟩
             replace hb3 : Below w2.heap.size w2 w3 := (by first | exact hb3 | exact (Below.refl _ w2).drew.trans hb3))
          | (go_at_call 37
             refine (build_any _ 2 2 [((symOf k).toNat : Int), 0] _ (Ints.lit8 _ _ _) (by omega) (by intro x hx; simp at hx; omega)).mono ?_
             rintro e w4 ⟨rfl, hb4⟩
             have hz3 := hb3.size
             have hb5 : Below w2.heap.size w2 w4 := (by first | exact (hb3.alloc hz3 _).trans (hb4.mono (by simp; omega)) | exact (hb3.drew.alloc hz3 _).trans (hb4.mono (by simp; omega)) | exact (hb3.alloc hz3 _).drew.trans (hb4.mono (by simp; omega)))))
        go_wp2_with fail
        go_ret
        exact ⟨congrArg Ending.returned (by rw [← stBytes_text HV.out, HBY.out]; rfl), hB.trans (hb5.mono hB.size)⟩

end Go.Proofs.YtgpkcooipadnpaaDoor
