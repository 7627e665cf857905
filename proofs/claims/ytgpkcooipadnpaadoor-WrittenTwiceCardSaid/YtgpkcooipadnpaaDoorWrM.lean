/-
  The reference's number. No conditions.
-/
import Derived.Test.YtgpkcooipadnpaaDoorWrL
namespace Go.Proofs.YtgpkcooipadnpaaDoor
set_option linter.unusedSimpArgs false
set_option linter.unusedVariables false
open Go.RowKit
set_option maxRecDepth 100000

theorem numL_long {s : List UInt8} {most : Int} (h : s.length = 0 ∨ 2 < s.length) : numL s most = 0 := by
  unfold numL
  match s, h with
  | [], _ => rfl
  | [a], h => simp at h
  | [a, b], h => simp at h
  | a :: b :: c :: r, _ => rfl
theorem numL_zero {s : List UInt8} {most : Int} (h : s.head? = some 48) : numL s most = 0 := by
  unfold numL
  match s, h with
  | [a], h => simp at h; subst h; simp
  | [a, b], h => simp at h; subst h; simp
  | a :: b :: c :: r, _ => rfl

def valU (l : List UInt8) : Int := l.foldl (fun n c => 10 * n + ((c.toNat : Int) - 48)) 0
theorem numL_bad {s : List UInt8} {most : Int} (h : ¬ ∀ c ∈ s, isDig c) : numL s most = 0 := by
  unfold numL
  match s, h with
  | [], h => simp at h
  | [a], h => exact if_neg (fun k => h (by simpa using k.1))
  | [a, b], h => exact if_neg (fun k => h (by simpa using ⟨k.1, k.2.1⟩))
  | a :: b :: c :: r, _ => rfl
theorem numL_val {s : List UInt8} {most : Int} (h : ∀ c ∈ s, isDig c) (h1 : s.length = 1 ∨ s.length = 2) (h48 : s.head? ≠ some 48) : numL s most = if valU s < 2 ∨ most < valU s then 0 else valU s := by
  unfold numL
  match s, h, h1, h48 with
  | [a], h, _, h48 =>
    have ha : a ≠ 48 := fun e => h48 (by rw [e]; rfl)
    have hd : isDig a := h a (by simp)
    have hv : valU [a] = (a.toNat : Int) - 48 := by simp [valU]
    rw [hv]
    simp only []
    by_cases hc : (a.toNat : Int) - 48 < 2 ∨ most < (a.toNat : Int) - 48
    · rw [if_pos hc, if_neg (fun k => by omega)]
    · rw [if_neg hc, if_pos ⟨hd, ha, by omega, by omega⟩]
  | [a, b], h, _, h48 =>
    have ha : a ≠ 48 := fun e => h48 (by rw [e]; rfl)
    have hd : isDig a := h a (by simp)
    have hd2 : isDig b := h b (by simp)
    have hv : valU [a, b] = 10 * ((a.toNat : Int) - 48) + ((b.toNat : Int) - 48) := by simp [valU]
    have h49 : a.toNat ≠ 48 := fun e => ha (u8_48 e)
    have h1 := hd.1
    have h2 := hd2.1
    rw [hv]
    simp only []
    by_cases hc : 10 * ((a.toNat : Int) - 48) + ((b.toNat : Int) - 48) < 2 ∨ most < 10 * ((a.toNat : Int) - 48) + ((b.toNat : Int) - 48)
    · rw [if_pos hc, if_neg (fun k => by omega)]
    · rw [if_neg hc, if_pos ⟨hd, hd2, ha, by omega⟩]

theorem number_any (s : ByteArray) (most : Nat) (w : World) (hm : most ≤ 99) (hz : s.size ≤ 1000000) :
    Calls Tryd.prog 33 #[.string s, .int .i64 most] w fun e w' => e = .returned (.int .i64 (numL s.data.toList most)) ∧ w' = w := by
  have hsl : s.data.toList.length = s.size := by simp
  by_cases h0 : s.size = 0
  · have hb : ((s.size : Int) == 0) = true := by rw [beq_iff_eq]; omega
    have HX := Lib.hid (numL_long (s := s.data.toList) (most := most) (.inl (by rw [hsl]; exact h0)))
    clear h0 hsl
    go_enter Tryd.func33, Tryd.ntmps33
    go_wp2_with fail
    go_ret
    rw [HX.out]
    exact ⟨rfl, rfl⟩
  have hb0 : ((s.size : Int) == 0) = false := by rw [beq_eq_false_iff_ne]; omega
  by_cases h2 : 2 < s.size
  · have hb : decide (2 < (s.size : Int)) = true := by simp; omega
    have HX := Lib.hid (numL_long (s := s.data.toList) (most := most) (.inr (by rw [hsl]; exact h2)))
    clear h0 hsl
    go_enter Tryd.func33, Tryd.ntmps33
    go_wp2_with fail
    go_ret
    rw [HX.out]
    exact ⟨rfl, rfl⟩
  have hb2 : decide (2 < (s.size : Int)) = false := by simp; omega
  have hpos : 0 < s.size := by omega
  have hd0 := drop_at (s := s) (k := 0) hpos
  rw [List.drop_zero] at hd0
  by_cases h48 : s[0] = 48
  · have hb : ((s[0].toNat : Int) == 48) = true := by rw [h48]; rfl
    have HX := Lib.hid (numL_zero (s := s.data.toList) (most := most) (by rw [hd0, h48]; rfl))
    clear h0 hsl h48 hd0
    go_enter Tryd.func33, Tryd.ntmps33
    go_wp2_with fail
    go_ret
    rw [HX.out]
    exact ⟨rfl, rfl⟩
  have hb48 : ((s[0].toNat : Int) == 48) = false := by
    rw [beq_eq_false_iff_ne]
    intro e
    exact h48 (u8_48 (by omega))
  have hsz : s.size = 1 ∨ s.size = 2 := by omega
  have h48h : s.data.toList.head? ≠ some 48 := by rw [hd0]; simpa using h48
  have H48 := Lib.hid h48h
  clear h48h h48 hd0 hsl h0 h2
  go_enter Tryd.func33, Tryd.ntmps33
  go_wp2_with fail
  go_loopg [5, 6] s.size (fun r t v wr => ∃ (k : Nat) (u : Int), k ≤ s.size ∧ v = .int .i64 k ∧ t = .int .i64 u ∧ r = s.size - k ∧ 0 ≤ u ∧ u ≤ 10 ^ k - 1 ∧ Hid (u = valU (s.data.toList.take k) ∧ ∀ c ∈ s.data.toList.take k, isDig c) ∧ wr = w)
  case atStart => exact ⟨0, 0, by omega, rfl, rfl, by omega, by omega, by omega, Lib.hid ⟨rfl, by simp⟩, rfl⟩
  case round =>
    obtain ⟨k, u, hk, rfl, rfl, hr, hu0, hu1, HU, rfl⟩ := hrel
    rcases Nat.lt_or_ge k s.size with hlt | hge
    · have hkb : decide ((k : Int) < (s.size : Int)) = true := by simp; omega
      have hd := drop_at (s := s) (k := k) hlt
      have hmem : s[k] ∈ s.data.toList := List.mem_of_mem_drop (i := k) (by rw [hd]; exact List.mem_cons_self)
      have htk : s.data.toList.take (k + 1) = s.data.toList.take k ++ [s[k]] := by
        rw [List.take_add_one, ← List.head?_drop, hd]
        rfl
      have hu9 : u ≤ 9 := by
        have : k = 0 ∨ k = 1 := by omega
        rcases this with rfl | rfl
        · have : (10 : Int) ^ 0 = 1 := rfl
          omega
        · have : (10 : Int) ^ 1 = 10 := rfl
          omega
      rcases Nat.lt_or_ge s[k].toNat 48 with hlo | hlo
      · have hb : decide ((s[k].toNat : Int) < 48) = true := by simp; omega
        have HX : Hid (numL s.data.toList most = 0) := Lib.hid (numL_bad (fun h => by have := (h _ hmem).1; omega))
        clear hd hmem htk hlo
        go_wp2_with fail
        go_ret
        rw [HX.out]
        exact ⟨rfl, rfl⟩
      · have hb : decide ((s[k].toNat : Int) < 48) = false := by simp; omega
        rcases Nat.lt_or_ge 57 s[k].toNat with hhi | hhi
        · have hb' : decide (57 < (s[k].toNat : Int)) = true := by simp; omega
          have HX : Hid (numL s.data.toList most = 0) := Lib.hid (numL_bad (fun h => by have := (h _ hmem).2; omega))
          clear hd hmem htk hlo hhi
          go_wp2_with fail
          go_ret
          rw [HX.out]
          exact ⟨rfl, rfl⟩
        · have hb' : decide (57 < (s[k].toNat : Int)) = false := by simp; omega
          have HTK := Lib.hid htk
          clear hd hmem htk
          go_wp2_with fail
          go_roundg (s.size - k - 1)
          case measure => omega
          case rel =>
            refine ⟨k + 1, 10 * u + ((s[k].toNat : Int) - 48), by omega, by go_num, by go_num, by omega, by omega, ?_, Lib.hid ⟨?_, ?_⟩, rfl⟩
            · have : (10 : Int) ^ (k + 1) = 10 * 10 ^ k := by rw [Int.pow_succ, Int.mul_comm]
              omega
            · rw [HTK.out, HU.out.1]
              simp [valU]
            · rw [HTK.out]
              intro c hc
              rcases List.mem_append.1 hc with hc | hc
              · exact HU.out.2 c hc
              · rw [List.mem_singleton.1 hc]
                exact ⟨hlo, hhi⟩
    · have hkb : decide ((k : Int) < (s.size : Int)) = false := by simp; omega
      have hks : k = s.size := by omega
      have HA : Hid (u = valU s.data.toList ∧ ∀ c ∈ s.data.toList, isDig c) := Lib.hid (by
        have h := HU.out
        rwa [List.take_of_length_le (by simp; omega)] at h)
      have HN := Lib.hid (numL_val (most := most) HA.out.2 (by simpa using hsz) H48.out)
      by_cases h2 : u < 2
      · have hb : decide (u < 2) = true := decide_eq_true h2
        have HX : Hid (numL s.data.toList most = 0) := Lib.hid (by rw [HN.out, ← HA.out.1, if_pos (.inl h2)])
        go_wp2_with fail
        go_ret
        rw [HX.out]
        exact ⟨rfl, rfl⟩
      · have hb : decide (u < 2) = false := decide_eq_false h2
        by_cases hmo : (most : Int) < u
        · have hb' : decide ((most : Int) < u) = true := decide_eq_true hmo
          have HX : Hid (numL s.data.toList most = 0) := Lib.hid (by rw [HN.out, ← HA.out.1, if_pos (.inr hmo)])
          go_wp2_with fail
          go_ret
          rw [HX.out]
          exact ⟨rfl, rfl⟩
        · have hb' : decide ((most : Int) < u) = false := decide_eq_false hmo
          have HX : Hid (numL s.data.toList most = u) := Lib.hid (by rw [HN.out, ← HA.out.1, if_neg (fun h => h.elim h2 hmo)])
          go_wp2_with fail
          go_ret
          rw [HX.out]
          exact ⟨rfl, rfl⟩

end Go.Proofs.YtgpkcooipadnpaaDoor
