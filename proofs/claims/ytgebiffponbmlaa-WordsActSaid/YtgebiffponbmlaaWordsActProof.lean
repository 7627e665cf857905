/-
  WordsAct: for every input the law returns true, and each argument reads afterwards as before. No conditions.
-/
import Derived.Test.YtgebiffponbmlaaRows
import Derived.WalkKit
import Derived.ProofKit
import Derived.OpenShut
import Derived.ShutString
import Derived.ChangeOld
import Derived.Below
import Derived.Test.YtgebiffponbmlaaLawAct
import Derived.Lib.SmallJoins
import Derived.Deep.Slices
namespace Go.Proofs.Ytgebiffponbmlaa.wordsAct
open Go.ChangeShapes Go.WideShapes Go.ChangeAt Go.RowKit
open Go.ChangeMaps (open_string shut_string)

theorem own : ownKnob Try.prog.godebug = none := by kernel_rfl
theorem laidOut : laidOutB Try.prog = true := by kernel_rfl

/-- Pairs of bytes that came in read as a list of bytes. -/
theorem pairs_of {w : World} {a : Addr} {m : Nat} (h : ∀ i j, i < m → j < 2 → ∃ x : Int, w.cell? (a.add (i * 2 + j)) = some (.int .u8 x) ∧ 0 ≤ x ∧ x ≤ 255) :
    ∃ ps : List Int, Ints .u8 w (some a) (m * 2) ps ∧ ∀ x ∈ ps, 0 ≤ x ∧ x ≤ 255 := by
  have h2 : ∀ k, k < m * 2 → ∃ x : Int, w.cell? (a.add k) = some (.int .u8 x) ∧ 0 ≤ x ∧ x ≤ 255 := by
    intro k hk
    obtain ⟨x, h1, h2⟩ := h (k / 2) (k % 2) (by omega) (by omega)
    rw [show k / 2 * 2 + k % 2 = k by omega] at h1
    exact ⟨x, h1, h2⟩
  have key : ∀ n, n ≤ m * 2 → ∃ ps : List Int, ps.length = n ∧ (∀ k x, ps[k]? = some x → w.cell? (a.add k) = some (.int .u8 x)) ∧ ∀ x ∈ ps, 0 ≤ x ∧ x ≤ 255 := by
    intro n
    induction n with
    | zero => intro _; exact ⟨[], rfl, by simp, by simp⟩
    | succ n ih =>
      intro hn
      obtain ⟨ps, h3, h4, h5⟩ := ih (by omega)
      obtain ⟨x, h6, h7⟩ := h2 n (by omega)
      refine ⟨ps ++ [x], by simp [h3], fun k y hy => ?_, fun y hy => ?_⟩
      · rcases Nat.lt_or_ge k n with h8 | h8
        · rw [List.getElem?_append_left (by omega)] at hy
          exact h4 k y hy
        · have hk : k < (ps ++ [x]).length := (List.getElem?_eq_some_iff.1 hy).1
          simp only [List.length_append, List.length_cons, List.length_nil] at hk
          have hk2 : k = n := by omega
          subst hk2
          rw [List.getElem?_append_right (by omega), h3, Nat.sub_self] at hy
          simp at hy
          subst hy
          exact h6
      · rcases List.mem_append.1 hy with h8 | h8
        · exact h5 y h8
        · simp at h8; subst h8; exact h7
  obtain ⟨ps, h3, h4, h5⟩ := key (m * 2) (Nat.le_refl _)
  refine ⟨ps, ?_, h5⟩
  have h6 : Reads w w.heap.size 1 (some a) (m * 2) (iv .u8 ps) := by
    refine ⟨by rw [iv_length]; omega, fun hn => ⟨a, rfl, ?_, fun j u hu => ?_⟩⟩
    · obtain ⟨x, h7, _⟩ := h2 0 hn
      rw [add_zero] at h7
      exact World.block_lt_of_cell? w a h7
    · simp only [iv, List.getElem?_map, Option.map_eq_some_iff] at hu
      obtain ⟨x, hx, rfl⟩ := hu
      exact h4 j x hx
  exact h6

/-! ### THE ROW's STEP: WRITTEN OUT: LEAVE IT -/
set_option maxRecDepth 100000 in
theorem lifted (os : Os) (started : os.Started) (H : Type) (enc : TypeId × Value → H) :
    ReturnsInHanded {} Try.checked os 6 .any (Rows.wordsActSpec.pre6 enc Try.prog Try.f6 Rows.wordsActRow.domain false) (Rows.wordsActSpec.post enc Try.prog Try.f6 false true false false) := by
  refine returnsInHanded_of_change (C := Try.checked) own started (by kernel_rfl) Try.func6
    (ChangeSpec.witness6 (enc := enc) (C := Try.checked) false ⟨#[], #[.int .u8 0, .agg #[.slice none 0 0, .slice none 0 0]], []⟩ 8 (by kernel_rfl) (by kernel_rfl) (by kernel_rfl) (by kernel_rfl)) ?_
  intro W base args ds gs before hval0 hW hcnd _
  have hval : ∀ (j : Nat) t v, Try.f6.params[j]? = some t → args[j]? = some v → Value.okWide Try.prog W .any base t v := hval0
  have hW' := hW
  obtain ⟨p, q, hA0, hV, rfl, hfz, hnd⟩ := hW
  have hA : DataW.TrodAll enc Try.prog W 0 (fun _ => true) true Try.f6.params.toList args.toList ds p := hA0
  rw [Try.params6] at hA hval
  obtain ⟨v0, vs0, d0, ds0, p0, q0, hargs, rfl, rfl, h0, r0⟩ := trodAll_cons hA
  obtain ⟨v1, vs1, d1, ds1, p1, q1, rfl, rfl, rfl, h1, r1⟩ := trodAll_cons r0
  obtain ⟨rfl, rfl, rfl⟩ := trodAll_nil r1
  obtain rfl : args = #[v0, v1] := by cases args; simp_all
  obtain ⟨rfl, rfl⟩ := trodVars_none hV
  obtain ⟨a0, rfl, rfl, rfl, w0⟩ := open_int Try.underlying5 (hval 0 5 v0 rfl rfl) h0
  have k1 := h1
  have lt1 : ∀ x ∈ p1, x.block < W.heap.size := by obtain ⟨m, hm⟩ := k1; exact DataW.trod_lt m _ _ _ hm
  obtain ⟨vW, vM, y0, y1, nn, rfl, _, _, hy0, hy1⟩ := Go.Joins.open_agg2 Try.underlying47 (by kernel_rfl) (by kernel_rfl) (hval 1 47 v1 rfl rfl) h1
  obtain ⟨a1, len1, cap1, zs, rfl, hz, hlc, hcm, hzb⟩ : ∃ a1 len1 cap1 zs, vW = .slice a1 len1 cap1 ∧ Ints .u8 W a1 len1 zs ∧ len1 ≤ cap1 ∧ cap1 ≤ 9223372036854775807 ∧ ∀ x ∈ zs, 0 ≤ x ∧ x ≤ 255 := by
    rcases open_ints Try.underlying23 Try.underlying5 (by kernel_rfl) hy0 with ⟨hcs, _⟩ | ⟨x, l, c, zs, hcs, _, hl, hm, hz, _, hcell, hwz⟩
    · injection hcs with hcs
      exact ⟨none, 0, 0, [], hcs, Ints.nil_, by omega, by omega, by simp⟩
    · injection hcs with hcs
      exact ⟨some x, l, c, zs.take l, hcs, ints_of_cells hl (by simpa using hz) hcell, hl, by unfold maxLen at hm; omega, fun y hy => bounds_u8' (hwz y (List.mem_of_mem_take hy))⟩
  obtain ⟨a2, len2, cap2, ps, rfl, hps, hl2, hpb⟩ : ∃ a2 len2 cap2 ps, vM = .slice a2 len2 cap2 ∧ Ints .u8 W a2 (len2 * 2) ps ∧ len2 ≤ 9223372036854775807 ∧ ∀ x ∈ ps, 0 ≤ x ∧ x ≤ 255 := by
    rcases Go.Deep.open_slice Try.underlying45 hy1 with ⟨hcs, _⟩ | ⟨x, l, c, mm, k, D, Pl, hcs, _, hl, hm, hmm, _, hel⟩
    · injection hcs with hcs
      exact ⟨none, 0, 0, [], hcs, Ints.nil_, by omega, by simp⟩
    · injection hcs with hcs
      have hlm : l ≤ mm := by rw [hmm]; split <;> omega
      have hC : Try.prog.cellsOf 58 = 2 := by kernel_rfl
      have hC5 : Try.prog.cellsOf 5 = 1 := by kernel_rfl
      obtain ⟨ps, hp1, hp2⟩ := pairs_of (w := W) (a := x) (m := l) (fun i j hi hj => by
        obtain ⟨cs', hc', ht'⟩ := hel i (by omega)
        rw [hC] at hc'
        obtain ⟨_, hcl, hat⟩ := World.cells?_some hc'
        obtain ⟨xs, q, _, _, _, hxl, hxs⟩ := DataW.trod_array Try.underlying58 ht'
        have h3 := hxs j hj
        rw [hC5, Nat.mul_one] at h3
        have hjl : j < cs'.length := by omega
        have hone : (cs'.drop j).take 1 = [cs'[j]'hjl] := by
          rw [List.drop_eq_getElem_cons hjl]; rfl
        rw [hone, List.getElem?_eq_getElem (by omega : j < xs.length)] at h3
        obtain ⟨z, hz1, _, hz3⟩ := DataW.trod_int Try.underlying5 h3
        refine ⟨z, ?_, bounds_u8' hz3⟩
        have := hat j hj
        rw [← add_of_add, this, List.getElem?_eq_getElem hjl]
        simp only [List.cons.injEq, and_true] at hz1
        rw [hz1])
      exact ⟨some x, l, c, ps, hcs, hp1, by unfold maxLen at hm; omega, hp2⟩
  clear hA0 hval0
  refine (law_act a0 a1 a2 len1 cap1 len2 cap2 zs ps W (bounds_u8' w0).1 (bounds_u8' w0).2 hz (by omega) hlc hcm hzb hl2 hps hpb).mono fun e W' ⟨he, bel⟩ => ?_
  subst he
  exact ⟨_, rfl, _, _, _, [], _, [], hW', trodAll_mk1 (shut_bool Try.underlying4 _), (trodAll_cons_mk (shut_int Try.underlying5 w0) (trodAll_cons_mk (Below.trod laidOut (by kernel_rfl) (of_decide_eq_true (by kernel_rfl)) k1 bel lt1) trodAll_mk0)), rfl, bel.frame _, fun h => by cases h⟩

theorem over : Rows.wordsActRow.holds Try.pinned (OpenSpec.ofChange Rows.wordsActSpec) :=
  OpenClaim.holds_of_wide 6 Try.f6 rfl rfl rfl rfl rfl rfl rfl ⟨rfl, rfl, rfl, rfl, rfl⟩ rfl rfl rfl rfl rfl (by kernel_rfl) Try.func6 (by kernel_rfl)
    (of_decide_eq_true (by kernel_rfl)) (by unfold Func.isWrapper; first | (rw [if_pos (by decide +kernel)]; kernel_rfl) | (rw [if_neg (by decide +kernel)]; exact ⟨rfl, rfl⟩))
    (fun os started H enc _ => lifted os started H enc)

/-- ████ THE STATEMENT ████ -/
theorem proved : Rows.WordsActSaid := over
#print axioms proved
end Go.Proofs.Ytgebiffponbmlaa.wordsAct
