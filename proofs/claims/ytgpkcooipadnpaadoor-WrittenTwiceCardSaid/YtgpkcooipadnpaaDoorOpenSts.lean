/-
  An argument that is a slice of stitches, opened: it reads as a list of stitches. No conditions.
-/
import Derived.Test.YtgpkcooipadnpaaDoorSts
import Derived.ProofKit
import Derived.OpenShut
import Derived.Deep.Slices
import Derived.ChangeArms
namespace Go.Proofs.YtgpkcooipadnpaaDoor
set_option linter.unusedSimpArgs false
set_option linter.unusedVariables false
open Go.RowKit Go.ChangeShapes Go.WideShapes
set_option maxRecDepth 100000

theorem wf_u8 {x : Int} (h : (Lit.int .u8 x).wf = true) : 0 ≤ x ∧ x ≤ 255 := bounds_u8' h
theorem wf_i64 {x : Int} (h : (Lit.int .i64 x).wf = true) : -9223372036854775808 ≤ x ∧ x ≤ 9223372036854775807 := by
  simp [Lit.wf, IntKind.min, IntKind.max, IntKind.signed, IntKind.bits] at h
  omega

section
variable {H : Type} {enc : TypeId × Value → H} {W : World} {base : Nat} {spare : Nat → Bool} {held : Bool}

/-- The cells of one stitch that can be read. -/
theorem open_stitch {fuel : Nat} {cs : List Value} {x : DataW H × List MemPlace} (h : DataW.trod enc Tryd.prog W base spare held fuel 29 cs = some x) : ∃ s : St, s.wf ∧ cs = s.cells := by
  have hS : Tryd.prog.underlying 29 = some (.struct (Tryd.prog.fieldsOf 29)) := by kernel_rfl
  have hC : Tryd.prog.cellsOf 29 = 5 := by kernel_rfl
  have hz : (Tryd.prog.fieldsOf 29).size = 5 := by kernel_rfl
  obtain ⟨xs, n, _, _, hlen, hxl, hf⟩ := DataW.trod_struct hS h
  rw [hC] at hlen
  have key : ∀ (j T : Nat), ((Tryd.prog.fieldsOf 29)[j]?).map (fun f => (f.offset, f.type)) = some (j, T) → Tryd.prog.cellsOf T = 1 → ∃ v y, cs[j]? = some v ∧ DataW.trod enc Tryd.prog W base spare held n T [v] = some y := by
    intro j T hj hT
    obtain ⟨f, hfj, he⟩ := Option.map_eq_some_iff.1 hj
    injection he with h1 h2
    have hjl : j < 5 := by rw [← hz]; exact (Array.getElem?_eq_some_iff.1 hfj).1
    have h3 := hf j f hfj
    rw [h1, h2, hT] at h3
    have hjc : j < cs.length := by omega
    have hone : (cs.drop j).take 1 = [cs[j]'hjc] := by
      rw [List.drop_eq_getElem_cons hjc]; rfl
    rw [hone, List.getElem?_eq_getElem (by omega : j < xs.length)] at h3
    exact ⟨_, _, List.getElem?_eq_getElem hjc, h3⟩
  obtain ⟨v0, y0, c0, t0⟩ := key 0 27 (by kernel_rfl) (by kernel_rfl)
  obtain ⟨v1, y1, c1, t1⟩ := key 1 5 (by kernel_rfl) (by kernel_rfl)
  obtain ⟨v2, y2, c2, t2⟩ := key 2 3 (by kernel_rfl) (by kernel_rfl)
  obtain ⟨v3, y3, c3, t3⟩ := key 3 3 (by kernel_rfl) (by kernel_rfl)
  obtain ⟨v4, y4, c4, t4⟩ := key 4 4 (by kernel_rfl) (by kernel_rfl)
  obtain ⟨k, e0, _, w0⟩ := DataW.trod_int Tryd.underlying27 t0
  obtain ⟨y, e1, _, w1⟩ := DataW.trod_int Tryd.underlying5 t1
  obtain ⟨a, e2, _, w2⟩ := DataW.trod_int Tryd.underlying3 t2
  obtain ⟨b, e3, _, w3⟩ := DataW.trod_int Tryd.underlying3 t3
  obtain ⟨f, e4, _⟩ := DataW.trod_bool Tryd.underlying4 t4
  simp only [List.cons.injEq, and_true] at e0 e1 e2 e3 e4
  subst e0
  subst e1
  subst e2
  subst e3
  subst e4
  refine ⟨⟨k, y, a, b, f⟩, ⟨(wf_u8 w0).1, (wf_u8 w0).2, (wf_u8 w1).1, (wf_u8 w1).2, (wf_i64 w2).1, (wf_i64 w2).2, (wf_i64 w3).1, (wf_i64 w3).2⟩, ?_⟩
  have h5 : ∃ u0 u1 u2 u3 u4, cs = [u0, u1, u2, u3, u4] := by
    match cs, hlen with
    | [u0, u1, u2, u3, u4], _ => exact ⟨u0, u1, u2, u3, u4, rfl⟩
  obtain ⟨u0, u1, u2, u3, u4, rfl⟩ := h5
  simp only [List.getElem?_cons_zero, List.getElem?_cons_succ, Option.some.injEq] at c0 c1 c2 c3 c4
  subst c0
  subst c1
  subst c2
  subst c3
  subst c4
  rfl

theorem open_stitches {fuel : Nat} {cs : List Value} {x : DataW H × List MemPlace} (h : DataW.trod enc Tryd.prog W base spare held fuel 22 cs = some x) :
    ∃ A n c l, cs = [.slice A n c] ∧ Sts W A n l ∧ n ≤ c ∧ c ≤ 9223372036854775807 ∧ ∀ y ∈ l, y.wf := by
  rcases Go.Deep.open_slice Tryd.underlying22 h with ⟨hcs, _⟩ | ⟨a, n, c, m, k, D, Pl, hcs, _, hl, hm, hmm, _, hel⟩
  · exact ⟨none, 0, 0, [], hcs, Sts.nil_, by omega, by omega, by simp⟩
  · have hlm : n ≤ m := by rw [hmm]; split <;> omega
    have hC : Tryd.prog.cellsOf 29 = 5 := by kernel_rfl
    have key : ∀ i, i ≤ n → ∃ l : List St, l.length = i ∧ (∀ y ∈ l, y.wf) ∧ ∀ q u, (sc l)[q]? = some u → W.cell? (a.add q) = some u := by
      intro i
      induction i with
      | zero => intro _; exact ⟨[], rfl, by simp, by simp [sc]⟩
      | succ i ih =>
        intro hi
        obtain ⟨l, h1, h2, h3⟩ := ih (by omega)
        obtain ⟨cs', hc', ht'⟩ := hel i (by omega)
        rw [hC] at hc'
        obtain ⟨s, hs, rfl⟩ := open_stitch ht'
        obtain ⟨_, hcl, hat⟩ := World.cells?_some hc'
        refine ⟨l ++ [s], by simp [h1], fun y hy => ?_, fun q u hq => ?_⟩
        · rcases List.mem_append.1 hy with hy | hy
          · exact h2 y hy
          · rw [List.mem_singleton.1 hy]; exact hs
        · rw [sc_append] at hq
          have hsl := sc_length l
          rcases Nat.lt_or_ge q (i * 5) with h5 | h5
          · rw [List.getElem?_append_left (by omega)] at hq
            exact h3 q u hq
          · rw [List.getElem?_append_right (by omega), sc_cons, sc_nil, List.append_nil] at hq
            have hj : q - (sc l).length < 5 := by
              have := (List.getElem?_eq_some_iff.1 hq).1
              simpa [St.cells] using this
            have := hat (q - (sc l).length) (by omega)
            rw [add_of_add, show i * 5 + (q - (sc l).length) = q by omega] at this
            rw [this, hq]
    obtain ⟨l, h1, h2, h3⟩ := key n (Nat.le_refl _)
    refine ⟨some a, n, c, l, hcs, ⟨by rw [sc_length, h1], fun hn => ⟨a, rfl, ?_, h3⟩⟩, hl, by unfold maxLen at hm; omega, h2⟩
    have hq : (sc l)[0]? = some ((sc l)[0]'(by rw [sc_length, h1]; omega)) := List.getElem?_eq_getElem _
    have := h3 0 _ hq
    rw [add_zero] at this
    exact World.block_lt_of_cell? W a this
end

end Go.Proofs.YtgpkcooipadnpaaDoor
