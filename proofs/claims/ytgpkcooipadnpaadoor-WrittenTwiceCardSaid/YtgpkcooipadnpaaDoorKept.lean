/-
  Worlds that have changed in a few blocks alone; append in a region that draws its order; a slice cut short. Over any program; no conditions.
-/
import Derived.Test.YtgpkcooipadnpaaDoorBase2
namespace Go.Proofs.YtgpkcooipadnpaaDoor
set_option linter.unusedSimpArgs false
set_option linter.unusedVariables false
open Go.RowKit
set_option maxRecDepth 100000

/-- Blocks but those of K are as they were. -/
structure KeptOut (K : Nat → Prop) (w w' : World) : Prop where
  os : w'.os = w.os
  tape : w'.tape = w.tape
  output : w'.output = w.output
  size : w.heap.size ≤ w'.heap.size
  block : ∀ k, k < w.heap.size → ¬ K k → w'.heap[k]? = w.heap[k]?
section
variable {K : Nat → Prop} {a b c w w' : World}
theorem KeptOut.refl (w : World) : KeptOut K w w := ⟨rfl, rfl, rfl, Nat.le_refl _, fun _ _ _ => rfl⟩
theorem KeptOut.trans (h : KeptOut K a b) (k : KeptOut K b c) : KeptOut K a c :=
  ⟨k.os.trans h.os, k.tape.trans h.tape, k.output.trans h.output, Nat.le_trans h.size k.size, fun i hi hk => (k.block i (Nat.lt_of_lt_of_le hi h.size) hk).trans (h.block i hi hk)⟩
theorem KeptOut.of_below (h : Below w.heap.size w w') : KeptOut K w w' := ⟨h.os, h.tape, h.output, h.size, fun k hk _ => h.block k hk⟩
theorem KeptOut.below (h : KeptOut (fun _ => False) w w') : Below w.heap.size w w' := ⟨h.os, h.tape, h.output, h.size, fun k hk => h.block k hk (fun f => f)⟩
/-- A step that changes blocks from B on alone, seen from a world that had B blocks. -/
theorem KeptOut.step (h : KeptOut K w a) (hb : Below w.heap.size a b) : KeptOut K w b :=
  ⟨hb.os.trans h.os, hb.tape.trans h.tape, hb.output.trans h.output, Nat.le_trans h.size hb.size, fun k hk hn => (hb.block k hk).trans (h.block k hk hn)⟩
theorem KeptOut.cell (h : KeptOut K w w') {p : Addr} (hp : p.block < w.heap.size) (hk : ¬ K p.block) : w'.cell? p = w.cell? p := World.cell?_of_block (w := w) (h.block p.block hp hk)
end

theorem Own.keptK {K : Nat → Prop} {w w' : World} {base e size n c : Nat} {A : Option Addr} {xs : List Value} (h : Own w base e size A n c xs) (hk : KeptOut K w w') (hn : ∀ g, ownB A = some g → ¬ K g) : Own w' base e size A n c xs := by
  refine ⟨h.1, ?_⟩
  rcases h.2 with h2 | ⟨g, cap, cur, hv, h1, hh, h2⟩
  · exact .inl h2
  · refine .inr ⟨g, cap, cur, hv, h1, ?_, h2⟩
    injection hv with hA _ _
    rw [hk.block g (Array.getElem?_eq_some_iff.1 hh).1 (hn g (by rw [hA]; rfl))]
    exact hh
theorem step_appB {P : Program} (w : World) {size bytes : Nat} {ops : Array Oper} {o : Oper} {a : Act} {K : Act → World → Prop} {Q : Exit → Act → World → Prop} {E : Prop} (hgd : o.guard = none) (s x : Operand) (t : TypeId)
    (ho : o.op = .call { callee := .builtin .append, args := #[s, x], argTypes := #[t, t] })
    (base : Nat) (e : TypeId) (ht : P.underlying t = some (.slice e)) (he : Elem P e size bytes)
    (A : Option Addr) (n c : Nat) (xs : List Value) (hs : a.eval s = .slice A n c) (hown : Own w base e size A n c xs)
    (B : Nat) (A2 : Option Addr) (m c2 : Nat) (news : List Value) (hx : a.eval x = .slice A2 m c2) (hr : Reads w B size A2 m news) (h1 : ∀ u ∈ news, u.oneCell' = true)
    (hN : n + m ≤ 1000000000) (hbase : base ≤ w.heap.size)
    (h : ∀ A' c' w', Own w' base e size A' (n + m) c' (xs ++ news) → w.grownBy w' (ownB A) → Below base w w' → K (a.put o.dst (.slice A' (n + m) c')) w') :
    if Region.wanted o (yielded ops a.tmps) = true then Oper.wp P o a w K Q else E :=
  step_app w hgd s x t ho base e ht he A n c xs hs hown B A2 m c2 news hx hr h1 hN hbase fun A' c' w' h2 h3 _ => h A' c' w' h2 h3 (hown.belowG h3 hbase)
theorem step_app0B {P : Program} (w : World) {size bytes : Nat} {ops : Array Oper} {o : Oper} {a : Act} {K : Act → World → Prop} {Q : Exit → Act → World → Prop} {E : Prop} (hgd : o.guard = none) (s x : Operand) (t : TypeId)
    (ho : o.op = .call { callee := .builtin .append, args := #[s, x], argTypes := #[t, t] })
    (base : Nat) (e : TypeId) (ht : P.underlying t = some (.slice e)) (he : Elem P e size bytes)
    (A : Option Addr) (c : Nat) (hs : a.eval s = .slice A 0 c) (hown : Own w base e size A 0 c [])
    (B : Nat) (A2 : Option Addr) (m c2 : Nat) (news : List Value) (hx : a.eval x = .slice A2 m c2) (hr : Reads w B size A2 m news) (h1 : ∀ u ∈ news, u.oneCell' = true)
    (hN : m ≤ 1000000000) (hbase : base ≤ w.heap.size)
    (h : ∀ A' c' w', Own w' base e size A' m c' news → w.grownBy w' (ownB A) → Below base w w' → K (a.put o.dst (.slice A' m c')) w') :
    if Region.wanted o (yielded ops a.tmps) = true then Oper.wp P o a w K Q else E := by
  refine step_appB w hgd s x t ho base e ht he A 0 c [] hs hown B A2 m c2 news hx hr h1 (by omega) hbase ?_
  intro A' c' w' h2 h3 h4
  rw [Nat.zero_add, List.nil_append] at h2
  rw [Nat.zero_add]
  exact h A' c' w' h2 h3 h4
theorem Ints.grown_far {kd : IntKind} {w w' : World} {A : Option Addr} {n : Nat} {l : List Int} {row : Option Nat} (h : Ints kd w A n l) (hg : w.grownBy w' row) (hne : ∀ ad, A = some ad → row ≠ some ad.block) : Ints kd w' A n l := by
  have h2 : Reads w' w'.heap.size 1 A n (iv kd l) := by
    refine ⟨h.1, fun hn => ?_⟩
    obtain ⟨ad, e, hb, hc⟩ := h.2 hn
    refine ⟨ad, e, Nat.lt_of_lt_of_le hb hg.size, fun j u hu => ?_⟩
    rw [← hc j u hu]
    exact World.cell?_of_block (hg.block _ (by rw [block_of_add]; exact hb) (fun e2 => hne ad e (by rw [← e2, block_of_add])))
  exact h2

/-- The first m elements of a slice of the call's own. -/
theorem Own.take {w : World} {base e size n c m : Nat} {A : Option Addr} {xs : List Value} (h : Own w base e size A n c xs) (hm : m ≤ n) : Own w base e size A m c (xs.take (m * size)) := by
  have hms : m * size ≤ n * size := Nat.mul_le_mul_right _ hm
  refine ⟨by rw [List.length_take, h.1]; omega, ?_⟩
  rcases h.2 with ⟨hv, hn⟩ | ⟨g, cap, cur, hv, h1, hh, h2, h3, h4, h5⟩
  · injection hv with e1 e2 e3
    subst e1; subst e3
    exact .inl ⟨by rw [show m = 0 by omega], by omega⟩
  · injection hv with e1 e2 e3
    subst e1; subst e3
    refine .inr ⟨g, _, cur, rfl, h1, hh, by omega, h3, h4, ?_⟩
    rw [← h5, List.take_take, Nat.min_eq_left hms]

end Go.Proofs.YtgpkcooipadnpaaDoor
