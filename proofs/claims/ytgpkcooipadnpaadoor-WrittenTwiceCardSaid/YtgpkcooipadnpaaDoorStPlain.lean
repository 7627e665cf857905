/-
  Stitches and their texts in plain Lean: formatting and parsing invert each other. No conditions.
-/
import Derived.Lib.SplitLaws
namespace Go.Proofs.YtgpkcooipadnpaaDoor
set_option linter.unusedSimpArgs false
set_option linter.unusedVariables false

/-- A stitch. -/
structure St where
  kind : Int
  yarn : Int
  a : Int
  b : Int
  front : Bool
deriving DecidableEq

def St.zero : St := ⟨0, 0, 0, 0, false⟩
def St.valid (s : St) : Bool :=
  decide (1 ≤ s.kind ∧ s.kind ≤ 8 ∧ 1 ≤ s.yarn ∧ s.yarn ≤ 6) && (if s.kind = 8 then decide (1 ≤ s.a ∧ 1 ≤ s.b ∧ s.a + s.b ≤ 4) else decide (s.a = 0 ∧ s.b = 0) && !s.front)

def symOf (k : Int) : UInt8 :=
  if k = 1 then 107 else if k = 2 then 112 else if k = 3 then 111 else if k = 4 then 47 else if k = 5 then 118 else if k = 6 then 116 else if k = 7 then 115 else if k = 8 then 99 else 0
def digU (n : Int) : UInt8 := UInt8.ofNat (48 + n.toNat)
def yarnL (y : Int) : List UInt8 := if 1 < y then [digU y] else []
def stText (s : St) : List UInt8 :=
  if s.valid then (if s.kind = 8 then [99, digU s.a, digU s.b, if s.front then 70 else 66] ++ yarnL s.yarn else [symOf s.kind] ++ yarnL s.yarn) else []

/-- Every valid stitch. -/
def allSt : List St :=
  ([1, 2, 3, 4, 5, 6] : List Int).flatMap fun y =>
    (([1, 2, 3, 4, 5, 6, 7] : List Int).map fun k => (⟨k, y, 0, 0, false⟩ : St)) ++
      ([(1, 1), (1, 2), (1, 3), (2, 1), (2, 2), (3, 1)] : List (Int × Int)).flatMap fun p => [(⟨8, y, p.1, p.2, false⟩ : St), ⟨8, y, p.1, p.2, true⟩]

theorem mem_allSt {s : St} (h : s.valid = true) : s ∈ allSt := by
  obtain ⟨k, y, a, b, f⟩ := s
  unfold St.valid at h
  simp only [Bool.and_eq_true, decide_eq_true_eq] at h
  obtain ⟨⟨h1, h2, h3, h4⟩, h5⟩ := h
  have hy : y = 1 ∨ y = 2 ∨ y = 3 ∨ y = 4 ∨ y = 5 ∨ y = 6 := by omega
  by_cases hk : k = 8
  · subst hk
    simp only [if_true, decide_eq_true_eq] at h5
    have hab : (a = 1 ∧ b = 1) ∨ (a = 1 ∧ b = 2) ∨ (a = 1 ∧ b = 3) ∨ (a = 2 ∧ b = 1) ∨ (a = 2 ∧ b = 2) ∨ (a = 3 ∧ b = 1) := by omega
    rcases hy with rfl | rfl | rfl | rfl | rfl | rfl <;> rcases hab with ⟨rfl, rfl⟩ | ⟨rfl, rfl⟩ | ⟨rfl, rfl⟩ | ⟨rfl, rfl⟩ | ⟨rfl, rfl⟩ | ⟨rfl, rfl⟩ <;> cases f <;> decide
  · rw [if_neg hk] at h5
    simp only [Bool.and_eq_true, decide_eq_true_eq, Bool.not_eq_true'] at h5
    obtain ⟨⟨rfl, rfl⟩, rfl⟩ := h5
    have hk2 : k = 1 ∨ k = 2 ∨ k = 3 ∨ k = 4 ∨ k = 5 ∨ k = 6 ∨ k = 7 := by omega
    rcases hy with rfl | rfl | rfl | rfl | rfl | rfl <;> rcases hk2 with rfl | rfl | rfl | rfl | rfl | rfl | rfl <;> decide
theorem valid_all : ∀ s ∈ allSt, s.valid = true := by decide +kernel

/-- What Parse takes a text for, before it looks whether that is right. -/
def kindOf (c : UInt8) : Int :=
  if c = 107 then 1 else if c = 112 then 2 else if c = 111 then 3 else if c = 47 then 4 else if c = 118 then 5 else if c = 116 then 6 else if c = 115 then 7 else if c = 99 then 8 else 0
def yarnOf (r : List UInt8) : Int := match r with
  | [x] => if 48 ≤ x.toNat then (x.toNat : Int) - 48 else (x.toNat : Int) + 208
  | _ => 1
def cand : List UInt8 → Option St
  | [] => none
  | c :: r => if kindOf c = 8 then (match r with
      | x :: y :: z :: r' => some ⟨8, yarnOf r', (x.toNat : Int) - 48, (y.toNat : Int) - 48, z == 70⟩
      | _ => none)
    else some ⟨kindOf c, yarnOf r, 0, 0, false⟩
def stParse (t : List UInt8) : Option St := match cand t with
  | none => none
  | some s => if stText s = t then some s else none

theorem stText_nil_of {s : St} (h : s.valid = false) : stText s = [] := by unfold stText; rw [h]; rfl
theorem cand_ne {t : List UInt8} {s : St} (h : cand t = some s) : t ≠ [] := by intro e; subst e; cases h
theorem stParse_some {t : List UInt8} {s : St} (h : stParse t = some s) : stText s = t ∧ s.valid = true := by
  unfold stParse at h
  split at h
  · cases h
  · rename_i s' hc
    split at h
    · injection h with h
      subst h
      refine ⟨‹_›, ?_⟩
      cases hv : s'.valid with
      | true => rfl
      | false =>
        have := stText_nil_of hv
        rename_i ht
        rw [this] at ht
        exact absurd ht.symm (cand_ne hc)
    · cases h
theorem stParse_all : ∀ s ∈ allSt, stParse (stText s) = some s := by decide +kernel
theorem stParse_text {s : St} (h : s.valid = true) : stParse (stText s) = some s := stParse_all s (mem_allSt h)
theorem stText_all : ∀ s ∈ allSt, stText s ≠ [] ∧ (∀ c ∈ stText s, c ≠ 32 ∧ c ≠ 93) ∧ (stText s).head? ≠ some 91 ∧ (stText s).length ≤ 5 := by decide +kernel
theorem stText_good {s : St} (h : s.valid = true) : stText s ≠ [] ∧ (∀ c ∈ stText s, c ≠ 32 ∧ c ≠ 93) ∧ (stText s).head? ≠ some 91 ∧ (stText s).length ≤ 5 := stText_all s (mem_allSt h)
theorem stText_inj {s t : St} (hs : s.valid = true) (ht : t.valid = true) (h : stText s = stText t) : s = t := by
  have h1 := stParse_text hs
  rw [h, stParse_text ht] at h1
  injection h1 with h1
  exact h1.symm

end Go.Proofs.YtgpkcooipadnpaaDoor
