/-
  A word's text in plain Lean: splitting at spaces, the tokens of a word, and that formatting and parsing invert each other. No conditions.
-/
import Derived.Lib.SplitLaws
import Derived.Lib.Join
import Derived.Lib.ItoaMem
import Derived.Lib.AtoiAll
namespace Go.Proofs.YtgpkcooipadnpaaDoor
set_option linter.unusedSimpArgs false
set_option linter.unusedVariables false

/-- Cut at every space. -/
def sp : List UInt8 → List (List UInt8)
  | [] => [[]]
  | c :: r => if c = 32 then [] :: sp r else match sp r with
    | [] => [[c]]
    | h :: t => (c :: h) :: t

theorem sp_nil : sp [] = [[]] := rfl
theorem sp_space (r : List UInt8) : sp (32 :: r) = [] :: sp r := by simp [sp]
theorem sp_ne (s : List UInt8) : sp s ≠ [] := by
  cases s with
  | nil => simp [sp]
  | cons c r =>
    simp only [sp]
    split
    · simp
    · split <;> simp
theorem sp_other {c : UInt8} (hc : c ≠ 32) {r h : List UInt8} {t : List (List UInt8)} (hr : sp r = h :: t) : sp (c :: r) = (c :: h) :: t := by
  simp [sp, hc, hr]

theorem splitK_eq : ∀ s : List UInt8, Lib.splitK [32] 0 (Lib.count s [32]) s = sp s
  | [] => by rw [Lib.count_one]; rfl
  | c :: r => by
    have ih := splitK_eq r
    by_cases hc : c = 32
    · subst hc
      rw [Lib.count_cons_eq, Nat.add_comm, sp_space, ← ih]
      have hix : Lib.index (32 :: r) [32] = 0 := by rw [Lib.index]; simp [List.isPrefixOf]
      rw [Lib.splitK, hix]
      simp
    · rw [Lib.count_cons_ne c 32 r hc]
      have hp : ([32] : List UInt8).isPrefixOf (c :: r) = false := by simp [List.isPrefixOf, Ne.symm hc]
      have hix : Lib.index (c :: r) [32] = if Lib.index r [32] == -1 then -1 else Lib.index r [32] + 1 := by rw [Lib.index, hp]; simp
      by_cases hm : Lib.index r [32] = -1
      · have h0 := Lib.count_miss hm
        rw [h0] at ih ⊢
        rw [Lib.splitK] at ih ⊢
        rw [sp_other hc ih.symm]
      · have hge := Lib.index_ge r [32]
        obtain ⟨j, hj⟩ : ∃ j : Nat, Lib.index r [32] = j := ⟨(Lib.index r [32]).toNat, by omega⟩
        have h0 := Lib.count_hit (by simp) hj
        rw [h0] at ih ⊢
        rw [Nat.add_comm] at ih ⊢
        rw [Lib.splitK, hj, if_neg (by simp <;> omega)] at ih
        rw [Lib.splitK, hix, hj, if_neg (by simp <;> omega), if_neg (by simp <;> omega), sp_other hc ih.symm]
        have e1 : ((j : Int) + 1).toNat = j + 1 := by omega
        have e2 : ((j : Int)).toNat = j := by omega
        rw [e1, e2]
        simp
theorem split_eq (s : List UInt8) : Lib.split s [32] = sp s := splitK_eq s

/-- A letter of a word's text, from 1 to 7 or negative. -/
def tok : List UInt8 → Option Int
  | [c] => if 49 ≤ c.toNat ∧ c.toNat ≤ 55 then some ((c.toNat : Int) - 48) else none
  | [m, c] => if m = 45 ∧ 49 ≤ c.toNat ∧ c.toNat ≤ 55 then some (-((c.toNat : Int) - 48)) else none
  | _ => none

theorem itoa_pos {u : Nat} (h : u < 10) : Lib.itoa (u : Int) = [UInt8.ofNat (48 + u)] := by rw [Lib.itoa_nonneg, Lib.decDigits_one h]
theorem itoa_neg1 {u : Nat} (h0 : 1 ≤ u) (h : u < 10) : Lib.itoa (-(u : Int)) = [45, UInt8.ofNat (48 + u)] := by rw [Lib.itoa_neg u h0, Lib.decDigits_one h]

theorem u8_digit {c : UInt8} (h : 48 ≤ c.toNat) : UInt8.ofNat (48 + (c.toNat - 48)) = c := by
  have e : 48 + (c.toNat - 48) = c.toNat := by omega
  rw [e]; simp

theorem tok_itoa {k : Int} (h0 : k ≠ 0) (h1 : -8 < k) (h2 : k < 8) : tok (Lib.itoa k) = some k := by
  have : k = -7 ∨ k = -6 ∨ k = -5 ∨ k = -4 ∨ k = -3 ∨ k = -2 ∨ k = -1 ∨ k = 1 ∨ k = 2 ∨ k = 3 ∨ k = 4 ∨ k = 5 ∨ k = 6 ∨ k = 7 := by omega
  rcases this with h | h | h | h | h | h | h | h | h | h | h | h | h | h <;> subst h
  · rw [show (-7 : Int) = -((7 : Nat) : Int) by rfl, itoa_neg1 (by omega) (by omega)]; decide
  · rw [show (-6 : Int) = -((6 : Nat) : Int) by rfl, itoa_neg1 (by omega) (by omega)]; decide
  · rw [show (-5 : Int) = -((5 : Nat) : Int) by rfl, itoa_neg1 (by omega) (by omega)]; decide
  · rw [show (-4 : Int) = -((4 : Nat) : Int) by rfl, itoa_neg1 (by omega) (by omega)]; decide
  · rw [show (-3 : Int) = -((3 : Nat) : Int) by rfl, itoa_neg1 (by omega) (by omega)]; decide
  · rw [show (-2 : Int) = -((2 : Nat) : Int) by rfl, itoa_neg1 (by omega) (by omega)]; decide
  · rw [show (-1 : Int) = -((1 : Nat) : Int) by rfl, itoa_neg1 (by omega) (by omega)]; decide
  · rw [show (1 : Int) = ((1 : Nat) : Int) by rfl, itoa_pos (by omega)]; decide
  · rw [show (2 : Int) = ((2 : Nat) : Int) by rfl, itoa_pos (by omega)]; decide
  · rw [show (3 : Int) = ((3 : Nat) : Int) by rfl, itoa_pos (by omega)]; decide
  · rw [show (4 : Int) = ((4 : Nat) : Int) by rfl, itoa_pos (by omega)]; decide
  · rw [show (5 : Int) = ((5 : Nat) : Int) by rfl, itoa_pos (by omega)]; decide
  · rw [show (6 : Int) = ((6 : Nat) : Int) by rfl, itoa_pos (by omega)]; decide
  · rw [show (7 : Int) = ((7 : Nat) : Int) by rfl, itoa_pos (by omega)]; decide

theorem tok_range {t : List UInt8} {k : Int} (h : tok t = some k) : k ≠ 0 ∧ -8 < k ∧ k < 8 := by
  unfold tok at h
  split at h
  · split at h
    · injection h with h; omega
    · cases h
  · split at h
    · injection h with h; omega
    · cases h
  · cases h

theorem tok_text {t : List UInt8} {k : Int} (h : tok t = some k) : Lib.itoa k = t := by
  unfold tok at h
  split at h
  · rename_i c
    split at h
    · injection h with h
      have e : k = ((c.toNat - 48 : Nat) : Int) := by omega
      rw [e, itoa_pos (by omega), u8_digit (by omega)]
    · cases h
  · rename_i m c
    split at h
    · rename_i hh
      injection h with h
      have e : k = -((c.toNat - 48 : Nat) : Int) := by omega
      rw [e, itoa_neg1 (by omega) (by omega), u8_digit (by omega), hh.1]
    · cases h
  · cases h

theorem mag_one {c : UInt8} (h1 : 49 ≤ c.toNat) (h2 : c.toNat ≤ 55) : Lib.parseMag [c] = .ok (c.toNat - 48) := by
  simp only [Lib.parseMag, Lib.parseUint10]
  rw [if_neg (by simp), if_pos (by omega), if_neg (by omega), if_neg (by omega)]
  simp

theorem tok_atoi {t : List UInt8} {k : Int} (h : tok t = some k) : Lib.atoiAll t = .ok k := by
  unfold tok at h
  split at h
  · rename_i c
    split at h
    · rename_i hh
      injection h with h
      simp only [Lib.atoiAll]
      rw [if_neg (by omega), mag_one hh.1 hh.2]
      simp only []
      rw [if_neg (by omega), if_neg (by omega), if_neg (by omega)]
      congr 1; omega
    · cases h
  · rename_i m c
    split at h
    · rename_i hh
      injection h with h
      obtain ⟨rfl, hh⟩ := hh
      simp only [Lib.atoiAll]
      rw [if_pos (by decide), mag_one hh.1 hh.2]
      simp only []
      rw [if_neg (by simp), if_neg (by omega), if_pos (by decide)]
      congr 1; omega
    · cases h
  · cases h

/-- The letters of tokens. -/
def toks : List (List UInt8) → Option (List Int)
  | [] => some []
  | t :: r => match tok t, toks r with
    | some k, some l => some (k :: l)
    | _, _ => none

theorem toks_length : ∀ {ts : List (List UInt8)} {l : List Int}, toks ts = some l → l.length = ts.length
  | [], l, h => by injection h with h; subst h; rfl
  | t :: r, l, h => by
    unfold toks at h
    split at h
    · rename_i k l' _ hr
      injection h with h
      subst h
      simp [toks_length hr]
    · cases h
theorem toks_range : ∀ {ts : List (List UInt8)} {l : List Int}, toks ts = some l → ∀ k ∈ l, k ≠ 0 ∧ -8 < k ∧ k < 8
  | [], l, h => by injection h with h; subst h; simp
  | t :: r, l, h => by
    unfold toks at h
    split at h
    · rename_i k l' ht hr
      injection h with h
      subst h
      intro x hx
      rcases List.mem_cons.1 hx with rfl | hx
      · exact tok_range ht
      · exact toks_range hr x hx
    · cases h
theorem toks_text : ∀ {ts : List (List UInt8)} {l : List Int}, toks ts = some l → l.map Lib.itoa = ts
  | [], l, h => by injection h with h; subst h; rfl
  | t :: r, l, h => by
    unfold toks at h
    split at h
    · rename_i k l' ht hr
      injection h with h
      subst h
      rw [List.map_cons, tok_text ht, toks_text hr]
    · cases h
theorem toks_itoa : ∀ {l : List Int}, (∀ k ∈ l, k ≠ 0 ∧ -8 < k ∧ k < 8) → toks (l.map Lib.itoa) = some l
  | [], _ => rfl
  | k :: r, h => by
    have h1 := h k (by simp)
    have h2 := toks_itoa (l := r) (fun x hx => h x (by simp [hx]))
    rw [List.map_cons, toks, tok_itoa h1.1 h1.2.1 h1.2.2, h2]
theorem toks_none_at : ∀ {ts : List (List UInt8)} {i : Nat} {t : List UInt8}, ts[i]? = some t → tok t = none → toks ts = none
  | [], i, t, h, _ => by simp at h
  | a :: r, 0, t, h, ht => by
    simp at h; subst h
    simp [toks, ht]
  | a :: r, i + 1, t, h, ht => by
    simp at h
    have := toks_none_at h ht
    simp [toks, this]
theorem toks_take : ∀ {ts : List (List UInt8)} {i : Nat} {t : List UInt8} {l : List Int} {k : Int}, toks (ts.take i) = some l → ts[i]? = some t → tok t = some k → toks (ts.take (i + 1)) = some (l ++ [k])
  | [], i, t, l, k, _, h, _ => by simp at h
  | a :: r, 0, t, l, k, hl, h, ht => by
    simp at h; subst h
    simp [toks] at hl
    subst hl
    simp [toks, ht]
  | a :: r, i + 1, t, l, k, hl, h, ht => by
    simp at h
    rw [List.take_succ_cons, toks] at hl
    rw [List.take_succ_cons, toks]
    split at hl
    · rename_i x l' hx hr
      injection hl with hl
      subst hl
      rw [hx, toks_take hr h ht]
      rfl
    · cases hl

/-- The text of a word. -/
def textL (l : List Int) : List UInt8 := if l = [] then [45] else Lib.join (l.map Lib.itoa) [32]

theorem join_cons2 (x y : List UInt8) (r : List (List UInt8)) : Lib.join (x :: y :: r) [32] = x ++ 32 :: Lib.join (y :: r) [32] := by
  rw [Lib.join_cons, Lib.join_cons]
  simp [Lib.joinTail]
theorem join_sp : ∀ s : List UInt8, Lib.join (sp s) [32] = s
  | [] => by simp [sp, Lib.join_one]
  | c :: r => by
    have ih := join_sp r
    by_cases hc : c = 32
    · subst hc
      rw [sp_space]
      cases hr : sp r with
      | nil => exact absurd hr (sp_ne r)
      | cons h t => rw [join_cons2, ← hr, ih]; rfl
    · cases hr : sp r with
      | nil => exact absurd hr (sp_ne r)
      | cons h t =>
        rw [sp_other hc hr]
        rw [hr] at ih
        cases t with
        | nil => rw [Lib.join_one] at ih ⊢; rw [ih]
        | cons y u => rw [join_cons2] at ih ⊢; rw [List.cons_append, ih]
theorem sp_of_word : ∀ {x : List UInt8}, (∀ c ∈ x, c ≠ 32) → ∀ (r : List UInt8), sp (x ++ 32 :: r) = x :: sp r
  | [], _, r => by simp [sp_space]
  | c :: x, h, r => by
    have ih := sp_of_word (x := x) (fun d hd => h d (by simp [hd])) r
    rw [List.cons_append, sp_other (h c (by simp)) ih]
theorem sp_one : ∀ {x : List UInt8}, (∀ c ∈ x, c ≠ 32) → sp x = [x]
  | [], _ => rfl
  | c :: x, h => by
    have ih := sp_one (x := x) (fun d hd => h d (by simp [hd]))
    rw [sp_other (h c (by simp)) ih]
theorem sp_join : ∀ {ts : List (List UInt8)}, ts ≠ [] → (∀ t ∈ ts, ∀ c ∈ t, c ≠ 32) → sp (Lib.join ts [32]) = ts
  | [], h, _ => absurd rfl h
  | [x], _, h => by rw [Lib.join_one]; exact sp_one (h x (by simp))
  | x :: y :: r, _, h => by
    rw [join_cons2, sp_of_word (h x (by simp)), sp_join (ts := y :: r) (by simp) (fun t ht => h t (by simp [ht]))]

theorem tok_nospace {t : List UInt8} {k : Int} (h : tok t = some k) : ∀ c ∈ t, c ≠ 32 := by
  unfold tok at h
  split at h
  · split at h
    · rename_i c hh
      intro x hx e
      simp at hx
      subst hx; subst e
      revert hh; decide
    · cases h
  · split at h
    · rename_i m c hh
      intro x hx e
      subst e
      simp at hx
      rcases hx with hx | hx
      · rw [← hx] at hh; exact absurd hh.1 (by decide)
      · rw [← hx] at hh; exact absurd hh.2.1 (by decide)
    · cases h
  · cases h

/-- What a text says. -/
def parseL (s : List UInt8) : Option (List Int) :=
  if s = [45] then some [] else if 64 < (sp s).length then none else toks (sp s)

theorem parse_text {l : List Int} (h : ∀ k ∈ l, k ≠ 0 ∧ -8 < k ∧ k < 8) (hl : l.length ≤ 64) : parseL (textL l) = some l := by
  unfold textL
  by_cases h0 : l = []
  · subst h0; simp [parseL]
  · rw [if_neg h0]
    have hts := toks_itoa h
    have hsp : sp (Lib.join (l.map Lib.itoa) [32]) = l.map Lib.itoa := sp_join (by simpa using h0) (fun t ht => by
      obtain ⟨k, hk, rfl⟩ := List.mem_map.1 ht
      exact tok_nospace (tok_itoa (h k hk).1 (h k hk).2.1 (h k hk).2.2))
    unfold parseL
    rw [if_neg, if_neg, hsp, hts]
    · rw [hsp]; simpa using hl
    · intro e
      rw [e] at hsp
      rw [← hsp] at hts
      rw [show toks (sp [45]) = none by decide] at hts
      cases hts
theorem parse_long {l : List Int} (h : ∀ k ∈ l, k ≠ 0 ∧ -8 < k ∧ k < 8) (hl : 64 < l.length) : parseL (textL l) = none := by
  unfold textL
  by_cases h0 : l = []
  · subst h0; simp at hl
  · rw [if_neg h0]
    have hts := toks_itoa h
    have hsp : sp (Lib.join (l.map Lib.itoa) [32]) = l.map Lib.itoa := sp_join (by simpa using h0) (fun t ht => by
      obtain ⟨k, hk, rfl⟩ := List.mem_map.1 ht
      exact tok_nospace (tok_itoa (h k hk).1 (h k hk).2.1 (h k hk).2.2))
    unfold parseL
    rw [if_neg, if_pos]
    · rw [hsp]; simpa using hl
    · intro e
      rw [e] at hsp
      rw [← hsp] at hts
      rw [show toks (sp [45]) = none by decide] at hts
      cases hts
theorem text_parse {s : List UInt8} {l : List Int} (h : parseL s = some l) : textL l = s := by
  unfold parseL at h
  split at h
  · rename_i hs
    injection h with h
    subst h; subst hs; rfl
  · split at h
    · cases h
    · have h1 := toks_text h
      have h2 := toks_length h
      have h3 : l ≠ [] := by
        intro e
        subst e
        exact sp_ne s (List.eq_nil_of_length_eq_zero h2.symm)
      unfold textL
      rw [if_neg h3, h1, join_sp]
theorem parse_range {s : List UInt8} {l : List Int} (h : parseL s = some l) : (∀ k ∈ l, k ≠ 0 ∧ -8 < k ∧ k < 8) ∧ l.length ≤ 64 := by
  unfold parseL at h
  split at h
  · injection h with h; subst h; simp
  · split at h
    · cases h
    · exact ⟨toks_range h, by rw [toks_length h]; omega⟩

/-! The steps of the law's own parser: what the tokens of a rest say, by its first bytes. -/
def dig17 (c : UInt8) : Prop := 49 ≤ c.toNat ∧ c.toNat ≤ 55
/-- '-' or nothing. -/
def pre (b : Bool) : List UInt8 := if b then [45] else []
def sgn (b : Bool) : Int := if b then -1 else 1

theorem dig17_ne {c : UInt8} (h : dig17 c) : c ≠ 32 ∧ c ≠ 45 := by
  constructor <;> (intro e; subst e; revert h; unfold dig17; decide)
theorem tok_pre (b : Bool) {c : UInt8} (h : dig17 c) : tok (pre b ++ [c]) = some (sgn b * ((c.toNat : Int) - 48)) := by
  cases b
  · simp only [pre, sgn, tok]; simp [tok, h.1, h.2]
  · simp only [pre, sgn]; simp [tok, h.1, h.2]
theorem pre_nospace (b : Bool) {c : UInt8} (h : dig17 c) : ∀ x ∈ pre b ++ [c], x ≠ 32 := tok_nospace (tok_pre b h)
theorem go_end (b : Bool) {c : UInt8} (h : dig17 c) : toks (sp (pre b ++ [c])) = some [sgn b * ((c.toNat : Int) - 48)] := by
  rw [sp_one (pre_nospace b h), toks, tok_pre b h]; rfl
theorem go_more (b : Bool) {c : UInt8} (h : dig17 c) (r : List UInt8) : toks (sp (pre b ++ c :: 32 :: r)) = (toks (sp r)).map (fun l => sgn b * ((c.toNat : Int) - 48) :: l) := by
  have e : pre b ++ c :: 32 :: r = (pre b ++ [c]) ++ 32 :: r := by simp
  rw [e, sp_of_word (pre_nospace b h), toks, tok_pre b h]
  cases toks (sp r) <;> rfl
theorem sp_head (c : UInt8) (hc : c ≠ 32) (r : List UInt8) : ∃ h t, sp (c :: r) = (c :: h) :: t ∧ sp r = h :: t := by
  cases hr : sp r with
  | nil => exact absurd hr (sp_ne r)
  | cons h t => exact ⟨h, t, sp_other hc hr, rfl⟩
theorem toks_first {ts : List (List UInt8)} {t : List UInt8} {u : List (List UInt8)} (h : ts = t :: u) (ht : tok t = none) : toks ts = none := by
  subst h; simp [toks, ht]
theorem go_bad (b : Bool) {c d : UInt8} (h : dig17 c) (hd : d ≠ 32) (r : List UInt8) : toks (sp (pre b ++ c :: d :: r)) = none := by
  obtain ⟨h1, t1, e1, e1'⟩ := sp_head d hd r
  obtain ⟨h2, t2, e2, e2'⟩ := sp_head c (dig17_ne h).1 (d :: r)
  rw [e1] at e2'
  injection e2' with e3 e4
  subst e3
  cases b
  · refine toks_first e2 ?_
    unfold tok
    split
    · rename_i x hx; simp at hx
    · rename_i m x hx
      simp at hx
      obtain ⟨rfl, _, _⟩ := hx
      rw [if_neg]
      intro hh
      exact (dig17_ne h).2 hh.1
    · rfl
  · have e5 : sp (45 :: c :: d :: r) = (45 :: c :: d :: h1) :: t2 := sp_other (by decide) e2
    refine toks_first e5 ?_
    rfl
theorem go_nodig (b : Bool) {c : UInt8} (hb : b = false → c ≠ 45) (h : ¬ dig17 c) (r : List UInt8) : toks (sp (pre b ++ c :: r)) = none := by
  by_cases hc : c = 32
  · subst hc
    cases b
    · exact toks_first (sp_space r) rfl
    · have e5 : sp (45 :: 32 :: r) = [45] :: sp r := sp_other (by decide) (sp_space r)
      exact toks_first e5 rfl
  · obtain ⟨h2, t2, e2, _⟩ := sp_head c hc r
    cases b
    · refine toks_first e2 ?_
      unfold tok
      split
      · rename_i x hx
        simp at hx
        obtain ⟨rfl, _⟩ := hx
        exact if_neg h
      · rename_i m x hx
        simp at hx
        obtain ⟨rfl, _⟩ := hx
        rw [if_neg]
        intro hh
        exact hb rfl hh.1
      · rfl
    · have e5 : sp (45 :: c :: r) = (45 :: c :: h2) :: t2 := sp_other (by decide) e2
      refine toks_first e5 ?_
      unfold tok
      split
      · rename_i x hx; simp at hx
      · rename_i m x hx
        simp at hx
        obtain ⟨_, rfl, _⟩ := hx
        rw [if_neg]
        intro hh
        exact h ⟨hh.2.1, hh.2.2⟩
      · rfl
theorem go_stop (b : Bool) : toks (sp (pre b)) = none := by cases b <;> decide

end Go.Proofs.YtgpkcooipadnpaaDoor
