/-
  Written rows in plain Lean: the parser, trees of repeats with their texts and rows, the order of texts, and the shortest text. No conditions.
-/
import Derived.Test.YtgpkcooipadnpaaDoorStPlain
import Derived.Test.YtgpkcooipadnpaaDoorTextPlain
import GoSem.Op.String
namespace Go.Proofs.YtgpkcooipadnpaaDoor
set_option linter.unusedSimpArgs false
set_option linter.unusedVariables false
open Go.Op (bytesLess)

def stopB (c : UInt8) : Bool := c == 32 || c == 93
/-- What stands before the next space, bracket or end; and the rest. -/
def wd (r : List UInt8) : List UInt8 := r.takeWhile fun c => !stopB c
def wrest (r : List UInt8) : List UInt8 := r.dropWhile fun c => !stopB c
/-- The number that a text is: from 2 to most, or 0. -/
def cnt (s : List UInt8) (most : Int) : Int := match Lib.atoiAll s with
  | .ok n => if 2 ≤ n ∧ n ≤ most ∧ Lib.itoa n = s then n else 0
  | _ => 0
def repL (n : Nat) (l : List St) : List St := (List.replicate n l).flatten

abbrev PRes := Option (List St × Bool × List UInt8)
def ditem (rec_ : List UInt8 → PRes) (r : List UInt8) : PRes := match r with
  | 91 :: r1 => match rec_ r1 with
    | none => none
    | some (row, lg, r2) => match r2 with
      | 93 :: 120 :: r3 =>
        if cnt (wd r3) 16 = 0 then none
        else some ((repL (cnt (wd r3) 16).toNat row).take 16, lg || decide (16 < (repL (cnt (wd r3) 16).toNat row).length), wrest r3)
      | _ => none
  | _ => match stParse (wd r) with
    | none => none
    | some x => some ([x], false, wrest r)
def dlist : Nat → List UInt8 → List St → Bool → PRes
  | 0, _, _, _ => none
  | f + 1, r, out, lg => match ditem (fun r1 => dlist f r1 [] false) r with
    | none => none
    | some (row, lg1, r2) => match r2 with
      | 32 :: r3 => dlist f r3 ((out ++ row).take 16) (lg || (lg1 || decide (16 < (out ++ row).length)))
      | _ => some ((out ++ row).take 16, lg || (lg1 || decide (16 < (out ++ row).length)), r2)
/-- What Expand returns: the error and the row. -/
def expandL (s : List UInt8) : Int × List St :=
  if 1024 < s.length then (3, []) else match dlist (s.length + 1) s [] false with
    | none => (4, [])
    | some (row, lg, r) => if r ≠ [] then (4, []) else if lg then (3, []) else (0, row)

theorem wd_wrest (r : List UInt8) : wd r ++ wrest r = r := List.takeWhile_append_dropWhile
theorem wrest_suffix (r : List UInt8) : wrest r <:+ r := List.dropWhile_suffix _

theorem ditem_suffix {rec_ : List UInt8 → PRes} (h : ∀ r o l r2, rec_ r = some (o, l, r2) → r2 <:+ r) {r : List UInt8} {o : List St} {l : Bool} {r2 : List UInt8} (hd : ditem rec_ r = some (o, l, r2)) : r2 <:+ r := by
  unfold ditem at hd
  split at hd
  · split at hd
    · cases hd
    · rename_i r1 row lg r2' hr
      have h1 := h _ _ _ _ hr
      split at hd
      · split at hd
        · cases hd
        · injection hd with hd
          injection hd with _ hd
          injection hd with _ hd
          subst hd
          exact ((((wrest_suffix _).trans (List.suffix_cons _ _)).trans (List.suffix_cons _ _)).trans h1).trans (List.suffix_cons _ _)
      · cases hd
  · split at hd
    · cases hd
    · injection hd with hd
      injection hd with _ hd
      injection hd with _ hd
      subst hd
      exact wrest_suffix _
theorem dlist_suffix : ∀ (f : Nat) (r : List UInt8) (out : List St) (lg : Bool) {o : List St} {l : Bool} {r2 : List UInt8}, dlist f r out lg = some (o, l, r2) → r2 <:+ r
  | 0, _, _, _, _, _, _, h => by cases h
  | f + 1, r, out, lg, o, l, r2, h => by
    unfold dlist at h
    split at h
    · cases h
    · rename_i row lg1 r2' hi
      have h1 := ditem_suffix (fun r o l r2 hr => dlist_suffix f r [] false hr) hi
      split at h
      · rename_i r3
        exact ((dlist_suffix f _ _ _ h).trans (List.suffix_cons _ _)).trans h1
      · injection h with h
        injection h with _ h
        injection h with _ h
        subst h
        exact h1

/-! ### Trees -/
inductive Tr where
  | one (x : St)
  | two (a b : Tr)
  | rep (a : Tr) (n : Nat)
def Tr.text : Tr → List UInt8
  | .one x => stText x
  | .two a b => a.text ++ 32 :: b.text
  | .rep a n => 91 :: (a.text ++ 93 :: 120 :: Lib.itoa (n : Int))
def Tr.row : Tr → List St
  | .one x => [x]
  | .two a b => a.row ++ b.row
  | .rep a n => repL n a.row
def Tr.ok : Tr → Prop
  | .one x => x.valid = true
  | .two a b => a.ok ∧ b.ok
  | .rep a n => a.ok ∧ 2 ≤ n ∧ n ≤ 16

def isDig (c : UInt8) : Prop := 48 ≤ c.toNat ∧ c.toNat ≤ 57
instance (c : UInt8) : Decidable (isDig c) := by unfold isDig; infer_instance
theorem u8_48 {c : UInt8} (h : c.toNat = 48) : c = 48 := UInt8.toNat_inj.1 (by simpa using h)
theorem itoa_two {m : Nat} (h1 : 10 ≤ m) (h2 : m < 100) : Lib.itoa (m : Int) = [UInt8.ofNat (48 + m / 10), UInt8.ofNat (48 + m % 10)] := by
  rw [Lib.itoa_nonneg, Lib.decDigits_two (by omega) (by omega)]
theorem dig_val {d : Nat} (h : d < 10) : (UInt8.ofNat (48 + d)).toNat = 48 + d := by
  rw [UInt8.toNat_ofNat']; omega
theorem mag_dig {a : UInt8} (h : isDig a) : Lib.parseMag [a] = .ok (a.toNat - 48) := by
  obtain ⟨h1, h2⟩ := h
  simp only [Lib.parseMag, Lib.parseUint10]
  rw [if_neg (by simp), if_pos (by omega), if_neg (by omega), if_neg (by omega)]
  simp
theorem mag_dig2 {a b : UInt8} (h : isDig a) (k : isDig b) : Lib.parseMag [a, b] = .ok (10 * (a.toNat - 48) + (b.toNat - 48)) := by
  obtain ⟨h1, h2⟩ := h
  obtain ⟨k1, k2⟩ := k
  simp only [Lib.parseMag, Lib.parseUint10]
  rw [if_neg (by simp), if_pos (by omega), if_neg (by omega), if_neg (by omega), if_pos (by omega), if_neg (by omega), if_neg (by omega)]
  congr 1; omega
theorem atoi_dig {a : UInt8} (h : isDig a) : Lib.atoiAll [a] = .ok ((a.toNat : Int) - 48) := by
  have h1 := h.1
  have h2 := h.2
  simp only [Lib.atoiAll]
  rw [if_neg (by omega), mag_dig h]
  simp only []
  rw [if_neg (by omega), if_neg (by omega), if_neg (by omega)]
  congr 1; omega
theorem atoi_dig2 {a b : UInt8} (h : isDig a) (k : isDig b) : Lib.atoiAll [a, b] = .ok (10 * ((a.toNat : Int) - 48) + ((b.toNat : Int) - 48)) := by
  have h1 := h.1
  have h2 := h.2
  have k1 := k.1
  have k2 := k.2
  simp only [Lib.atoiAll]
  rw [if_neg (by omega), mag_dig2 h k]
  simp only []
  rw [if_neg (by omega), if_neg (by omega), if_neg (by omega)]
  congr 1; omega
theorem itoa_dig {a : UInt8} (h : isDig a) : Lib.itoa ((a.toNat : Int) - 48) = [a] := by
  have h1 := h.1
  have h2 := h.2
  have e : (a.toNat : Int) - 48 = ((a.toNat - 48 : Nat) : Int) := by omega
  rw [e, itoa_pos (by omega), u8_digit (by omega)]
theorem itoa_dig2 {a b : UInt8} (h : isDig a) (k : isDig b) (h48 : a ≠ 48) : Lib.itoa (10 * ((a.toNat : Int) - 48) + ((b.toNat : Int) - 48)) = [a, b] := by
  have h1 := h.1
  have h2 := h.2
  have k1 := k.1
  have k2 := k.2
  have hne : a.toNat ≠ 48 := fun e => h48 (u8_48 e)
  have e : 10 * ((a.toNat : Int) - 48) + ((b.toNat : Int) - 48) = ((10 * (a.toNat - 48) + (b.toNat - 48) : Nat) : Int) := by omega
  rw [e, itoa_two (by omega) (by omega)]
  have e1 : 48 + (10 * (a.toNat - 48) + (b.toNat - 48)) / 10 = 48 + (a.toNat - 48) := by omega
  have e2 : 48 + (10 * (a.toNat - 48) + (b.toNat - 48)) % 10 = 48 + (b.toNat - 48) := by omega
  rw [e1, e2, u8_digit (by omega), u8_digit (by omega)]

theorem cnt_of {s : List UInt8} {most n : Int} (h : Lib.atoiAll s = .ok n) (h2 : 2 ≤ n) (h3 : n ≤ most) (h4 : Lib.itoa n = s) : cnt s most = n := by
  unfold cnt; rw [h]; exact if_pos ⟨h2, h3, h4⟩
theorem cnt_ne {s : List UInt8} {most : Int} (h : cnt s most ≠ 0) : 2 ≤ cnt s most ∧ cnt s most ≤ most ∧ Lib.itoa (cnt s most) = s := by
  unfold cnt at h ⊢
  split at h
  · rename_i n hn
    split at h
    · rename_i hh
      simp only [hn, if_pos hh]
      exact hh
    · exact absurd rfl h
  · exact absurd rfl h
theorem atoi_itoa {n : Nat} (h : n < 100) : Lib.atoiAll (Lib.itoa (n : Int)) = .ok (n : Int) ∧ (∀ c ∈ Lib.itoa (n : Int), isDig c) ∧ Lib.itoa (n : Int) ≠ [] := by
  rcases Nat.lt_or_ge n 10 with hl | hl
  · rw [itoa_pos hl]
    have e := dig_val hl
    have hd : isDig (UInt8.ofNat (48 + n)) := ⟨by rw [e]; omega, by rw [e]; omega⟩
    refine ⟨?_, by simpa using hd, by simp⟩
    rw [atoi_dig hd, e]; congr 1; omega
  · rw [itoa_two hl h]
    have e := dig_val (d := n / 10) (by omega)
    have e' := dig_val (d := n % 10) (by omega)
    have hd : isDig (UInt8.ofNat (48 + n / 10)) := ⟨by rw [e]; omega, by rw [e]; omega⟩
    have hd' : isDig (UInt8.ofNat (48 + n % 10)) := ⟨by rw [e']; omega, by rw [e']; omega⟩
    refine ⟨?_, fun c hc => ?_, by simp⟩
    · rw [atoi_dig2 hd hd', e, e']; congr 1; omega
    · rcases List.mem_cons.1 hc with rfl | hc
      · exact hd
      · rw [List.mem_singleton.1 hc]; exact hd'
theorem dig_stop {c : UInt8} (h : isDig c) : stopB c = false := by
  unfold stopB
  simp only [Bool.or_eq_false_iff, beq_eq_false_iff_ne]
  constructor <;> (intro e; subst e; exact absurd h (by decide))
theorem itoa_16 (n : Nat) (hn : n ≤ 16) : (∀ c ∈ Lib.itoa (n : Int), stopB c = false) ∧ Lib.itoa (n : Int) ≠ [] ∧ (2 ≤ n → cnt (Lib.itoa (n : Int)) 16 = n) := by
  obtain ⟨h1, h2, h3⟩ := atoi_itoa (n := n) (by omega)
  exact ⟨fun c hc => dig_stop (h2 c hc), h3, fun h => cnt_of h1 (by omega) (by omega) rfl⟩

theorem repL_zero (l : List St) : repL 0 l = [] := rfl
theorem repL_succ (n : Nat) (l : List St) : repL (n + 1) l = l ++ repL n l := by simp [repL, List.replicate_succ]
theorem repL_length (n : Nat) (l : List St) : (repL n l).length = n * l.length := by
  induction n with
  | zero => simp [repL_zero]
  | succ n ih => rw [repL_succ, List.length_append, ih, Nat.succ_mul, Nat.add_comm]

theorem Tr.row_ne : ∀ {t : Tr}, t.ok → t.row ≠ []
  | .one x, _ => by simp [Tr.row]
  | .two a b, h => by simp [Tr.row, a.row_ne h.1]
  | .rep a n, h => by
    obtain ⟨m, rfl⟩ : ∃ m, n = m + 1 := ⟨n - 1, by have := h.2.1; omega⟩
    simp [Tr.row, repL_succ, a.row_ne h.1]
theorem Tr.valid_row : ∀ {t : Tr}, t.ok → ∀ x ∈ t.row, x.valid = true
  | .one x, h => by
    intro y hy
    rw [List.mem_singleton.1 hy]
    exact h
  | .two a b, h => by
    intro x hx
    rcases List.mem_append.1 hx with hx | hx
    · exact a.valid_row h.1 x hx
    · exact b.valid_row h.2 x hx
  | .rep a n, h => by
    intro x hx
    simp only [Tr.row, repL, List.mem_flatten] at hx
    obtain ⟨l, hl, hx⟩ := hx
    have := List.eq_of_mem_replicate hl
    subst this
    exact a.valid_row h.1 x hx
theorem Tr.text_ne : ∀ {t : Tr}, t.ok → t.text ≠ []
  | .one x, h => (stText_good h).1
  | .two a b, h => by simp [Tr.text]
  | .rep a n, h => by simp [Tr.text]

theorem takeWhile_word {w r : List UInt8} (hw : ∀ c ∈ w, stopB c = false) (hr : r = [] ∨ ∃ c r', r = c :: r' ∧ stopB c = true) : wd (w ++ r) = w ∧ wrest (w ++ r) = r := by
  induction w with
  | nil =>
    rcases hr with rfl | ⟨c, r', rfl, hc⟩
    · exact ⟨rfl, rfl⟩
    · simp [wd, wrest, List.takeWhile_cons, List.dropWhile_cons, hc]
  | cons c w ih =>
    have h1 := hw c (by simp)
    have h2 := ih (fun d hd => hw d (by simp [hd]))
    constructor
    · show (c :: (w ++ r)).takeWhile _ = _
      rw [List.takeWhile_cons, if_pos (by simp [h1])]
      exact congrArg _ h2.1
    · show (c :: (w ++ r)).dropWhile _ = _
      rw [List.dropWhile_cons, if_pos (by simp [h1])]
      exact h2.2

/-- What stands behind a tree: nothing, a space or a bracket. -/
def Stops (r : List UInt8) : Prop := r = [] ∨ (∃ r', r = 32 :: r') ∨ ∃ r', r = 93 :: r'
theorem Stops.stop {r : List UInt8} (h : Stops r) : r = [] ∨ ∃ c r', r = c :: r' ∧ stopB c = true := by
  rcases h with h | ⟨r', h⟩ | ⟨r', h⟩
  · exact .inl h
  · exact .inr ⟨_, _, h, rfl⟩
  · exact .inr ⟨_, _, h, rfl⟩

/-- How the parser goes on behind a row. -/
def goOn (f : Nat) (row : List St) (r : List UInt8) : PRes := match r with
  | 32 :: r3 => dlist f r3 row false
  | _ => some (row, false, r)

theorem ditem_one {rec_ : List UInt8 → PRes} {x : St} (h : x.valid = true) {r : List UInt8} (hr : Stops r) : ditem rec_ (stText x ++ r) = some ([x], false, r) := by
  have hg := stText_good h
  have hs : ∀ c ∈ stText x, stopB c = false := fun c hc => by have := hg.2.1 c hc; simp [stopB, this.1, this.2]
  have hw := takeWhile_word hs hr.stop
  cases ht : stText x with
  | nil => exact absurd ht hg.1
  | cons c t =>
    rw [ht] at hw
    have hc : c ≠ 91 := fun e => hg.2.2.1 (by rw [ht, e]; rfl)
    unfold ditem
    split
    · rename_i r1 e
      injection e with e1 e2
      exact absurd e1 hc
    · rw [hw.1, hw.2, ← ht, stParse_text h]

/-- The parser reads the text of a tree as its row. -/
theorem dlist_tree : ∀ (t : Tr), t.ok → ∀ (f : Nat) (out : List St) (r : List UInt8), Stops r → out.length + t.row.length ≤ 16 → (t.text ++ r).length < f → ∃ f', r.length ≤ f' ∧ dlist f (t.text ++ r) out false = goOn f' (out ++ t.row) r
  | .one x, h, f, out, r, hr, hl, hf => by
    obtain ⟨g, rfl⟩ : ∃ g, f = g + 1 := ⟨f - 1, by omega⟩
    refine ⟨g, ?_, ?_⟩
    · have := stText_good h
      simp [Tr.text] at hf; omega
    · show dlist (g + 1) (stText x ++ r) out false = _
      rw [dlist, ditem_one h hr]
      simp only [Tr.row] at hl ⊢
      have h16 : decide (16 < (out ++ [x]).length) = false := by simp at hl ⊢; omega
      have htk : (out ++ [x]).take 16 = out ++ [x] := List.take_of_length_le (by simp at hl ⊢; omega)
      rw [h16, htk]
      rcases hr with rfl | ⟨r', rfl⟩ | ⟨r', rfl⟩ <;> rfl
  | .two a b, h, f, out, r, hr, hl, hf => by
    have e : (Tr.two a b).text ++ r = a.text ++ (32 :: (b.text ++ r)) := by simp [Tr.text]
    simp only [Tr.row, List.length_append] at hl
    obtain ⟨f1, h1, e1⟩ := dlist_tree a h.1 f out (32 :: (b.text ++ r)) (.inr (.inl ⟨_, rfl⟩)) (by omega) (by rw [← e]; exact hf)
    have e2 : goOn f1 (out ++ a.row) (32 :: (b.text ++ r)) = dlist f1 (b.text ++ r) (out ++ a.row) false := rfl
    obtain ⟨f2, h2, e3⟩ := dlist_tree b h.2 f1 (out ++ a.row) r hr (by simp; omega) (by simp at h1 ⊢; omega)
    refine ⟨f2, h2, ?_⟩
    rw [e, e1, e2, e3]
    simp [Tr.row]
  | .rep a n, h, f, out, r, hr, hl, hf => by
    obtain ⟨g, rfl⟩ : ∃ g, f = g + 1 := ⟨f - 1, by omega⟩
    have hn := itoa_16 n h.2.2
    have e : (Tr.rep a n).text ++ r = 91 :: (a.text ++ (93 :: 120 :: (Lib.itoa (n : Int) ++ r))) := by simp [Tr.text]
    have hw := takeWhile_word hn.1 hr.stop
    simp only [Tr.row, repL_length] at hl
    have hmul : 1 * a.row.length ≤ n * a.row.length := Nat.mul_le_mul_right _ (by have := h.2.1; omega)
    have hlen : (a.text ++ (93 :: 120 :: (Lib.itoa (n : Int) ++ r))).length < g := by rw [e] at hf; simp only [List.length_cons] at hf; omega
    obtain ⟨f1, h1, e1⟩ := dlist_tree a h.1 g [] (93 :: 120 :: (Lib.itoa (n : Int) ++ r)) (.inr (.inr ⟨_, rfl⟩)) (by simp; omega) hlen
    have e2 : goOn f1 ([] ++ a.row) (93 :: 120 :: (Lib.itoa (n : Int) ++ r)) = some (a.row, false, 93 :: 120 :: (Lib.itoa (n : Int) ++ r)) := rfl
    refine ⟨g, ?_, ?_⟩
    · simp at hlen; omega
    · rw [e, dlist]
      have hc := hn.2.2 h.2.1
      have hi : ditem (fun r1 => dlist g r1 [] false) (91 :: (a.text ++ (93 :: 120 :: (Lib.itoa (n : Int) ++ r)))) = some (repL n a.row, false, r) := by
        unfold ditem
        simp only []
        rw [e1, e2]
        simp only []
        rw [hw.1, hw.2, hc, if_neg (by have := h.2.1; omega)]
        have h16 : decide (16 < (repL n a.row).length) = false := by rw [repL_length]; simp; omega
        have htk : (repL n a.row).take 16 = repL n a.row := List.take_of_length_le (by rw [repL_length]; omega)
        have en : (n : Int).toNat = n := by omega
        rw [en, h16, htk]; rfl
      rw [hi]
      simp only [Tr.row]
      have h16 : decide (16 < (out ++ repL n a.row).length) = false := by simp [repL_length]; omega
      have htk : (out ++ repL n a.row).take 16 = out ++ repL n a.row := List.take_of_length_le (by simp [repL_length]; omega)
      rw [h16, htk]
      rcases hr with rfl | ⟨r', rfl⟩ | ⟨r', rfl⟩ <;> rfl

theorem expand_tree {t : Tr} (h : t.ok) (hl : t.row.length ≤ 16) (hs : t.text.length ≤ 1024) : expandL t.text = (0, t.row) := by
  obtain ⟨f', _, e⟩ := dlist_tree t h (t.text.length + 1) [] [] (.inl rfl) (by simpa using hl) (by simp)
  unfold expandL
  rw [if_neg (by omega)]
  rw [List.append_nil] at e
  rw [e]
  simp [goOn]

end Go.Proofs.YtgpkcooipadnpaaDoor
