/-
  The reference's reader of written rows in plain Lean (a stack of open brackets), and that what it accepts is the text of a tree. No conditions.
-/
import Derived.Test.YtgpkcooipadnpaaDoorWBest
namespace Go.Proofs.YtgpkcooipadnpaaDoor
set_option linter.unusedSimpArgs false
set_option linter.unusedVariables false

/-- The reference's number. -/
def numL (s : List UInt8) (most : Int) : Int := match s with
  | [a] => if isDig a ∧ a ≠ 48 ∧ 2 ≤ (a.toNat : Int) - 48 ∧ (a.toNat : Int) - 48 ≤ most then (a.toNat : Int) - 48 else 0
  | [a, b] => if isDig a ∧ isDig b ∧ a ≠ 48 ∧ 10 * ((a.toNat : Int) - 48) + ((b.toNat : Int) - 48) ≤ most then 10 * ((a.toNat : Int) - 48) + ((b.toNat : Int) - 48) else 0
  | _ => 0

theorem numL_eq (s : List UInt8) {most : Int} (hm : most ≤ 99) : numL s most = cnt s most := by
  by_cases hc : cnt s most = 0
  · rw [hc]
    unfold numL
    split
    · rename_i a
      split
      · rename_i h
        have := cnt_of (most := most) (atoi_dig h.1) h.2.2.1 h.2.2.2 (itoa_dig h.1)
        rw [this] at hc
        omega
      · rfl
    · rename_i a b
      split
      · rename_i h
        have hne : a.toNat ≠ 48 := fun e => h.2.2.1 (u8_48 e)
        have h1 := h.1.1
        have h2 := h.2.1.1
        have := cnt_of (most := most) (atoi_dig2 h.1 h.2.1) (by omega) h.2.2.2 (itoa_dig2 h.1 h.2.1 h.2.2.1)
        rw [this] at hc
        omega
      · rfl
    · rfl
  · obtain ⟨h1, h2, h3⟩ := cnt_ne hc
    generalize cnt s most = n at *
    obtain ⟨m, rfl⟩ : ∃ m : Nat, n = m := ⟨n.toNat, by omega⟩
    subst h3
    rcases Nat.lt_or_ge m 10 with hl | hl
    · rw [itoa_pos hl]
      simp only [numL]
      have e := dig_val hl
      rw [if_pos]
      · rw [e]; omega
      · refine ⟨⟨by rw [e]; omega, by rw [e]; omega⟩, ?_, by rw [e]; omega, by rw [e]; omega⟩
        intro e2
        rw [e2] at e
        have : (48 : UInt8).toNat = 48 := rfl
        omega
    · rw [itoa_two hl (by omega)]
      simp only [numL]
      have e := dig_val (d := m / 10) (by omega)
      have e' := dig_val (d := m % 10) (by omega)
      rw [if_pos]
      · rw [e, e']; omega
      · refine ⟨⟨by rw [e]; omega, by rw [e]; omega⟩, ⟨by rw [e']; omega, by rw [e']; omega⟩, ?_, by rw [e, e']; omega⟩
        intro e2
        rw [e2] at e
        have : (48 : UInt8).toNat = 48 := rfl
        omega

/-- Copies of a row are put behind another one, as long as that is short. -/
def fillL : Nat → List St → List St → List St
  | 0, up, _ => up
  | n + 1, up, row => if up.length < 17 then fillL n (up ++ row) row else up
theorem fillL_take : ∀ (n : Nat) (up row : List St), (fillL n up row).take 17 = (up ++ repL n row).take 17
  | 0, up, row => by simp [fillL, repL_zero]
  | n + 1, up, row => by
    unfold fillL
    split
    · rw [fillL_take n, repL_succ, List.append_assoc]
    · rw [List.take_append_of_le_length (by omega)]
theorem take_fill (n : Nat) (A B : List St) (hn : 1 ≤ n) : (A.take 17 ++ repL n (B.take 17)).take 17 = (A ++ repL n B).take 17 := by
  rcases Nat.lt_or_ge A.length 17 with hA | hA
  · rw [List.take_of_length_le (by omega : A.length ≤ 17)]
    rcases Nat.lt_or_ge 17 B.length with hB | hB
    · obtain ⟨m, rfl⟩ : ∃ m, n = m + 1 := ⟨n - 1, by omega⟩
      have hl : (B.take 17).length = 17 := by rw [List.length_take]; omega
      rw [repL_succ, repL_succ, ← List.append_assoc, ← List.append_assoc]
      rw [List.take_append_of_le_length (l₁ := A ++ B.take 17) (by rw [List.length_append, hl]; omega), List.take_append_of_le_length (l₁ := A ++ B) (by rw [List.length_append]; omega)]
      rw [List.take_append, List.take_append, List.take_take, Nat.min_eq_left (by omega)]
    · rw [List.take_of_length_le hB]
  · have h17 : (A.take 17).length = 17 := by rw [List.length_take]; omega
    rw [List.take_append_of_le_length (by omega), List.take_append_of_le_length hA, List.take_take, Nat.min_self]

abbrev Kont := List (List St) → List UInt8 → Bool → Int × List St
def mend : List (List St) → Int × List St
  | [row] => if 16 < row.length then (3, []) else (0, row)
  | _ => (4, [])
def mclose (k : Kont) (open_ : List (List St)) (c : UInt8) (r : List UInt8) : Int × List St := match open_ with
  | row :: up :: below => match r with
    | d :: r3 => if c = 93 ∧ d = 120 then
        (if cnt (wd r3) 16 = 0 then (4, []) else k ((fillL (cnt (wd r3) 16).toNat up row).take 17 :: below) (wrest r3) false)
      else (4, [])
    | [] => (4, [])
  | _ => (4, [])
def madd (k : Kont) (open_ : List (List St)) (x : St) (r : List UInt8) : Int × List St := match open_ with
  | up :: below => k ((if up.length < 17 then up ++ [x] else up) :: below) r false
  | [] => (4, [])
def mnext (k : Kont) (open_ : List (List St)) : List UInt8 → Int × List St
  | [] => mend open_
  | c :: r => if c = 32 then k open_ r true else mclose k open_ c r
def mitem (k : Kont) (open_ : List (List St)) : List UInt8 → Int × List St
  | [] => (4, [])
  | c :: r => if c = 91 then k ([] :: open_) r true else match stParse (wd (c :: r)) with
    | none => (4, [])
    | some x => madd k open_ x (wrest (c :: r))
/-- The reference's reader: the open rows (the last one first), the rest, and whether an item must follow. -/
def mrun : Nat → Kont
  | 0, _, _, _ => (4, [])
  | f + 1, open_, r, item => if item then mitem (mrun f) open_ r else mnext (mrun f) open_ r
def refL (s : List UInt8) : Int × List St := if 1024 < s.length then (3, []) else mrun (s.length + 1) [[]] s true

def prow : Option Tr → List St
  | none => []
  | some t => t.row
def ptext : Option Tr → List UInt8
  | none => []
  | some t => t.text ++ [32]
def ctxB : List (Option Tr) → List UInt8
  | [] => []
  | P :: below => ctxB below ++ ptext P ++ [91]
def okP : Option Tr → Prop
  | none => True
  | some t => t.ok
def addP (P : Option Tr) (t : Tr) : Tr := match P with
  | none => t
  | some a => .two a t
theorem addP_text (P : Option Tr) (t : Tr) : (addP P t).text = ptext P ++ t.text := by cases P <;> simp [addP, ptext, Tr.text]
theorem addP_row (P : Option Tr) (t : Tr) : (addP P t).row = prow P ++ t.row := by cases P <;> simp [addP, prow, Tr.row]
theorem addP_ok {P : Option Tr} {t : Tr} (h : okP P) (k : t.ok) : (addP P t).ok := by
  cases P with
  | none => exact k
  | some a => exact ⟨h, k⟩
theorem map_one (P : Option Tr) : (fun P => (prow P).take 17) P = (prow P).take 17 := rfl

theorem mno {row : List St} (h : ((4 : Int), ([] : List St)) = (0, row)) : False := by injection h with h; omega
theorem mno3 {row : List St} (h : ((3 : Int), ([] : List St)) = (0, row)) : False := by injection h with h; omega
/-- What the reader accepts is the text of a tree. -/
theorem mrun_tree {s : List UInt8} : ∀ (f : Nat) (below : List (Option Tr)) (r : List UInt8) (row : List St), (∀ P ∈ below, okP P) →
    (∀ P : Option Tr, okP P → s = ctxB below ++ ptext P ++ r → mrun f ((prow P).take 17 :: below.map fun P => (prow P).take 17) r true = (0, row) → ∃ T : Tr, T.ok ∧ T.text = s ∧ T.row = row ∧ row.length ≤ 16) ∧
    (∀ t : Tr, t.ok → s = ctxB below ++ t.text ++ r → mrun f (t.row.take 17 :: below.map fun P => (prow P).take 17) r false = (0, row) → ∃ T : Tr, T.ok ∧ T.text = s ∧ T.row = row ∧ row.length ≤ 16)
  | 0, below, r, row, _ => by
    constructor <;> (intro _ _ _ h; rw [mrun] at h; exact (mno h).elim)
  | f + 1, below, r, row, hb => by
    constructor
    · intro P hP hs h
      cases r with
      | nil => exact (mno h).elim
      | cons c r =>
        rw [mrun, if_pos rfl, mitem] at h
        split at h
        · rename_i hc
          subst hc
          have ih := (mrun_tree (s := s) f (P :: below) r row (fun Q hQ => (List.mem_cons.1 hQ).elim (fun e => e ▸ hP) (hb Q))).1 none trivial
            (by rw [hs]; simp [ctxB, ptext]) (by simpa [prow] using h)
          exact ih
        · split at h
          · exact (mno h).elim
          · rename_i x hx
            obtain ⟨hx1, hx2⟩ := stParse_some hx
            have e : (if ((prow P).take 17).length < 17 then (prow P).take 17 ++ [x] else (prow P).take 17) = (addP P (.one x)).row.take 17 := by
              rw [addP_row]
              simp only [Tr.row]
              split
              · rename_i hl
                have : (prow P).length < 17 := by rw [List.length_take] at hl; omega
                rw [List.take_of_length_le (by omega), List.take_of_length_le (by simp; omega)]
              · rename_i hl
                have : 17 ≤ (prow P).length := by rw [List.length_take] at hl; omega
                rw [List.take_append_of_le_length this]
            simp only [madd] at h
            rw [e] at h
            refine (mrun_tree (s := s) f below _ row hb).2 _ (addP_ok (t := .one x) hP hx2) ?_ h
            rw [addP_text, hs]
            show _ = ctxB below ++ (ptext P ++ stText x) ++ _
            rw [hx1]
            have := wd_wrest (c :: r)
            simp only [List.append_assoc]
            rw [this]
    · intro t ht hs h
      cases r with
      | nil =>
        rw [mrun, if_neg (by simp), mnext] at h
        unfold mend at h
        split at h
        · rename_i row' e
          injection e with e1 e2
          have hbn : below = [] := by simpa using e2
          subst hbn
          split at h
          · exact (mno3 h).elim
          · rename_i hl
            injection h with _ h
            subst h
            subst e1
            rw [List.length_take] at hl
            have hl2 : t.row.length ≤ 16 := by omega
            rw [List.take_of_length_le (by omega)]
            exact ⟨t, ht, by rw [hs]; simp [ctxB], rfl, hl2⟩
        · exact (mno h).elim
      | cons c r =>
        rw [mrun, if_neg (by simp), mnext] at h
        split at h
        · rename_i hc
          subst hc
          exact (mrun_tree (s := s) f below r row hb).1 (some t) ht (by rw [hs]; simp [ptext]) (by simpa [prow] using h)
        · unfold mclose at h
          split at h
          · rename_i row1 up below1 e
            split at h
            · rename_i d r3
              split at h
              · rename_i hcd
                obtain ⟨rfl, rfl⟩ := hcd
                split at h
                · exact (mno h).elim
                · rename_i hn
                  obtain ⟨n1, n2, n3⟩ := cnt_ne hn
                  cases below with
                  | nil => simp at e
                  | cons P below2 =>
                    simp only [List.map_cons, List.cons.injEq] at e
                    obtain ⟨rfl, rfl, rfl⟩ := e
                    obtain ⟨n, hnn⟩ : ∃ n : Nat, cnt (wd r3) 16 = n := ⟨(cnt (wd r3) 16).toNat, by omega⟩
                    rw [hnn] at n1 n2 n3 h
                    have hn' : ((n : Int)).toNat = n := by omega
                    rw [hn'] at h
                    have e : (fillL n ((prow P).take 17) (t.row.take 17)).take 17 = (addP P (.rep t n)).row.take 17 := by
                      rw [fillL_take, take_fill n _ _ (by omega), addP_row]; rfl
                    rw [e] at h
                    refine (mrun_tree (s := s) f below2 _ row (fun Q hQ => hb Q (by simp [hQ]))).2 _ (addP_ok (t := .rep t n) (hb P (by simp)) ⟨ht, by omega, by omega⟩) ?_ h
                    rw [addP_text, hs]
                    simp only [ctxB, Tr.text, n3]
                    have := wd_wrest r3
                    simp only [List.append_assoc, List.cons_append, List.nil_append]
                    rw [this]
              · exact (mno h).elim
            · exact (mno h).elim
          · exact (mno h).elim

theorem ref_tree {s : List UInt8} {row : List St} (h : refL s = (0, row)) : ∃ T : Tr, T.ok ∧ T.text = s ∧ T.row = row ∧ row.length ≤ 16 := by
  unfold refL at h
  split at h
  · injection h with h _; omega
  · exact (mrun_tree (s.length + 1) [] s row (by simp)).1 none trivial (by simp [ctxB, ptext]) (by simpa [prow] using h)

/-- Nothing is better than the shortest text of what a text stands for. -/
theorem ref_least {s : List UInt8} {row : List St} (h : refL s = (0, row)) : row ≠ [] ∧ (∀ x ∈ row, x.valid = true) ∧ row.length ≤ 16 ∧ leT (shortL row) s := by
  obtain ⟨T, h1, h2, h3, h4⟩ := ref_tree h
  subst h3
  refine ⟨T.row_ne h1, T.valid_row h1, h4, ?_⟩
  rw [← h2]
  exact (short_good (T.row_ne h1) (T.valid_row h1) h4).2 T h1 rfl
/-- The shortest text stands for the row. -/
theorem expand_short {row : List St} (h : row ≠ []) (hv : ∀ x ∈ row, x.valid = true) (h16 : row.length ≤ 16) : expandL (shortL row) = (0, row) := by
  obtain ⟨⟨T, h1, h2, h3⟩, _⟩ := short_good h hv h16
  have hl := short_length h hv h16
  rw [← h2, ← h3]
  refine expand_tree h1 (by rw [h3]; exact h16) (by rw [h2]; omega)

end Go.Proofs.YtgpkcooipadnpaaDoor
