/-
  Contracts of words.Text and what it calls: every list of small integers. Condition: the tables of strconv hold what their initialisers lay (Vars).
-/
import Derived.Test.YtkanbechahhmkaaDoorWordsK
import Derived.Test.YtkanbechahhmkaaDoorShelf
import Derived.Test.YtkanbechahhmkaaDoorTextPlain
import Derived.Lib.ItoaLen
import Derived.Lib.AppendIntMem
namespace Go.Proofs.YtkanbechahhmkaaDoor
set_option linter.unusedSimpArgs false
set_option linter.unusedVariables false
open Go.RowKit
set_option maxRecDepth 100000

theorem elemStrZ : ElemZ Tryd.prog 9 1 16 (.string ByteArray.empty) := elemZ_of (by kernel_rfl) rfl (by omega) (by omega)

/-- What the library's variables hold: the table of powers of ten, the two errors of strconv, bytealg's MaxLen. -/
def Vars (w : World) : Prop :=
  Lib.TabIs Tryd.prog w "internal/strconv.uint64pow10" .u64 Lib.pow10Tab ∧ (∃ tp p, w.var? Tryd.prog "strconv.ErrSyntax" = some #[.iface tp p]) ∧ (∃ tp p, w.var? Tryd.prog "strconv.ErrRange" = some #[.iface tp p]) ∧ ∃ m, w.cell? ⟨3, 0, none⟩ = some (.int .i64 m)

theorem var_below {P : Program} {w w' : World} {n : String} {cs : Array Value} (hb : Below w.heap.size w w') (h : w.var? P n = some cs) : w'.var? P n = some cs := by
  unfold World.var? at h ⊢
  cases hg : P.globalNamed n with
  | none => rw [hg] at h; cases h
  | some g =>
    rw [hg] at h
    simp only [Option.bind_some] at h ⊢
    cases hh : w.heap[g]? with
    | none => rw [hh] at h; cases h
    | some o =>
      rw [hb.block g (Array.getElem?_eq_some_iff.1 hh).1, hh]
      rw [hh] at h
      exact h
theorem cell_lt {w : World} {b o : Nat} {v : Value} (h : w.cell? ⟨b, o, none⟩ = some v) : b < w.heap.size := by
  rcases Nat.lt_or_ge b w.heap.size with h1 | h1
  · exact h1
  · simp [World.cell?, Array.getElem?_eq_none h1] at h
theorem Vars.below {w w' : World} (h : Vars w) (hb : Below w.heap.size w w') : Vars w' := by
  obtain ⟨h1, ⟨a, b, h2⟩, ⟨c, d, h3⟩, m, h4⟩ := h
  exact ⟨var_below hb h1, ⟨a, b, var_below hb h2⟩, ⟨c, d, var_below hb h3⟩, m, by
    have hl := cell_lt h4
    exact (hb.cell (p := ⟨_, 0, none⟩) hl).trans h4⟩
theorem Vars.drewN {w : World} (h : Vars w) (k : Nat) : Vars (w.drewN k) := h
theorem Vars.alloc {w : World} (h : Vars w) (o : Obj) : Vars (w.alloc o) := h.below ((Below.refl _ _).alloc (Nat.le_refl _) _)

/-- A Go string with these bytes. -/
abbrev str (l : List UInt8) : Value := .string ⟨l.toArray⟩

theorem itoa_any (n : Int) (w : World) (h0 : -9223372036854775808 ≤ n) (h1 : n ≤ 9223372036854775807) (hV : Vars w) :
    Calls Tryd.prog 13 #[.int .i64 n] w fun e w' => e = .returned (str (Lib.itoa n)) ∧ Below w.heap.size w w' :=
  (Tryd.strconv_Itoa n h0 h1 w hV.1).mono fun _ _ ⟨he, k, os, hw⟩ => ⟨he, hw ▸ Lib.below_grow _ w (Nat.le_refl _) k os⟩

/-- The cells of a list of strings. -/
def sv (l : List (List UInt8)) : List Value := l.map str
theorem sv_length (l : List (List UInt8)) : (sv l).length = l.length := by simp [sv]

/-- Strings as the library's contracts take them. -/
def bs (l : List (List UInt8)) : List ByteArray := l.map fun t => ⟨t.toArray⟩
theorem bs_data (l : List (List UInt8)) : (bs l).map (·.data.toList) = l := by simp [bs, Function.comp_def]
theorem bs_length (l : List (List UInt8)) : (bs l).length = l.length := by simp [bs]
theorem bs_at {l : List (List UInt8)} {j : Nat} {x : ByteArray} (h : (bs l)[j]? = some x) : j < l.length ∧ (sv l)[j]? = some (.string x) := by
  refine ⟨by have := (List.getElem?_eq_some_iff.1 h).1; rwa [bs_length] at this, ?_⟩
  simp only [bs, List.getElem?_map, Option.map_eq_some_iff] at h
  obtain ⟨a, ha, rfl⟩ := h
  simp [sv, ha]

/-- The strings laid so far, then empty ones. -/
def strTo (ts : List (List UInt8)) (n k : Nat) : List Value := sv (ts.take k) ++ List.replicate (n - k) (.string ByteArray.empty)
theorem strTo_zero (ts : List (List UInt8)) (n : Nat) : strTo ts n 0 = List.replicate n (.string ByteArray.empty) := by simp [strTo, sv]
theorem strTo_full (ts : List (List UInt8)) (n : Nat) (h : ts.length = n) : strTo ts n n = sv ts := by simp [strTo, ← h]
theorem strTo_length (ts : List (List UInt8)) (n k : Nat) (h : ts.length = n) (hk : k ≤ n) : (strTo ts n k).length = n := by simp [strTo, sv]; omega
theorem strTo_set (ts : List (List UInt8)) (n k : Nat) (h : ts.length = n) (hk : k < n) (t : List UInt8) (ht : ts[k]? = some t) : (strTo ts n k).set k (str t) = strTo ts n (k + 1) := by
  obtain ⟨m, hm⟩ : ∃ m, n - k = m + 1 := ⟨n - k - 1, by omega⟩
  have e : n - (k + 1) = m := by omega
  unfold strTo
  rw [hm, e, List.set_append_right _ _ (by simp [sv]; omega)]
  have hl : (sv (ts.take k)).length = k := by simp [sv]; omega
  rw [hl, Nat.sub_self, List.replicate_succ, List.set_cons_zero, List.take_add_one, ht]
  simp [sv]
theorem strTo_get (ts : List (List UInt8)) (n k : Nat) (h : ts.length = n) (hk : k < n) : (strTo ts n k)[k]? = some (.string ByteArray.empty) := by
  unfold strTo
  rw [List.getElem?_append_right (by simp [sv]; omega)]
  have hl : (sv (ts.take k)).length = k := by simp [sv]; omega
  rw [hl, Nat.sub_self, List.getElem?_replicate_of_lt (by omega)]

theorem textL_length {l : List Int} {N : Nat} (hl : l.length ≤ N) (hr : ∀ k ∈ l, -1000 ≤ k ∧ k ≤ 1000) : (Lib.join (l.map Lib.itoa) [32]).length ≤ 22 * N := by
  induction l generalizing N with
  | nil => simp [Lib.join_nil]
  | cons k r ih =>
    have h1 := Lib.itoa_length_le k (by have := hr k (by simp); omega) (by have := hr k (by simp); omega)
    cases r with
    | nil => rw [List.map_cons, List.map_nil, Lib.join_one]; simp at hl; omega
    | cons k2 r =>
      have h2 := ih (N := N - 1) (by simp at hl ⊢; omega) (fun x hx => hr x (by simp [hx]))
      rw [List.map_cons] at h2
      rw [List.map_cons, List.map_cons, join_cons2, List.length_append, List.length_cons]
      simp at hl
      omega

set_option maxHeartbeats 1000000 in
theorem text_any (A : Option Addr) (n c : Nat) (l : List Int) (w : World) (hl : Ints .i64 w A n l) (hn : n ≤ 1000) (hr : ∀ k ∈ l, -1000 ≤ k ∧ k ≤ 1000) (hV : Vars w) :
    Calls Tryd.prog 8 #[.slice A n c] w fun e w' => e = .returned (str (textL l)) ∧ Below w.heap.size w w' := by
  have hlen := hl.len
  have HLEN := Lib.hid hlen; clear hlen
  rcases Nat.eq_zero_or_pos n with h0 | hpos
  · subst h0
    have hnil : l = [] := List.eq_nil_of_length_eq_zero HLEN.out
    have HNIL := Lib.hid hnil; clear hnil
    go_enter Tryd.func8, Tryd.ntmps8
    go_wp2
    go_ret
    exact ⟨by rw [HNIL.out]; rfl, Below.refl _ _⟩
  · have hnb : ((n : Int) == 0) = false := by simp; omega
    have hlj := Lib.hid (textL_length (l := l) (N := n) (by have := HLEN.out; omega) hr)
    have HR := Lib.hid hr; clear hr
    go_enter Tryd.func8, Tryd.ntmps8
    go_wp2_with (at_make; go_must (refine wpList_mk w rfl (.tmp 10) (.tmp 10) 46 rfl w.heap.size 9 Tryd.underlying46 elemStrZ rfl .i64 .i64 n n n rfl rfl rfl rfl (by omega) (Nat.le_refl _) ?_); intro w1 hown1 hg1)
    have hbel1 : Below w.heap.size w w1 := below_of_grown_none hg1 (Nat.le_refl _)
    have hsz1 : w.heap.size < w1.heap.size := (hown1.low _ rfl).2
    have HTL : Hid ((l.map Lib.itoa).length = n) := by have := HLEN.out; exact Lib.hid (by simpa using this)
    go_loopw [14] (fun i wr => ∃ (k : Nat), k ≤ n ∧ i = .int .i64 k ∧ Own wr w.heap.size 9 1 (some ⟨w.heap.size, 0, none⟩) n n (strTo (l.map Lib.itoa) n k) ∧ Below w.heap.size w wr) (fun i _ => n - (intOf i).toNat)
    case atStart => exact ⟨0, by omega, rfl, by rw [strTo_zero]; exact hown1, hbel1⟩
    case round =>
      obtain ⟨k, hk, rfl, hown, hbel⟩ := hrel
      rcases Nat.lt_or_ge k n with hlt | hge
      · obtain ⟨ad, rfl, hadl, x, hxk, hc0⟩ := hl.at_ hlt
        have hc := (hbel.cell (p := ad.add k) (by rw [block_of_add]; exact hadl)).trans hc0
        clear hc0
        have hx2 := HR.out x (List.mem_of_getElem? hxk)
        have HC := Lib.hid (itoa_any x wr (by omega) (by omega) (hV.below hbel))
        have HX := Lib.hid hxk; clear hxk
        have hsz := hbel.size
        have hglt := (hown.low _ rfl).2
        go_wp2_with fail
        refine HC.out.mono ?_
        rintro e w2 ⟨rfl, hb2⟩
        have hown2 := hown.below hb2
        have hcell : w2.cell? ⟨w.heap.size, k, none⟩ = some (.string ByteArray.empty) := by
          rw [hown2.cellAt (by omega), strTo_get _ _ _ HTL.out hlt]
        have hfr := hown2.frozenAt k
        have HS := Lib.hid (strTo_set (l.map Lib.itoa) n k HTL.out hlt (Lib.itoa x) (by rw [List.getElem?_map, HX.out]; rfl) ▸ hown2.stored k (str (Lib.itoa x)))
        have HB := Lib.hid ((hbel.trans (hb2.mono hsz)).trans (hown2.stored_below k (str (Lib.itoa x))))
        go_wp2
        go_roundw
        case rel => exact ⟨k + 1, by omega, by go_num, HS.out, HB.out⟩
        case measure => simp [intOf]; omega
      · obtain rfl : n = k := by omega
        rw [strTo_full _ _ HTL.out] at hown
        have HJ := Lib.hid (Tryd.strings_Join w.heap.size 0 n (bs (l.map Lib.itoa)) ⟨#[32]⟩ wr (by
          intro j x hx
          rw [Nat.zero_add]
          obtain ⟨hj, hx⟩ := bs_at hx
          rw [HTL.out] at hj
          rw [hown.cellAt (by omega)]
          exact hx) (hown.low _ rfl).2 (by rw [bs_length, HTL.out]; omega) (by rw [bs_length, HTL.out]; exact Nat.le_refl _) (by rw [bs_data]; have := hlj.out; show (Lib.join _ [32]).length ≤ _; omega))
        rw [bs_data, bs_length, HTL.out] at HJ
        have HT : Hid (textL l = Lib.join (l.map Lib.itoa) [32]) := Lib.hid (by unfold textL; rw [if_neg]; intro e; have := HLEN.out; rw [e] at this; simp at this; omega)
        go_wp2_with fail
        refine HJ.out.mono ?_
        rintro e w2 ⟨rfl, hb2⟩
        go_wp2
        go_ret
        exact ⟨congrArg (fun x => Ending.returned (str x)) HT.out.symm, hbel.trans (hb2.mono hbel.size)⟩

end Go.Proofs.YtkanbechahhmkaaDoor
