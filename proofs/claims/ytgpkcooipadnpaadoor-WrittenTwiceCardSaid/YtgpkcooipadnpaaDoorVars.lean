/-
  Strings in memory, and what strconv's variables hold (Vars). No conditions.
-/
import Derived.Test.YtgpkcooipadnpaaDoorBase2
import Derived.Test.YtgpkcooipadnpaaDoorShelf
import Derived.Test.YtgpkcooipadnpaaDoorTextPlain
import Derived.Lib.ItoaLen
import Derived.Lib.AppendIntMem
import Derived.Lib.LaidTab
import Derived.Laws.BytesArg
namespace Go.Proofs.YtgpkcooipadnpaaDoor
set_option linter.unusedSimpArgs false
set_option linter.unusedVariables false
open Go.RowKit
set_option maxRecDepth 100000

theorem elemStrZ : ElemZ Tryd.prog 9 1 16 (.string ByteArray.empty) := elemZ_of (by kernel_rfl) rfl (by omega) (by omega)

/-- What strconv's variables hold: the table of powers of ten, the two errors. -/
def Vars (w : World) : Prop :=
  Lib.TabIs Tryd.prog w "internal/strconv.uint64pow10" .u64 Lib.pow10Tab ∧ (∃ tp p, w.var? Tryd.prog "strconv.ErrSyntax" = some #[.iface tp p]) ∧ (∃ tp p, w.var? Tryd.prog "strconv.ErrRange" = some #[.iface tp p])

theorem var_below {P : Program} {w w' : World} {n : String} {cs : Array Value} (hb : Below w.heap.size w w') (h : w.var? P n = some cs) : w'.var? P n = some cs := by
  unfold World.var? at h ⊢
  cases hg : P.globalNamed n with
  | none => rw [hg] at h; cases h
  | some g =>
    rw [hg] at h
    simp only [Option.bind_some] at h ⊢
    cases hh : w.heap[g]? with
    | none => rw [hh] at h; cases h
    | some o =>
      rw [hb.block g (Array.getElem?_eq_some_iff.1 hh).1, hh]
      rw [hh] at h
      exact h
theorem cell_lt {w : World} {b o : Nat} {v : Value} (h : w.cell? ⟨b, o, none⟩ = some v) : b < w.heap.size := by
  rcases Nat.lt_or_ge b w.heap.size with h1 | h1
  · exact h1
  · simp [World.cell?, Array.getElem?_eq_none h1] at h
theorem Vars.below {w w' : World} (h : Vars w) (hb : Below w.heap.size w w') : Vars w' := by
  obtain ⟨h1, ⟨a, b, h2⟩, ⟨c, d, h3⟩⟩ := h
  exact ⟨var_below hb h1, ⟨a, b, var_below hb h2⟩, ⟨c, d, var_below hb h3⟩⟩
theorem Vars.drewN {w : World} (h : Vars w) (k : Nat) : Vars (w.drewN k) := h
theorem Vars.alloc {w : World} (h : Vars w) (o : Obj) : Vars (w.alloc o) := h.below ((Below.refl _ _).alloc (Nat.le_refl _) _)

theorem run_str {P : Program} (w : World) (src e dst : TypeId) (hs : P.underlying src = some (.slice e)) (he : P.underlying e = some (.int .u8)) (hd : P.underlying dst = some .string)
    (A : Option Addr) (n c : Nat) (l : List Int) (h : Ints .u8 w A n l) : (convert src dst (.slice A n c)).run P w = .ok (.string (strOfNums l)) w := by
  rcases A with _ | ad
  · have hl : l = [] := by
      rcases Nat.eq_zero_or_pos n with h0 | h0
      · exact List.eq_nil_of_length_eq_zero (by rw [h.len, h0])
      · obtain ⟨ad, h1, _⟩ := h.at_ h0; cases h1
    subst hl
    exact run_convert_bytes_nil w src e hs he n c dst hd
  · have hl : (loadCells ad n).run P w = .ok (l.map (Value.int .u8)).toArray w := by
      have := run_loadCells_list (P := P) w ad (l.map (Value.int .u8)) (fun j v hj => by
        have hjl : j < l.length := by have := (List.getElem?_eq_some_iff.1 hj).1; simpa using this
        obtain ⟨ad', h1, _, x, h3, h4⟩ := h.at_ (k := j) (by rw [← h.len]; exact hjl)
        injection h1 with h1
        subst h1
        rw [h4]
        simp [h3] at hj
        rw [hj])
      simpa [h.len] using this
    rw [run_convert_bytes_string w src dst e _ n c hs he hd, run_bytesToString w _ n c l hl, foldl_push_bytes]
    simp [strOfNums, ByteArray.empty, ByteArray.emptyWithCapacity]
    rfl

theorem Ints.lit8 (w : World) (e : TypeId) (l : List Int) : Ints .u8 (w.alloc (.cells (iv .u8 l).toArray e)) (some ⟨w.heap.size, 0, none⟩) l.length l := by
  have := Reads.box (size := 1) w e (iv .u8 l).toArray l.length (by simp [iv])
  exact Reads.more this (by simp)
/-- A literal of ints in a new block. -/
theorem Ints.lit (w : World) (e : TypeId) (l : List Int) : Ints .i64 (w.alloc (.cells (iv .i64 l).toArray e)) (some ⟨w.heap.size, 0, none⟩) l.length l := by
  have := Reads.box (size := 1) w e (iv .i64 l).toArray l.length (by simp [iv])
  exact Reads.more this (by simp)
/-- A Go string with these bytes. -/
abbrev str (l : List UInt8) : Value := .string ⟨l.toArray⟩

theorem itoa_any (n : Int) (w : World) (h0 : -9223372036854775808 ≤ n) (h1 : n ≤ 9223372036854775807) (hV : Vars w) :
    Calls Tryd.prog 21 #[.int .i64 n] w fun e w' => e = .returned (str (Lib.itoa n)) ∧ Below w.heap.size w w' :=
  (Tryd.strconv_Itoa n h0 h1 w hV.1).mono fun _ _ ⟨he, k, os, hw⟩ => ⟨he, hw ▸ Lib.below_grow _ w (Nat.le_refl _) k os⟩

/-- The cells of a list of strings. -/
def sv (l : List (List UInt8)) : List Value := l.map str
theorem sv_length (l : List (List UInt8)) : (sv l).length = l.length := by simp [sv]

/-- Strings as the library's contracts take them. -/
def bs (l : List (List UInt8)) : List ByteArray := l.map fun t => ⟨t.toArray⟩
theorem bs_data (l : List (List UInt8)) : (bs l).map (·.data.toList) = l := by simp [bs, Function.comp_def]
theorem bs_length (l : List (List UInt8)) : (bs l).length = l.length := by simp [bs]
theorem bs_at {l : List (List UInt8)} {j : Nat} {x : ByteArray} (h : (bs l)[j]? = some x) : j < l.length ∧ (sv l)[j]? = some (.string x) := by
  refine ⟨by have := (List.getElem?_eq_some_iff.1 h).1; rwa [bs_length] at this, ?_⟩
  simp only [bs, List.getElem?_map, Option.map_eq_some_iff] at h
  obtain ⟨a, ha, rfl⟩ := h
  simp [sv, ha]

/-- The strings laid so far, then empty ones. -/
def strTo (ts : List (List UInt8)) (n k : Nat) : List Value := sv (ts.take k) ++ List.replicate (n - k) (.string ByteArray.empty)
theorem strTo_zero (ts : List (List UInt8)) (n : Nat) : strTo ts n 0 = List.replicate n (.string ByteArray.empty) := by simp [strTo, sv]
theorem strTo_full (ts : List (List UInt8)) (n : Nat) (h : ts.length = n) : strTo ts n n = sv ts := by simp [strTo, ← h]
theorem strTo_length (ts : List (List UInt8)) (n k : Nat) (h : ts.length = n) (hk : k ≤ n) : (strTo ts n k).length = n := by simp [strTo, sv]; omega
theorem strTo_set (ts : List (List UInt8)) (n k : Nat) (h : ts.length = n) (hk : k < n) (t : List UInt8) (ht : ts[k]? = some t) : (strTo ts n k).set k (str t) = strTo ts n (k + 1) := by
  obtain ⟨m, hm⟩ : ∃ m, n - k = m + 1 := ⟨n - k - 1, by omega⟩
  have e : n - (k + 1) = m := by omega
  unfold strTo
  rw [hm, e, List.set_append_right _ _ (by simp [sv]; omega)]
  have hl : (sv (ts.take k)).length = k := by simp [sv]; omega
  rw [hl, Nat.sub_self, List.replicate_succ, List.set_cons_zero, List.take_add_one, ht]
  simp [sv]
theorem strTo_get (ts : List (List UInt8)) (n k : Nat) (h : ts.length = n) (hk : k < n) : (strTo ts n k)[k]? = some (.string ByteArray.empty) := by
  unfold strTo
  rw [List.getElem?_append_right (by simp [sv]; omega)]
  have hl : (sv (ts.take k)).length = k := by simp [sv]; omega
  rw [hl, Nat.sub_self, List.getElem?_replicate_of_lt (by omega)]

theorem ba_eq {a b : ByteArray} (h : a.data.toList = b.data.toList) : a = b := by
  cases a; cases b
  simp only [ByteArray.mk.injEq]
  exact Array.toList_inj.1 h
theorem toList_eq (s : ByteArray) : s.toList = s.data.toList := by simp [ByteArray.toList_eq]
theorem toList_ne_lit {s : ByteArray} {l : List UInt8} (h : s ≠ ⟨l.toArray⟩) : (s.toList == l) = false := by
  rw [beq_eq_false_iff_ne, toList_eq]
  intro e
  exact h (ba_eq (by simpa using e))
theorem ba_mk (s : ByteArray) : (⟨s.data.toList.toArray⟩ : ByteArray) = s := by cases s; simp

theorem atoi_range {t : List UInt8} {v : Int} (h : Lib.atoiAll t = .ok v) : -9223372036854775808 ≤ v ∧ v ≤ 9223372036854775807 := by
  unfold Lib.atoiAll at h
  split at h
  · cases h
  · simp only [] at h
    split at h
    · cases h
    · cases h
    · split at h
      · cases h
      · split at h
        · cases h
        · injection h with h
          subst h
          split <;> omega
theorem atoi_ok_any (s : ByteArray) (w : World) (v : Int) (hs : s.size ≤ 1000000) (h : Lib.atoiAll s.data.toList = .ok v) :
    Calls Tryd.prog 42 #[.string s] w fun e w' => e = .returned (.tuple #[.int .i64 v, .nilIface]) ∧ Below w.heap.size w w' := by
  refine (Tryd.strconv_Atoi_ok s (by omega) v h w).mono ?_
  rintro e w' ⟨he, h⟩
  refine ⟨he, ?_⟩
  rcases h with rfl | ⟨t, rfl⟩
  · exact Below.refl _ _
  · exact Lib.bytesWorld_below w _ t

theorem atoi_any (s : ByteArray) (w : World) (hs : s.size ≤ 1000000) (hV : Vars w) :
    Calls Tryd.prog 42 #[.string s] w fun e w' => ((∃ v, Hid (Lib.atoiAll s.data.toList = .ok v) ∧ e = .returned (.tuple #[.int .i64 v, .nilIface])) ∨ (∃ v tp p, Hid (∀ k, Lib.atoiAll s.data.toList ≠ .ok k) ∧ e = .returned (.tuple #[.int .i64 v, .iface tp p]))) ∧ Below w.heap.size w w' := by
  obtain ⟨_, ⟨t1, p1, h1⟩, ⟨t2, p2, h2⟩⟩ := hV
  cases hat : Lib.atoiAll s.data.toList with
  | ok v => exact (atoi_ok_any s w v hs hat).mono fun _ _ ⟨he, hb⟩ => ⟨.inl ⟨v, Lib.hid rfl, he⟩, hb⟩
  | range => exact (Tryd.strconv_Atoi_range_var s (by omega) hat t2 p2 w h2).mono fun _ _ ⟨N, he, _, _, hb⟩ => ⟨.inr ⟨_, _, _, Lib.hid (fun k hk => (by cases hk)), he⟩, hb⟩
  | _ => exact (Tryd.strconv_Atoi_syntax_var s (by omega) ⟨fun v hv => (by rw [hat] at hv; cases hv), fun hv => (by rw [hat] at hv; cases hv)⟩ t1 p1 w h1).mono fun _ _ ⟨N, he, _, _, hb⟩ => ⟨.inr ⟨_, _, _, Lib.hid (fun k hk => (by cases hk)), he⟩, hb⟩

theorem drop_at {s : ByteArray} {k : Nat} (h : k < s.size) : s.data.toList.drop k = s[k] :: s.data.toList.drop (k + 1) := by
  rw [List.drop_eq_getElem_cons (by simpa using h)]; rfl
theorem drop_end {s : ByteArray} {k : Nat} (h : s.size ≤ k) : s.data.toList.drop k = [] := List.drop_of_length_le (by simpa using h)

theorem ba_append (a b : ByteArray) : (a ++ b).data.toList = a.data.toList ++ b.data.toList := by simp [ByteArray.data_append]

theorem size_mk (l : List UInt8) : (⟨l.toArray⟩ : ByteArray).size = l.length := by simp [ByteArray.size]

end Go.Proofs.YtgpkcooipadnpaaDoor
