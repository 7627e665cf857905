/-
  The law's examples of the chapter hold: lives returns true.
-/
import Derived.Test.YtkanbechahhmkaaDoorWordsJ
namespace Go.Proofs.YtkanbechahhmkaaDoor
set_option linter.unusedSimpArgs false
set_option linter.unusedVariables false
open Go.RowKit
set_option maxRecDepth 100000

theorem run_str {P : Program} (w : World) (src e dst : TypeId) (hs : P.underlying src = some (.slice e)) (he : P.underlying e = some (.int .u8)) (hd : P.underlying dst = some .string)
    (A : Option Addr) (n c : Nat) (l : List Int) (h : Ints .u8 w A n l) : (convert src dst (.slice A n c)).run P w = .ok (.string (strOfNums l)) w := by
  rcases A with _ | ad
  · have hl : l = [] := by
      rcases Nat.eq_zero_or_pos n with h0 | h0
      · exact List.eq_nil_of_length_eq_zero (by rw [h.len, h0])
      · obtain ⟨ad, h1, _⟩ := h.at_ h0; cases h1
    subst hl
    exact run_convert_bytes_nil w src e hs he n c dst hd
  · have hl : (loadCells ad n).run P w = .ok (l.map (Value.int .u8)).toArray w := by
      have := run_loadCells_list (P := P) w ad (l.map (Value.int .u8)) (fun j v hj => by
        have hjl : j < l.length := by have := (List.getElem?_eq_some_iff.1 hj).1; simpa using this
        obtain ⟨ad', h1, _, x, h3, h4⟩ := h.at_ (k := j) (by rw [← h.len]; exact hjl)
        injection h1 with h1
        subst h1
        rw [h4]
        simp [h3] at hj
        rw [hj])
      simpa [h.len] using this
    rw [run_convert_bytes_string w src dst e _ n c hs he hd, run_bytesToString w _ n c l hl, foldl_push_bytes]
    simp [strOfNums, ByteArray.empty, ByteArray.emptyWithCapacity]
    rfl

/-- A literal of ints in a new block. -/
theorem Ints.lit (w : World) (e : TypeId) (l : List Int) : Ints .i64 (w.alloc (.cells (iv .i64 l).toArray e)) (some ⟨w.heap.size, 0, none⟩) l.length l := by
  have := Reads.box (size := 1) w e (iv .i64 l).toArray l.length (by simp [iv])
  exact Reads.more this (by simp)
theorem Below.call {w w' : World} (o : Obj) (h : Below (w.alloc o).heap.size (w.alloc o) w') : Below w.heap.size w w' :=
  ((Below.refl _ w).alloc (Nat.le_refl _) o).trans (h.mono (by simp))

theorem same_eq (A B : Option Addr) (n m c d : Nat) (xs ys : List Int) (w : World) (ha : Ints .i64 w A n xs) (hb : Ints .i64 w B m ys) (hx : n < 1000000000) (he : xs = ys) :
    Calls Tryd.prog 9 #[.slice A n c, .slice B m d] w fun e w' => e = .returned (.bool true) ∧ Below w.heap.size w w' :=
  (same_any A B n m c d xs ys w ha hb hx).mono fun e w' ⟨h1, q, h2⟩ => ⟨by rw [h1, decide_eq_true he], by rw [h2]; exact below_drewN (Below.refl _ _) q⟩
theorem all_eq (A B : Option Addr) (n m c d : Nat) (xs ys : List (List Int)) (w : World) (ha : Grid .i64 w A n xs) (hb : Grid .i64 w B m ys) (hx : n < 1000000000) (hsz : ∀ l ∈ xs, l.length < 1000000000) (he : xs = ys) :
    Calls Tryd.prog 20 #[.slice A n c, .slice B m d] w fun e w' => e = .returned (.bool true) ∧ Below w.heap.size w w' :=
  (all_any A B n m c d xs ys w ha hb hx hsz).mono fun e w' ⟨h1, q, h2⟩ => ⟨by rw [h1, decide_eq_true he], by rw [h2]; exact below_drewN (Below.refl _ _) q⟩

theorem actStep_bound {ls : List (List Int)} {N : Nat} (h : ∀ l ∈ ls, l.length ≤ N) (k : Int) : ∀ l ∈ actStep ls k, l.length ≤ 3 * N := by
  have hg : ∀ i, (ls.getD i []).length ≤ N := by
    intro i
    rw [List.getD_eq_getElem?_getD]
    rcases hi : ls[i]? with _ | l
    · simp
    · exact h l (List.mem_of_getElem? hi)
  have hinv : ∀ i, (inv (ls.getD i [])).length ≤ N := fun i => by simpa [inv] using hg i
  have hw : ∀ l ∈ ls, l.length ≤ 3 * N := fun l hl => by have := h l hl; omega
  intro l hl
  unfold actStep at hl
  split at hl
  · refine mem_set_of (p := fun l => l.length ≤ 3 * N) (fun z hz => mem_set_of (p := fun l => l.length ≤ 3 * N) hw ?_ hz) ?_ hl
    · have h1 := joinL_length (joinL (ls.getD (k.toNat - 1) []) (ls.getD k.toNat [])) (inv (ls.getD (k.toNat - 1) []))
      have h2 := joinL_length (ls.getD (k.toNat - 1) []) (ls.getD k.toNat [])
      have := hg (k.toNat - 1); have := hg k.toNat; have := hinv (k.toNat - 1)
      omega
    · have := hg (k.toNat - 1); omega
  · refine mem_set_of (p := fun l => l.length ≤ 3 * N) (fun z hz => mem_set_of (p := fun l => l.length ≤ 3 * N) hw ?_ hz) ?_ hl
    · have := hg (-k).toNat; omega
    · have h1 := joinL_length (joinL (inv (ls.getD (-k).toNat [])) (ls.getD ((-k).toNat - 1) [])) (ls.getD (-k).toNat [])
      have h2 := joinL_length (inv (ls.getD (-k).toNat [])) (ls.getD ((-k).toNat - 1) [])
      have := hg ((-k).toNat - 1); have := hg (-k).toNat; have := hinv (-k).toNat
      omega
theorem actL_bound (n : Nat) (l : List Int) : ∀ r ∈ actL n l, r.length ≤ 3 ^ l.length := by
  have key : ∀ (l : List Int) (g : List (List Int)) (N : Nat), (∀ r ∈ g, r.length ≤ N) → ∀ r ∈ l.foldl actStep g, r.length ≤ N * 3 ^ l.length := by
    intro l
    induction l with
    | nil => intro g N hg r hr; simpa using hg r hr
    | cons x l ih =>
      intro g N hg r hr
      have := ih (actStep g x) (3 * N) (actStep_bound hg x) r hr
      rw [List.length_cons, Nat.pow_succ]
      calc r.length ≤ 3 * N * 3 ^ l.length := this
        _ = N * (3 ^ l.length * 3) := by rw [Nat.mul_comm 3 N, Nat.mul_assoc, Nat.mul_comm 3]
  intro r hr
  have := key l (gens n) 1 (fun r hr => by
    simp only [gens, List.mem_map] at hr
    obtain ⟨i, _, rfl⟩ := hr
    simp) r hr
  simpa using this
theorem actOk_short (n : Nat) (l : List Int) (h : l.length ≤ 11) : ActOk n l := by
  intro k hk r hr
  have h1 := actL_bound n (l.take k) r hr
  have h2 : 3 ^ (l.take k).length ≤ 3 ^ 11 := Nat.pow_le_pow_right (by omega) (by rw [List.length_take]; omega)
  have h3 : (3 : Nat) ^ 11 = 177147 := by decide
  omega

theorem Ints.lit1 {w : World} {e : TypeId} {l : List Int} {g : Nat} (hg : g = w.heap.size) : Ints .i64 (w.alloc (.cells (iv .i64 l).toArray e)) (some ⟨g, 0, none⟩) l.length l := by
  subst hg; exact Ints.lit w e l
theorem RowIs.lit {kd : IntKind} {w : World} {r : Option Addr} {n : Nat} {l : List Int} (h : Ints kd w r n l) (hn : n ≤ 9223372036854775807) : RowIs kd w (.slice r n n) l := ⟨r, n, n, rfl, Nat.le_refl _, hn, h⟩
theorem grid_lit2 (w : World) (e t : TypeId) (l1 l2 : List Int) (h1 : l1.length ≤ 100) (h2 : l2.length ≤ 100) :
    Grid .i64 (((w.alloc (.cells (iv .i64 l1).toArray e)).alloc (.cells (iv .i64 l2).toArray e)).alloc (.cells #[.slice (some ⟨w.heap.size, 0, none⟩) l1.length l1.length, .slice (some ⟨w.heap.size + 1, 0, none⟩) l2.length l2.length] t)) (some ⟨w.heap.size + 2, 0, none⟩) 2 [l1, l2] := by
  have i1 := ((Ints.lit w e l1).alloc (.cells (iv .i64 l2).toArray e)).alloc (.cells #[.slice (some ⟨w.heap.size, 0, none⟩) l1.length l1.length, .slice (some ⟨w.heap.size + 1, 0, none⟩) l2.length l2.length] t)
  have i2 := (Ints.lit1 (w := w.alloc (.cells (iv .i64 l1).toArray e)) (e := e) (l := l2) (g := w.heap.size + 1) (by simp)).alloc (.cells #[.slice (some ⟨w.heap.size, 0, none⟩) l1.length l1.length, .slice (some ⟨w.heap.size + 1, 0, none⟩) l2.length l2.length] t)
  refine ⟨([] ++ [.slice (some ⟨w.heap.size, 0, none⟩) l1.length l1.length]) ++ [.slice (some ⟨w.heap.size + 1, 0, none⟩) l2.length l2.length], ?_, (RowsOf.nil_.snoc (RowIs.lit i1 (by omega))).snoc (RowIs.lit i2 (by omega))⟩
  have := Reads.box (size := 1) ((w.alloc (.cells (iv .i64 l1).toArray e)).alloc (.cells (iv .i64 l2).toArray e)) t #[.slice (some ⟨w.heap.size, 0, none⟩) l1.length l1.length, .slice (some ⟨w.heap.size + 1, 0, none⟩) l2.length l2.length] 2 (by simp)
  simpa using this
theorem grid_lit3 (w : World) (e t : TypeId) (l1 l2 l3 : List Int) (h1 : l1.length ≤ 100) (h2 : l2.length ≤ 100) (h3 : l3.length ≤ 100) :
    Grid .i64 ((((w.alloc (.cells (iv .i64 l1).toArray e)).alloc (.cells (iv .i64 l2).toArray e)).alloc (.cells (iv .i64 l3).toArray e)).alloc (.cells #[.slice (some ⟨w.heap.size, 0, none⟩) l1.length l1.length, .slice (some ⟨w.heap.size + 1, 0, none⟩) l2.length l2.length, .slice (some ⟨w.heap.size + 2, 0, none⟩) l3.length l3.length] t)) (some ⟨w.heap.size + 3, 0, none⟩) 3 [l1, l2, l3] := by
  generalize hX : Obj.cells #[.slice (some ⟨w.heap.size, 0, none⟩) l1.length l1.length, .slice (some ⟨w.heap.size + 1, 0, none⟩) l2.length l2.length, .slice (some ⟨w.heap.size + 2, 0, none⟩) l3.length l3.length] t = X
  have i1 := (((Ints.lit w e l1).alloc (.cells (iv .i64 l2).toArray e)).alloc (.cells (iv .i64 l3).toArray e)).alloc X
  have i2 := ((Ints.lit1 (w := w.alloc (.cells (iv .i64 l1).toArray e)) (e := e) (l := l2) (g := w.heap.size + 1) (by simp)).alloc (.cells (iv .i64 l3).toArray e)).alloc X
  have i3 := (Ints.lit1 (w := (w.alloc (.cells (iv .i64 l1).toArray e)).alloc (.cells (iv .i64 l2).toArray e)) (e := e) (l := l3) (g := w.heap.size + 2) (by simp)).alloc X
  refine ⟨(([] ++ [.slice (some ⟨w.heap.size, 0, none⟩) l1.length l1.length]) ++ [.slice (some ⟨w.heap.size + 1, 0, none⟩) l2.length l2.length]) ++ [.slice (some ⟨w.heap.size + 2, 0, none⟩) l3.length l3.length], ?_, ((RowsOf.nil_.snoc (RowIs.lit i1 (by omega))).snoc (RowIs.lit i2 (by omega))).snoc (RowIs.lit i3 (by omega))⟩
  have := Reads.box (size := 1) (((w.alloc (.cells (iv .i64 l1).toArray e)).alloc (.cells (iv .i64 l2).toArray e)).alloc (.cells (iv .i64 l3).toArray e)) t #[.slice (some ⟨w.heap.size, 0, none⟩) l1.length l1.length, .slice (some ⟨w.heap.size + 1, 0, none⟩) l2.length l2.length, .slice (some ⟨w.heap.size + 2, 0, none⟩) l3.length l3.length] 3 (by simp)
  rw [hX] at this
  simpa using this
theorem Below.call3 {w w' : World} (o1 o2 o3 : Obj) (h : Below (((w.alloc o1).alloc o2).alloc o3).heap.size (((w.alloc o1).alloc o2).alloc o3) w') : Below w.heap.size w w' := Below.call o1 (Below.call o2 (Below.call o3 h))
theorem Below.call4 {w w' : World} (o1 o2 o3 o4 : Obj) (h : Below ((((w.alloc o1).alloc o2).alloc o3).alloc o4).heap.size ((((w.alloc o1).alloc o2).alloc o3).alloc o4) w') : Below w.heap.size w w' := Below.call o1 (Below.call3 o2 o3 o4 h)

set_option maxRecDepth 100000 in
set_option maxHeartbeats 4000000 in
theorem lives_any (w : World) : Calls Tryd.prog 5 #[] w fun e w' => e = .returned (.bool true) ∧ Below w.heap.size w w' := by
  have hstr := fun W A n c l h => run_str (P := Tryd.prog) W 22 5 9 Tryd.underlying22 Tryd.underlying5 Tryd.underlying9 A n c l h
  have HSTR := Lib.hid hstr
  clear hstr
  go_enter Tryd.func5, Tryd.ntmps5
  -- Reduce
  go_wp2_with fail
  refine (reduce_any 3 _ 5 _ [1, 2, -2, -1, 2] _ (Ints.lit w 3 [1, 2, -2, -1, 2]) (by omega) (by omega) (by omega) (by omega) ⟨by decide, by decide⟩).mono ?_
  rintro e w1 ⟨Aa, ka, rfl, ha, hca⟩
  have hb1 := Below.call _ hca
  clear hca
  have hB := hb1
  clear hb1
  -- Inverse
  go_wp2_with fail
  refine (inverseW_any 3 _ 2 _ [1, -2] _ (Ints.lit w1 3 [1, -2]) (by omega) (by omega) ⟨by decide, by decide⟩).mono ?_
  rintro e w2 ⟨Ab, rfl, hob, hcb⟩
  have hb := hob.ints
  clear hob
  have hb2 := Below.call _ hcb
  clear hcb
  replace ha := ha.below hb2
  replace hB := hB.trans (hb2.mono hB.size)
  clear hb2
  -- Permutation
  go_wp2_with fail
  refine (permutation_any 3 _ 2 _ [1, 2] _ (Ints.lit w2 3 [1, 2]) (by omega) (by omega) ⟨by decide, by decide⟩).mono ?_
  rintro e w3 ⟨Ac, rfl, hc, hcc⟩
  have hb3 := Below.call _ hcc
  clear hcc
  replace ha := ha.below hb3
  replace hb := hb.below hb3
  replace hB := hB.trans (hb3.mono hB.size)
  clear hb3
  -- Links
  go_wp2_with fail
  refine (links_any 3 _ 3 _ [1, 1, 2] _ (Ints.lit w3 3 [1, 1, 2]) (by omega) (by omega) ⟨by decide, by decide⟩).mono ?_
  rintro e w4 ⟨Ad, rfl, hd, -, hcd⟩
  have hb4 := Below.call _ hcd
  clear hcd
  replace ha := ha.below hb4
  replace hb := hb.below hb4
  replace hc := hc.below hb4
  replace hB := hB.trans (hb4.mono hB.size)
  clear hb4
  -- Act
  go_wp2_with fail
  refine (act_any 2 _ 1 _ [1] _ (Ints.lit w4 3 [1]) (by decide) (by omega) (by omega) (by omega) ⟨by decide, by decide⟩ (actOk_short _ _ (by decide))).mono ?_
  rintro e w5 ⟨Ae, vse, rfl, hre, hoe, -, hce⟩
  have he : Grid .i64 w5 Ae 2 (actL 2 [1]) := ⟨vse, hre, hoe⟩
  clear hre hoe
  have hb5 := Below.call _ hce
  clear hce
  replace ha := ha.below hb5
  replace hb := hb.below hb5
  replace hc := hc.below hb5
  replace hd := hd.below hb5
  replace hB := hB.trans (hb5.mono hB.size)
  clear hb5
  -- Act
  go_wp2_with fail
  refine (act_any 2 _ 1 _ [-1] _ (Ints.lit w5 3 [-1]) (by decide) (by omega) (by omega) (by omega) ⟨by decide, by decide⟩ (actOk_short _ _ (by decide))).mono ?_
  rintro e w6 ⟨Af, vsf, rfl, hrf, hof, -, hcf⟩
  have hf : Grid .i64 w6 Af 2 (actL 2 [-1]) := ⟨vsf, hrf, hof⟩
  clear hrf hof
  have hb6 := Below.call _ hcf
  clear hcf
  replace ha := ha.below hb6
  replace hb := hb.below hb6
  replace hc := hc.below hb6
  replace hd := hd.below hb6
  replace he := he.below hb6
  replace hB := hB.trans (hb6.mono hB.size)
  clear hb6
  -- Act
  go_wp2_with fail
  refine (act_any 3 _ 3 _ [1, 2, 1] _ (Ints.lit w6 3 [1, 2, 1]) (by decide) (by omega) (by omega) (by omega) ⟨by decide, by decide⟩ (actOk_short _ _ (by decide))).mono ?_
  rintro e w7 ⟨Ag, vsg, rfl, hrg, hog, -, hcg⟩
  have hg : Grid .i64 w7 Ag 3 (actL 3 [1, 2, 1]) := ⟨vsg, hrg, hog⟩
  clear hrg hog
  have hb7 := Below.call _ hcg
  clear hcg
  replace ha := ha.below hb7
  replace hb := hb.below hb7
  replace hc := hc.below hb7
  replace hd := hd.below hb7
  replace he := he.below hb7
  replace hf := hf.below hb7
  replace hB := hB.trans (hb7.mono hB.size)
  clear hb7
  -- Act
  go_wp2_with fail
  refine (act_any 3 _ 3 _ [2, 1, 2] _ (Ints.lit w7 3 [2, 1, 2]) (by decide) (by omega) (by omega) (by omega) ⟨by decide, by decide⟩ (actOk_short _ _ (by decide))).mono ?_
  rintro e w8 ⟨Ah, vsh, rfl, hrh, hoh, -, hch⟩
  have hh : Grid .i64 w8 Ah 3 (actL 3 [2, 1, 2]) := ⟨vsh, hrh, hoh⟩
  clear hrh hoh
  have hb8 := Below.call _ hch
  clear hch
  replace ha := ha.below hb8
  replace hb := hb.below hb8
  replace hc := hc.below hb8
  replace hd := hd.below hb8
  replace he := he.below hb8
  replace hf := hf.below hb8
  replace hg := hg.below hb8
  replace hB := hB.trans (hb8.mono hB.size)
  clear hb8
  -- Flip
  go_wp2_with fail
  refine (flipW_any 4 _ 2 _ [1, -3] _ (Ints.lit w8 3 [1, -3]) (by omega) (by omega) ⟨by decide, by decide⟩).mono ?_
  rintro e w9 ⟨Ai, rfl, hoi, hci⟩
  have hi := hoi.ints
  clear hoi
  have hb9 := Below.call _ hci
  clear hci
  replace ha := ha.below hb9
  replace hb := hb.below hb9
  replace hc := hc.below hb9
  replace hd := hd.below hb9
  replace he := he.below hb9
  replace hf := hf.below hb9
  replace hg := hg.below hb9
  replace hh := hh.below hb9
  replace hB := hB.trans (hb9.mono hB.size)
  clear hb9
  -- Mirror
  go_wp2_with fail
  refine (mirrorW_any 4 _ 2 _ [1, -3] _ (Ints.lit w9 3 [1, -3]) (by omega) (by omega) ⟨by decide, by decide⟩).mono ?_
  rintro e w10 ⟨Aj, rfl, hoj, hcj⟩
  have hj := hoj.ints
  clear hoj
  have hb10 := Below.call _ hcj
  clear hcj
  replace ha := ha.below hb10
  replace hb := hb.below hb10
  replace hc := hc.below hb10
  replace hd := hd.below hb10
  replace he := he.below hb10
  replace hf := hf.below hb10
  replace hg := hg.below hb10
  replace hh := hh.below hb10
  replace hi := hi.below hb10
  replace hB := hB.trans (hb10.mono hB.size)
  clear hb10
  have hka : ka = 1 := by have := ha.len; rw [show reduceL [1, 2, -2, -1, 2] = [2] by decide] at this; simpa using this.symm
  subst hka
  go_wp2_with fail
  refine (same_eq Aa _ 1 1 _ _ _ [2] _ (ha.alloc _) (Ints.lit w10 3 [2]) (by omega) (by decide)).mono ?_
  rintro e w11 ⟨rfl, hq⟩
  have hBel := Below.call _ hq
  clear hq
  replace hb := hb.below hBel
  replace hc := hc.below hBel
  replace hd := hd.below hBel
  replace he := he.below hBel
  replace hf := hf.below hBel
  replace hg := hg.below hBel
  replace hh := hh.below hBel
  replace hi := hi.below hBel
  replace hj := hj.below hBel
  replace hB := hB.trans (hBel.mono hB.size)
  clear hBel
  go_wp2_with fail
  refine (same_eq Ab _ 2 2 _ _ _ [2, -1] _ (hb.alloc _) (Ints.lit w11 3 [2, -1]) (by omega) (by decide)).mono ?_
  rintro e w12 ⟨rfl, hq⟩
  have hBel := Below.call _ hq
  clear hq
  replace hc := hc.below hBel
  replace hd := hd.below hBel
  replace he := he.below hBel
  replace hf := hf.below hBel
  replace hg := hg.below hBel
  replace hh := hh.below hBel
  replace hi := hi.below hBel
  replace hj := hj.below hBel
  replace hB := hB.trans (hBel.mono hB.size)
  clear hBel
  have hcs := HSTR.out w12 Ac 3 3 _ hc
  rw [show strOfNums (permL 3 [1, 2]) = ⟨#[3, 1, 2]⟩ by decide] at hcs
  clear hc
  go_wp2_with fail
  clear hcs
  refine (all_eq Ad _ 3 3 _ _ _ [[0, 2, 0], [2, 0, 1], [0, 1, 0]] _ ((((hd.alloc _).alloc _).alloc _).alloc _) (grid_lit3 w12 3 25 [0, 2, 0] [2, 0, 1] [0, 1, 0] (by decide) (by decide) (by decide)) (by omega) (by decide) (by decide)).mono ?_
  rintro e w13 ⟨rfl, hq⟩
  have hBel := Below.call4 _ _ _ _  hq
  clear hq
  replace he := he.below hBel
  replace hf := hf.below hBel
  replace hg := hg.below hBel
  replace hh := hh.below hBel
  replace hi := hi.below hBel
  replace hj := hj.below hBel
  replace hB := hB.trans (hBel.mono hB.size)
  clear hBel
  go_wp2_with fail
  refine (all_eq Ae _ 2 2 _ _ _ [[1, 2, -1], [1]] _ (((he.alloc _).alloc _).alloc _) (grid_lit2 w13 3 25 [1, 2, -1] [1] (by decide) (by decide)) (by omega) (by decide) (by decide)).mono ?_
  rintro e w14 ⟨rfl, hq⟩
  have hBel := Below.call3 _ _ _  hq
  clear hq
  replace hf := hf.below hBel
  replace hg := hg.below hBel
  replace hh := hh.below hBel
  replace hi := hi.below hBel
  replace hj := hj.below hBel
  replace hB := hB.trans (hBel.mono hB.size)
  clear hBel
  go_wp2_with fail
  refine (all_eq Af _ 2 2 _ _ _ [[2], [-2, 1, 2]] _ (((hf.alloc _).alloc _).alloc _) (grid_lit2 w14 3 25 [2] [-2, 1, 2] (by decide) (by decide)) (by omega) (by decide) (by decide)).mono ?_
  rintro e w15 ⟨rfl, hq⟩
  have hBel := Below.call3 _ _ _  hq
  clear hq
  replace hg := hg.below hBel
  replace hh := hh.below hBel
  replace hi := hi.below hBel
  replace hj := hj.below hBel
  replace hB := hB.trans (hBel.mono hB.size)
  clear hBel
  go_wp2_with fail
  refine (all_eq Ag _ 3 3 _ _ _ [[1, 2, 3, -2, -1], [1, 2, -1], [1]] _ ((((hg.alloc _).alloc _).alloc _).alloc _) (grid_lit3 w15 3 25 [1, 2, 3, -2, -1] [1, 2, -1] [1] (by decide) (by decide) (by decide)) (by omega) (by decide) (by decide)).mono ?_
  rintro e w16 ⟨rfl, hq⟩
  have hBel := Below.call4 _ _ _ _  hq
  clear hq
  replace hg := hg.below hBel
  replace hh := hh.below hBel
  replace hi := hi.below hBel
  replace hj := hj.below hBel
  replace hB := hB.trans (hBel.mono hB.size)
  clear hBel
  go_wp2_with fail
  refine (all_eq Ah Ag 3 3 _ _ _ _ _ hh hg (by omega) (by decide) (by decide)).mono ?_
  rintro e w17 ⟨rfl, hq⟩
  have hBel := id hq
  clear hq
  replace hi := hi.below hBel
  replace hj := hj.below hBel
  replace hB := hB.trans (hBel.mono hB.size)
  clear hBel
  go_wp2_with fail
  refine (same_eq Ai _ 2 2 _ _ _ [3, -1] _ (hi.alloc _) (Ints.lit w17 3 [3, -1]) (by omega) (by decide)).mono ?_
  rintro e w18 ⟨rfl, hq⟩
  have hBel := Below.call _ hq
  clear hq
  replace hj := hj.below hBel
  replace hB := hB.trans (hBel.mono hB.size)
  clear hBel
  go_wp2_with fail
  refine (same_eq Aj _ 2 2 _ _ _ [-1, 3] _ (hj.alloc _) (Ints.lit w18 3 [-1, 3]) (by omega) (by decide)).mono ?_
  rintro e w19 ⟨rfl, hq⟩
  have hBel := Below.call _ hq
  clear hq
  replace hB := hB.trans (hBel.mono hB.size)
  clear hBel
  go_wp2
  go_ret
  exact ⟨rfl, hB⟩

end Go.Proofs.YtkanbechahhmkaaDoor
