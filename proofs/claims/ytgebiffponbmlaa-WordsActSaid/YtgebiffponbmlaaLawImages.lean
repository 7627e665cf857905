/-
  The law WordsImages, walked: it returns true for every number and every slice of numbers. No conditions beyond what the row's reading gives.
-/
import Derived.Test.YtgebiffponbmlaaPlainC
import Derived.Test.YtgebiffponbmlaaLawReduce
namespace Go.Proofs.Ytgebiffponbmlaa
open Go.RowKit

/-- The value is no slice in that block. -/
def Off (g : Option Nat) (v : Value) : Prop := ∀ ad m c, v = .slice (some ad) m c → some ad.block ≠ g
theorem RowIs.grown {kd : IntKind} {w w' : World} {v : Value} {l : List Int} {row : Option Nat} (h : RowIs kd w v l) (hg : w.grownBy w' row) (ho : Off row v) : RowIs kd w' v l := by
  obtain ⟨r, m, c, rfl, h2, h3, h4⟩ := h
  refine ⟨r, m, c, rfl, h2, h3, ?_⟩
  have h5 : Reads w' w.heap.size 1 r m (iv kd l) := by
    refine ⟨h4.1, fun hn => ?_⟩
    obtain ⟨ad, rfl, hb, hc⟩ := h4.2 hn
    refine ⟨ad, rfl, hb, fun j u hu => ?_⟩
    rw [World.cell?_of_block (w := w) (a := ad.add j) (by rw [block_of_add]; exact hg.block _ hb (ho ad m c rfl))]
    exact hc j u hu
  exact h5.more hg.size
theorem RowsOf.grown {kd : IntKind} {w w' : World} {vs : List Value} {ls : List (List Int)} {row : Option Nat} (h : RowsOf kd w vs ls) (hg : w.grownBy w' row) (ho : ∀ v ∈ vs, Off row v) : RowsOf kd w' vs ls :=
  ⟨h.1, fun k v l h1 h2 => (h.2 k v l h1 h2).grown hg (ho v (List.mem_of_getElem? h1))⟩
/-- All slices lie below B. -/
def Low (B : Nat) (v : Value) : Prop := ∀ ad m c, v = .slice (some ad) m c → ad.block < B
theorem Low.mono {B B' : Nat} {v : Value} (h : Low B v) (hb : B ≤ B') : Low B' v := fun ad m c e => Nat.lt_of_lt_of_le (h ad m c e) hb
theorem off_next {g g' : Option Nat} {B : Nat} {v : Value} (h : Off g v) (hl : Low B v) (hg : g' = g ∨ g' = some B) : Off g' v := by
  rcases hg with rfl | rfl
  · exact h
  · intro ad m c e he
    have := hl ad m c e
    injection he with he
    omega

theorem Own.keptNe {w w' : World} {base e size n c : Nat} {A : Option Addr} {xs : List Value} {row : Option Nat} (h : Own w base e size A n c xs) (hg : w.grownBy w' row) (hne : row = none ∨ row ≠ ownB A) : Own w' base e size A n c xs := by
  refine h.kept hg ?_
  rcases hA : ownB A with _ | g
  · exact .inl rfl
  · refine .inr (fun e => ?_)
    rcases hne with h | h
    · rw [h] at e; cases e
    · exact h (by rw [hA, e])
/-- append of one value, the one-cell slice's block by its number. -/
theorem wpList_app1g {P : Program} {bytes : Nat} {ops : Array Oper} {rest : List Oper} {o : Oper} {a : Act} {Q : Exit → Act → World → Prop} (wr : World) (hgd : o.guard = none) (s x : Operand) (t : TypeId)
    (ho : o.op = .call { callee := .builtin .append, args := #[s, x], argTypes := #[t, t] })
    (base : Nat) (e : TypeId) (ht : P.underlying t = some (.slice e)) (he : Elem P e 1 bytes)
    (A : Option Addr) (n c : Nat) (xs : List Value) (hs : a.eval s = .slice A n c) (hown : Own wr base e 1 A n c xs)
    (v : Value) (G : Nat) (hG : G = wr.heap.size) (hx : a.eval x = .slice (some ⟨G, 0, none⟩) 1 1) (h1 : v.oneCell' = true)
    (hN : n + 1 ≤ 1000000000) (hbase : base ≤ wr.heap.size)
    (h : ∀ A' c' w', Own w' base e 1 A' (n + 1) c' (xs ++ [v]) → wr.grownBy w' (ownB A) → (ownB A' = ownB A ∨ ownB A' = some (wr.heap.size + 1)) → wpList P ops Q rest (a.put o.dst (.slice A' (n + 1) c')) w') :
    wpList P ops Q (o :: rest) a (wr.alloc (.cells #[v] e)) := by
  subst hG
  exact wpList_app1 wr hgd s x t ho base e ht he A n c xs hs hown v hx h1 hN hbase h

set_option maxRecDepth 100000 in
set_option maxHeartbeats 4000000 in
theorem law_images (n0 : Int) (A : Option Addr) (m c : Nat) (xs : List Int) (w : World) (h0 : 0 ≤ n0) (h1 : n0 ≤ 255) (hx : Ints .u8 w A m xs) (hm : m ≤ 9223372036854775807) (hr : ∀ x ∈ xs, 0 ≤ x ∧ x ≤ 255) :
    Calls Try.prog 4 #[.int .u8 n0, .slice A m c] w fun e w' => e = .returned (.bool true) ∧ Below w.heap.size w w' := by
  obtain ⟨n, hn⟩ : ∃ n : Nat, (n : Int) = 1 + n0 % 6 := ⟨(1 + n0 % 6).toNat, by omega⟩
  have hn1 : 1 ≤ n := by omega
  have hn2 : n ≤ 6 := by omega
  have HN := Lib.hid hn
  clear hn
  have HX := Lib.hid hr
  clear hr
  go_enter Try.func4, Try.ntmps4
  go_wp2_with fail
  refine (strands_any n0 w h0 h1).mono ?_
  rintro e wz ⟨rfl, rfl⟩
  rw [← HN.out]
  go_wp2_with fail
  refine (of_any A m c xs n w (by omega) (by omega) hx hm HX.out).mono ?_
  rintro e w1 ⟨A1, N, c1, rfl, hown1, hb1⟩
  have hwd := wordOf_wd (n := (n : Int)) (by omega) xs HX.out
  have hl24 := wordOf_length n xs
  generalize wordOf n xs = l0 at *
  have hi0 := hown1.ints
  have hN : N ≤ 24 := by have := hi0.len; omega
  have hcap := hown1.cap
  -- the first 12 letters
  obtain ⟨M, hM⟩ : ∃ M, M = min N 12 := ⟨_, rfl⟩
  have hM1 : M ≤ N := by omega
  have hM2 : M ≤ 12 := by omega
  have hi := hi0.take hM1
  have hwd2 : Wd n (l0.take M) := ⟨by have := hwd.1; rw [List.length_take]; omega, fun k hk => hwd.2 k (List.mem_of_mem_take hk)⟩
  generalize l0.take M = l at *
  have hlen := Lib.hid hi.len
  have HWD := Lib.hid hwd2
  have HMM := Lib.hid hM
  clear hwd hwd2 hl24 hown1 hi0 hM
  have hB := hb1
  clear hb1
  have hcon : ∀ v, v = Value.slice A1 M c1 → True := fun _ _ => trivial
  clear hcon
  rcases (show N < 12 ∨ N = 12 ∨ 12 < N by omega) with h12 | h12 | h12
  case' inl =>
    obtain rfl : M = N := by have := HMM.out; omega
    go_wp2_with fail
  case' inr.inl =>
    obtain rfl : M = N := by have := HMM.out; omega
    have H12 := Lib.hid h12
    clear h12
    go_wp2_with fail
  case' inr.inr =>
    have HM12 : Hid (M = 12) := by have := HMM.out; exact Lib.hid (by omega)
    have hcc1 : N ≤ c1 := hcap.1
    go_wp2_with fail
    rw [show Value.slice A1 12 c1 = Value.slice A1 M c1 by rw [HM12.out]]
  all_goals
    go_loopw [7, 9, 10] (fun p o i wr => ∃ (k : Nat) (A7 : Option Addr) (c7 : Nat) (A9 : Option Addr) (c9 : Nat) (vs : List Value), k ≤ n ∧ i = .int .i64 ((k : Int) + 1) ∧ p = .slice A7 k c7 ∧ o = .slice A9 k c9 ∧
        Own wr w1.heap.size 25 1 A7 k c7 vs ∧ Own wr w1.heap.size 3 1 A9 k c9 (iv .i64 (ids k)) ∧ RowsOf .i64 wr vs (gens k) ∧ Hid (∀ v ∈ vs, Off (ownB A7) v ∧ Off (ownB A9) v ∧ Low wr.heap.size v) ∧ Hid (ownB A7 = none ∨ ownB A7 ≠ ownB A9) ∧ Below w1.heap.size w1 wr) (fun _ _ i _ => (n : Nat) + 1 - (intOf i).toNat)
    case atStart => exact ⟨0, none, 0, none, 0, [], by omega, rfl, rfl, rfl, Own.nil_, Own.nil_, RowsOf.nil_, Lib.hid (by simp), Lib.hid (.inl rfl), Below.refl _ _⟩
    case round =>
      obtain ⟨k, A7, c7, A9, c9, vs, hk, rfl, rfl, rfl, ho7, ho9, hrows, HOFF, HNE, hbel⟩ := hrel
      have hs := hbel.size
      rcases Nat.lt_or_ge k n with hlt | hge
      · have hb1 : Below wr.heap.size wr (wr.alloc (.cells #[.int .i64 ((k : Int) + 1)] 3)) := (Below.refl _ _).alloc (Nat.le_refl _) _
        have ho7b := ho7.alloc (.cells #[.int .i64 ((k : Int) + 1)] 3)
        have ho9a := ho9.alloc (.cells #[.int .i64 ((k : Int) + 1)] 3)
        have hri : Ints .i64 (wr.alloc (.cells #[.int .i64 ((k : Int) + 1)] 3)) (some ⟨wr.heap.size, 0, none⟩) 1 [(k : Int) + 1] := Ints.lit wr 3 [(k : Int) + 1]
        have hrow1 := (hrows.below hb1).snoc (v := .slice (some ⟨wr.heap.size, 0, none⟩) 1 1) (l := [(k : Int) + 1]) ⟨_, 1, 1, rfl, Nat.le_refl _, by omega, hri⟩
        have hl7 := ho7.low
        have hl9 := ho9.low
        have hoff1 : ∀ v ∈ vs ++ [Value.slice (some ⟨wr.heap.size, 0, none⟩) 1 1], Off (ownB A7) v ∧ Off (ownB A9) v ∧ Low (wr.heap.size + 1) v := by
          intro v hv
          rcases List.mem_append.1 hv with h | h
          · have := HOFF.out v h
            exact ⟨this.1, this.2.1, this.2.2.mono (by omega)⟩
          · simp only [List.mem_singleton] at h
            subst h
            refine ⟨fun ad m c e he => ?_, fun ad m c e he => ?_, fun ad m c e => ?_⟩
            · injection e with e _ _; injection e with e; subst e
              have := (hl7 _ he.symm).2; simp at this
            · injection e with e _ _; injection e with e; subst e
              have := (hl9 _ he.symm).2; simp at this
            · injection e with e _ _; injection e with e; subst e; simp
        have HOFF1 := Lib.hid hoff1
        clear hoff1
        go_wp2_with (first
          | (at_builtin; refine wpList_app1g (wr.alloc (.cells #[.int .i64 ((k : Int) + 1)] 3)) rfl (.tmp 30) (.tmp 33) 34 rfl w1.heap.size 25 Try.underlying34 elemSl A7 k c7 vs rfl ho7b (.slice (some ⟨wr.heap.size, 0, none⟩) 1 1) (wr.heap.size + 1) (by simp) rfl rfl (by omega) (by simp; omega) ?_; intro A7' c7' w2 ho7' hg7 ha7; have hs2 : w1.heap.size ≤ w2.heap.size := Nat.le_trans (by simp; omega) hg7.size; have ho9b := ho9a.keptNe hg7 HNE.out)
          | (at_builtin; refine wpList_app1 w2 rfl (.tmp 35) (.tmp 37) 25 rfl w1.heap.size 3 Try.underlying25 elemInt A9 k c9 _ rfl ho9b (.int .i64 ((k : Int) + 1)) rfl rfl (by omega) hs2 ?_; intro A9' c9' w3 ho9' hg9 ha9))
        have hz1 : (wr.alloc (.cells #[.int .i64 ((k : Int) + 1)] 3)).heap.size = wr.heap.size + 1 := by simp
        have hz2 : wr.heap.size + 1 ≤ w2.heap.size := by have := hg7.size; omega
        have hz3 := hg9.size
        have hl7' := ho7'.low
        have hne1 : ownB A9 = none ∨ ownB A9 ≠ ownB A7' := by
          rcases hA : ownB A9 with _ | g
          · exact .inl rfl
          · refine .inr (fun e => ?_)
            have hgl := (hl9 g hA).2
            rcases ha7 with h | h
            · rw [h] at e
              rcases HNE.out with h2 | h2
              · rw [h2] at e; cases e
              · exact h2 (by rw [hA, e])
            · rw [h] at e
              injection e with e
              omega
        have hown73 := ho7'.keptNe hg9 hne1
        have hrows3 := (hrow1.grown hg7 (fun v hv => (HOFF1.out v hv).1)).grown hg9 (fun v hv => (HOFF1.out v hv).2.1)
        have hoff3 : ∀ v ∈ vs ++ [Value.slice (some ⟨wr.heap.size, 0, none⟩) 1 1], Off (ownB A7') v ∧ Off (ownB A9') v ∧ Low w3.heap.size v := by
          intro v hv
          obtain ⟨g1, g2, g3⟩ := HOFF1.out v hv
          refine ⟨off_next g1 (g3.mono (B' := wr.heap.size + 1 + 1) (by omega)) (by rw [hz1] at ha7; exact ha7), off_next g2 (g3.mono (B' := w2.heap.size + 1) (by omega)) ha9, g3.mono (by omega)⟩
        have hne3 : ownB A7' = none ∨ ownB A7' ≠ ownB A9' := by
          rcases hA : ownB A7' with _ | g
          · exact .inl rfl
          · refine .inr (fun e => ?_)
            have hgl := (hl7' g hA).2
            rcases ha9 with h | h
            · rcases hne1 with h2 | h2
              · rw [h, h2] at e; cases e
              · exact h2 (by rw [hA, e, h])
            · rw [h] at e
              injection e with e
              omega
        have hb3 : Below w1.heap.size w1 w3 := (hbel.alloc hs _).grown hg7 (by omega) (fun g hg => (hl7 g hg).1) |>.grown hg9 (by omega) (fun g hg => (hl9 g hg).1)
        go_roundw
        case rel => exact ⟨k + 1, A7', c7', A9', c9', _, by omega, by go_num, rfl, rfl, hown73, by rw [ids_succ, iv_append]; exact ho9', by rw [gens_succ]; exact hrows3, Lib.hid hoff3, Lib.hid hne3, hb3⟩
        case measure => simp [intOf]; omega
      · obtain rfl : k = n := by omega
        have hgrid : Grid .i64 wr A7 k (gens k) := Grid.own ho7 hrows
        have hones := ho9.ints
        have hiw := hi.below hbel
        have hBw := hB.trans (hbel.mono hB.size)
        clear ho7 ho9 hrows HOFF HNE hbel hs
        have hrows8 : ∀ q, q ≤ M → Rows8 80000 (actL k (l.take q)) := by
          intro q hq r hr
          have h1 := actL_rows k (l.take q) (fun x hx => HWD.out.2 x (List.mem_of_mem_take hx)) r hr
          have h2 : 2 ^ ((l.take q).length - 1) ≤ 2 ^ 11 := Nat.pow_le_pow_right (by omega) (by rw [List.length_take]; omega)
          have h3 : (k + 1) * 2 ^ ((l.take q).length - 1) ≤ 7 * 2 ^ 11 := Nat.mul_le_mul (by omega) h2
          have h4 : 7 * 2 ^ 11 = 14336 := by decide
          exact ⟨by omega, actL_small k (by omega) _ r hr⟩
        have HR8 := Lib.hid hrows8
        clear hrows8
        have hgrid0 : Grid .i64 wr A7 k (actL k (l.take 0)) := by simpa [actL] using hgrid
        clear hgrid
        obtain ⟨W, hW⟩ : ∃ W : World, W = wr := ⟨_, rfl⟩
        have hb00 : Below W.heap.size W wr := by rw [hW]; exact Below.refl _ _
        rw [← hW] at hones hiw hBw
        clear hW
        go_wp2_with fail
        go_loopw [7, 11] (fun p i wr => ∃ (q : Nat) (A7 : Option Addr) (c7 : Nat), q ≤ M ∧ i = .int .i64 q ∧ p = .slice A7 k c7 ∧ Grid .i64 wr A7 k (actL k (l.take q)) ∧ Below W.heap.size W wr) (fun _ i _ => M - (intOf i).toNat)
        case atStart => exact ⟨0, A7, c7, by omega, rfl, rfl, hgrid0, hb00⟩
        case round =>
          clear hgrid0 hb00
          obtain ⟨q, A7, c7, hq, rfl, rfl, hgrid, hbel⟩ := hrel
          rcases Nat.lt_or_ge q M with hlt | hge2
          · have hi3 := hiw.below hbel
            obtain ⟨ad, rfl, _, x, hxk, hcx⟩ := hi3.at_ hlt
            have hxw := HWD.out.2 x (List.mem_of_getElem? hxk)
            have e1 : actL k (l.take (q + 1)) = imageL (actL k (l.take q)) x := by
              rw [List.take_add_one, hxk, imageL_eq (actL_rdc k _)]; exact actL_snoc k _ x
            have HE := Lib.hid e1
            have h8 : Rows8 100000 (actL k (l.take q)) := fun r hr => ⟨by have := (HR8.out q hq r hr).1; omega, (HR8.out q hq r hr).2⟩
            have HR := Lib.hid h8
            clear e1 hxk h8
            obtain ⟨j, hj, hx⟩ := letter_cases hxw
            rcases hx with rfl | rfl
            · have HIM := Lib.hid (image_pos A7 k c7 _ j _ hgrid (by omega) HR.out (by omega))
              go_wp2_with fail
              refine HIM.out.mono ?_
              rintro e w4 ⟨A8, c8, rfl, hg8, hb8⟩
              go_wp2
              go_roundw
              case rel => exact ⟨q + 1, A8, c8, by omega, by go_num, rfl, by rw [HE.out]; exact hg8, hbel.trans (hb8.mono hbel.size)⟩
              case measure => simp [intOf]; omega
            · have HIM := Lib.hid (image_neg A7 k c7 _ j _ hgrid (by omega) HR.out (by omega))
              go_wp2_with fail
              refine HIM.out.mono ?_
              rintro e w4 ⟨A8, c8, rfl, hg8, hb8⟩
              go_wp2
              go_roundw
              case rel => exact ⟨q + 1, A8, c8, by omega, by go_num, rfl, by rw [HE.out]; exact hg8, hbel.trans (hb8.mono hbel.size)⟩
              case measure => simp [intOf]; omega
          · have e1 : l.take q = l := List.take_of_length_le (by have := hlen.out; omega)
            rw [e1] at hgrid
            clear e1
            have hi4 := hiw.below hbel
            have hones4 := hones.below hbel
            have hB4 := hBw.trans (hbel.mono hBw.size)
            have HAC := Lib.hid (act_any k A1 M c1 l wr hi4 (by omega) hcap.2 hn1 (by omega) HWD.out (actOk_12 k (by omega) l HWD.out.2 (by have := hlen.out; omega)))
            go_wp2_with fail
            refine HAC.out.mono ?_
            rintro e w5 ⟨A5, us, rfl, hr5, ho5, hc5, hb5⟩
            have hgrid5 := hgrid.below hb5
            have hones5 := hones4.below hb5
            have hB5 := hB4.trans (hb5.mono hB4.size)
            have HC5 := Lib.hid hc5
            have hR := HR8.out M (Nat.le_refl _)
            rw [List.take_of_length_le (by have := hlen.out; omega)] at hR
            have hLl := actL_length k l
            have hprod := product_eq k l HWD.out.2
            generalize actL k l = ls at *
            have HPR := Lib.hid hprod
            have HRR := Lib.hid hR
            have HLL := Lib.hid hLl
            have HUL := Lib.hid ho5.1
            clear hprod hR hLl hc5 hgrid hi4 hones4 hB4 HR8 HAC
            go_wp2_with fail
            go_loopw [8, 14] (fun p i wr => ∃ (q m8 : Nat) (A8 : Option Addr) (c8 : Nat), q ≤ k ∧ i = .int .i64 q ∧ p = .slice A8 m8 c8 ∧ Own wr w5.heap.size 3 1 A8 m8 c8 (iv .i64 (ls.take q).flatten) ∧ Below w5.heap.size w5 wr) (fun _ i _ => k - (intOf i).toNat)
            case atStart => exact ⟨0, 0, none, 0, by omega, rfl, rfl, by simpa [iv] using Own.nil_, Below.refl _ _⟩
            case round =>
              obtain ⟨q, m8, A8, c8, hq3, rfl, rfl, hown8, hbel8⟩ := hrel
              rcases Nat.lt_or_ge q k with hlt | hge3
              · obtain ⟨ad, u, rfl, hadl, hu, hcu0⟩ := hr5.at_ hlt
                have hlq : ls[q]? = some (ls[q]'(by have := HLL.out; omega)) := by simp
                generalize ls[q]'(by have := HLL.out; omega) = r at hlq
                obtain ⟨r1, m1, d1, rfl, hma1, hma2, hia0⟩ := ho5.2 q u r hu hlq
                obtain ⟨r2, m2, h2⟩ := HC5.out _ (List.mem_of_getElem? hu)
                injection h2 with h2a h2b h2c
                obtain rfl : m1 = d1 := by omega
                clear h2a h2b h2c
                have hcu := (hbel8.cell (p := ad.add q) (by rw [block_of_add]; exact hadl)).trans hcu0
                have hia := Reads.below hia0 hbel8
                have hm1 : m1 ≤ 80000 := by have := (HRR.out r (List.mem_of_getElem? hlq)).1; have := hia0.len; omega
                have hfl := flatten_take_succ ls q r hlq
                have hsz8 : m8 ≤ 480000 := by
                  have h1 := hown8.ints.len
                  have h2 : ∀ (m : List (List Int)), (∀ z ∈ m, z.length ≤ 80000) → m.flatten.length ≤ m.length * 80000 := by
                    intro m
                    induction m with
                    | nil => intro _; simp
                    | cons z m ih =>
                      intro hz
                      have := ih (fun y hy => hz y (by simp [hy]))
                      have := hz z (by simp)
                      simp only [List.flatten_cons, List.length_append, List.length_cons]
                      omega
                  have h3 := h2 (ls.take q) (fun z hz => (HRR.out z (List.mem_of_mem_take hz)).1)
                  have h4 : (ls.take q).length ≤ 6 := by rw [List.length_take]; omega
                  have h5 : (ls.take q).length * 80000 ≤ 6 * 80000 := Nat.mul_le_mul_right _ h4
                  omega
                have HFL := Lib.hid hfl
                clear hfl hlq hu hcu0
                go_wp2_with (at_builtin; go_must (refine wpList_app wr rfl (.tmp 63) (.tmp 67) 25 rfl w5.heap.size 3 Try.underlying25 elemInt A8 m8 c8 _ rfl hown8 w5.heap.size r1 m1 m1 _ rfl hia (iv_one _ _) (by omega) hbel8.size ?_); intro A9 c9 w9 hown9 hg9 _; have hb9 := hown8.belowG hg9 hbel8.size; have hcu9 := (hb9.cell (p := ad.add q) (by rw [block_of_add]; exact hadl)).trans hcu)
                have hb10 := hbel8.trans hb9
                clear hcu
                go_quiet (fail)
                go_wp2
                go_roundw
                case rel => exact ⟨q + 1, m8 + m1, A9, c9, by omega, by go_num, rfl, by rw [HFL.out, iv_append]; exact hown9.drewN _, below_drewN hb10 _⟩
                case measure => simp [intOf]; omega
              · obtain rfl : q = k := by omega
                have e1 : ls.take q = ls := List.take_of_length_le (by have := HLL.out; omega)
                rw [e1] at hown8
                clear e1
                have hgrid8 := hgrid5.below hbel8
                have hones8 := hones5.below hbel8
                have hB8 := hB5.trans (hbel8.mono hB5.size)
                have hga : Grid .i64 wr A5 q ls := (show Grid .i64 w5 A5 q ls from ⟨us, hr5, ho5⟩).below hbel8
                have hi8 := hown8.ints
                have hcap8 := hown8.cap
                have hm8 : m8 ≤ 480000 := by
                  have h1 := hown8.ints.len
                  have h2 : ∀ (m : List (List Int)), (∀ z ∈ m, z.length ≤ 80000) → m.flatten.length ≤ m.length * 80000 := by
                    intro m
                    induction m with
                    | nil => intro _; simp
                    | cons z m ih =>
                      intro hz
                      have := ih (fun y hy => hz y (by simp [hy]))
                      have := hz z (by simp)
                      simp only [List.flatten_cons, List.length_append, List.length_cons]
                      omega
                  have h3 := h2 ls (fun z hz => (HRR.out z hz).1)
                  have h4 : ls.length ≤ 6 := by have := HLL.out; omega
                  have h5 : ls.length * 80000 ≤ 6 * 80000 := Nat.mul_le_mul_right _ h4
                  omega
                have hsm : Small ls.flatten := by
                  intro x hx
                  obtain ⟨r, hr, hxr⟩ := List.mem_flatten.1 hx
                  exact (HRR.out r hr).2 x hxr
                have HAL := Lib.hid (all_eq A5 A7 q q q c7 ls ls wr hga hgrid8 (by omega) (fun r hr => by have := (HRR.out r hr).1; omega) rfl)
                have HSM := Lib.hid hsm
                clear hown8 hsm hga hgrid8
                go_wp2_with fail
                refine HAL.out.mono ?_
                rintro e w10 ⟨rfl, hq10⟩
                have hi10 := hi8.below hq10
                have hones10 := hones8.below hq10
                have hB10 := hB8.trans (hq10.mono hB8.size)
                have HRD := Lib.hid (reduced_any A8 m8 c8 _ w10 hi10 (by omega) HSM.out)
                clear hq10
                go_wp2_with fail
                refine HRD.out.mono ?_
                rintro e w11 ⟨A11, k11, c11, rfl, h11, hc11, hd11, -, hq11⟩
                rw [HPR.out] at h11
                have hones11 := hones10.below hq11
                have hB11 := hB10.trans (hq11.mono hB10.size)
                have hk11 : k11 < 1000000000 := by have := h11.len; rw [ids_length] at this; omega
                clear hq11
                go_wp2_with fail
                refine (same_eq A11 A9 k11 q _ _ _ _ w11 h11 hones11 hk11 rfl).mono ?_
                rintro e w12 ⟨rfl, hq12⟩
                have hB12 := hB11.trans (hq12.mono hB11.size)
                clear hq12
                go_wp2_with fail
                refine (lives_any w12).mono ?_
                rintro e w13 ⟨rfl, hq13⟩
                have hB13 := hB12.trans (hq13.mono hB12.size)
                go_wp2
                go_ret
                exact ⟨rfl, hB13⟩

end Go.Proofs.Ytgebiffponbmlaa
