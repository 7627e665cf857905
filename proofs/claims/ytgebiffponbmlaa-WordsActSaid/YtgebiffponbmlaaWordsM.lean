/-
  Contract: the laws' own Other: a word of the same braid. No conditions beyond what the theorems name.
-/
import Derived.Test.YtgebiffponbmlaaWordsL
namespace Go.Proofs.Ytgebiffponbmlaa
open Go.RowKit

theorem wordOf_length_le (n : Int) (xs : List Int) : (wordOf n xs).length ≤ xs.length := by
  unfold wordOf
  split
  · simp; omega
  · simp
/-- A short word of the same braid as another one. -/
structure SameBr (n : Nat) (w0 l : List Int) : Prop where
  br : BrEq n w0 l
  inr : ∀ k ∈ l, InR n k
  len : l.length ≤ 21
theorem SameBr.mv {n : Nat} {w0 l l' : List Int} (h : SameBr n w0 l) (hm : Mv l l') : SameBr n w0 l' := ⟨h.br.trans (hm.breq h.inr), fun k hk => h.inr k (hm.mem hk), by rw [hm.length]; exact h.len⟩
theorem SameBr.red {n : Nat} {w0 l : List Int} (h : SameBr n w0 l) : SameBr n w0 (redL l) := ⟨h.br.trans (breq_red h.inr), fun k hk => h.inr k (redL_mem hk), Nat.le_trans (redL_length l) h.len⟩
theorem SameBr.ins {n : Nat} {w0 l : List Int} (h : SameBr n w0 l) (hl : l.length < 20) (p : Nat) {k : Int} (hk : InR n k) : SameBr n w0 (l.take p ++ [k, -k] ++ l.drop p) := by
  refine ⟨h.br.trans ?_, fun x hx => ?_, ?_⟩
  · have := breq_ins (n := n) (p := l.take p) (r := l.drop p) (fun x hx => h.inr x (List.mem_of_mem_take hx)) hk
    rw [List.take_append_drop] at this
    simpa using this
  · simp only [List.mem_append, List.mem_cons, List.not_mem_nil, or_false] at hx
    rcases hx with (h1 | h1 | h1) | h1
    · exact h.inr x (List.mem_of_mem_take h1)
    · subst h1; exact hk
    · subst h1; exact hk.neg
    · exact h.inr x (List.mem_of_mem_drop h1)
  · simp; omega
theorem SameBr.small {n : Nat} {w0 l : List Int} (h : SameBr n w0 l) (hn : n ≤ 8) : Small l := fun x hx => by have := h.inr x hx; have := this.2; omega

theorem step_appB {P : Program} (w : World) {size bytes : Nat} {ops : Array Oper} {o : Oper} {a : Act} {K : Act → World → Prop} {Q : Exit → Act → World → Prop} {E : Prop} (hgd : o.guard = none) (s x : Operand) (t : TypeId)
    (ho : o.op = .call { callee := .builtin .append, args := #[s, x], argTypes := #[t, t] })
    (base : Nat) (e : TypeId) (ht : P.underlying t = some (.slice e)) (he : Elem P e size bytes)
    (A : Option Addr) (n c : Nat) (xs : List Value) (hs : a.eval s = .slice A n c) (hown : Own w base e size A n c xs)
    (B : Nat) (A2 : Option Addr) (m c2 : Nat) (news : List Value) (hx : a.eval x = .slice A2 m c2) (hr : Reads w B size A2 m news) (h1 : ∀ u ∈ news, u.oneCell' = true)
    (hN : n + m ≤ 1000000000) (hbase : base ≤ w.heap.size)
    (h : ∀ A' c' w', Own w' base e size A' (n + m) c' (xs ++ news) → w.grownBy w' (ownB A) → Below base w w' → K (a.put o.dst (.slice A' (n + m) c')) w') :
    if Region.wanted o (yielded ops a.tmps) = true then Oper.wp P o a w K Q else E :=
  step_app w hgd s x t ho base e ht he A n c xs hs hown B A2 m c2 news hx hr h1 hN hbase fun A' c' w' h2 h3 _ => h A' c' w' h2 h3 (hown.belowG h3 hbase)
theorem step_app0B {P : Program} (w : World) {size bytes : Nat} {ops : Array Oper} {o : Oper} {a : Act} {K : Act → World → Prop} {Q : Exit → Act → World → Prop} {E : Prop} (hgd : o.guard = none) (s x : Operand) (t : TypeId)
    (ho : o.op = .call { callee := .builtin .append, args := #[s, x], argTypes := #[t, t] })
    (base : Nat) (e : TypeId) (ht : P.underlying t = some (.slice e)) (he : Elem P e size bytes)
    (A : Option Addr) (c : Nat) (hs : a.eval s = .slice A 0 c) (hown : Own w base e size A 0 c [])
    (B : Nat) (A2 : Option Addr) (m c2 : Nat) (news : List Value) (hx : a.eval x = .slice A2 m c2) (hr : Reads w B size A2 m news) (h1 : ∀ u ∈ news, u.oneCell' = true)
    (hN : m ≤ 1000000000) (hbase : base ≤ w.heap.size)
    (h : ∀ A' c' w', Own w' base e size A' m c' news → w.grownBy w' (ownB A) → Below base w w' → K (a.put o.dst (.slice A' m c')) w') :
    if Region.wanted o (yielded ops a.tmps) = true then Oper.wp P o a w K Q else E := by
  refine step_appB w hgd s x t ho base e ht he A 0 c [] hs hown B A2 m c2 news hx hr h1 (by omega) hbase ?_
  intro A' c' w' h2 h3 h4
  rw [Nat.zero_add, List.nil_append] at h2
  rw [Nat.zero_add]
  exact h A' c' w' h2 h3 h4
theorem Ints.grown_far {kd : IntKind} {w w' : World} {A : Option Addr} {n : Nat} {l : List Int} {row : Option Nat} (h : Ints kd w A n l) (hg : w.grownBy w' row) (hne : ∀ ad, A = some ad → row ≠ some ad.block) : Ints kd w' A n l := by
  have h2 : Reads w' w'.heap.size 1 A n (iv kd l) := by
    refine ⟨h.1, fun hn => ?_⟩
    obtain ⟨ad, e, hb, hc⟩ := h.2 hn
    refine ⟨ad, e, Nat.lt_of_lt_of_le hb hg.size, fun j u hu => ?_⟩
    rw [← hc j u hu]
    exact World.cell?_of_block (hg.block _ (by rw [block_of_add]; exact hb) (fun e2 => hne ad e (by rw [← e2, block_of_add])))
  exact h2

set_option maxRecDepth 100000 in
set_option maxHeartbeats 4000000 in
theorem other_any (A B : Option Addr) (m c M d : Nat) (xs ps : List Int) (n : Nat) (w : World) (h0 : 1 ≤ n) (h1 : n ≤ 8) (hx : Ints .u8 w A m xs) (hm : m ≤ 12) (hr : ∀ x ∈ xs, 0 ≤ x ∧ x ≤ 255) (hM : M ≤ 9223372036854775807) (hp : Ints .u8 w B (M * 2) ps) (hpr : ∀ x ∈ ps, 0 ≤ x ∧ x ≤ 255) :
    Calls Try.prog 22 #[.agg #[.slice A m c, .slice B M d], .int .i64 n] w fun e w' => ∃ A' N c', e = .returned (.slice A' N c') ∧ ∃ l, Ints .i64 w' A' N l ∧ N ≤ c' ∧ c' ≤ 9223372036854775807 ∧ Fresh w.heap.size A' ∧ Hid (SameBr n (wordOf n xs) l) ∧ Below w.heap.size w w' := by
  have HPR := Lib.hid hpr
  have HR := Lib.hid hr
  have HLX := Lib.hid hx.len
  clear hpr hr
  have HSB : Hid (SameBr n (wordOf n xs) (wordOf n xs)) := Lib.hid ⟨BrEq.refl _, (wordOf_wd (by omega) xs HR.out).2, by have := wordOf_length_le n xs; have := HLX.out; omega⟩
  go_enter Try.func22, Try.ntmps22
  go_wp2_with fail
  have hbk : Blk (w.alloc (.cells #[.slice A m c, .slice B M d] 47)) w.heap.size 47 [.slice A m c, .slice B M d] := Blk.new w _ _
  have hbx : Below w.heap.size w (w.alloc (.cells #[.slice A m c, .slice B M d] 47)) := (Below.refl _ _).alloc (Nat.le_refl _) _
  generalize w.alloc (.cells #[.slice A m c, .slice B M d] 47) = wx at *
  have hx2 := hx.below hbx
  have hgx := hbk.lt
  refine (of_any A m c xs n wx (by omega) (by omega) hx2 (by omega) HR.out).mono ?_
  rintro e w1 ⟨A1, N, c1, rfl, hown1, hb1⟩
  generalize hW0 : wordOf n xs = w0 at *
  have HW0 := Lib.hid hW0
  have hi := hown1.ints
  have hcap := hown1.cap
  have hfr := hown1.fresh.lower (B' := w.heap.size) (by omega)
  have hN : N ≤ 21 := by have := hi.len; have := HSB.out.len; omega
  clear hown1
  have hbk1 := hbk.below hb1 hgx
  have hB1 := hbx.trans (hb1.mono (by omega))
  generalize hG : w.heap.size = G at *
  have HG := Lib.hid hG
  clear hb1 hx2 hbx hbk hgx hG hW0
  go_wp2_with fail

  go_loopw [5, 6] (fun v i wr => ∃ (q N : Nat) (A' : Option Addr) (c' : Nat) (l : List Int), q ≤ M ∧ q ≤ 24 ∧ N ≤ 21 ∧ i = .int .i64 q ∧ v = .slice A' N c' ∧ Ints .i64 wr A' N l ∧ N ≤ c' ∧ c' ≤ 9223372036854775807 ∧ Fresh G A' ∧ Hid (SameBr n w0 l) ∧ Blk wr G 47 [.slice A m c, .slice B M d] ∧ Below G w wr) (fun _ i _ => 24 - (intOf i).toNat)
  case atStart => exact ⟨0, N, A1, c1, w0, by omega, by omega, hN, rfl, rfl, hi, hcap.1, hcap.2, hfr, HSB, hbk1, hB1⟩
  case round =>
    clear hi hfr hcap hN HSB hbk1 hB1
    obtain ⟨q, N, A', c', l, hq, hq24, hN, rfl, rfl, hi, hc1, hc2, hfr, HS, hbk, hbel⟩ := hrel
    have hcx0 := hbk.cell 0
    have hcx1 := hbk.cell 1
    simp only [List.getElem?_cons_zero, List.getElem?_cons_succ] at hcx0 hcx1
    by_cases hgo : q < M ∧ q < 24 ∧ 1 < n
    · obtain ⟨hlt, hlt2, hn1⟩ := hgo
      have hd1 : decide ((q : Int) < (M : Int)) = true := decide_eq_true (by omega)
      have hd2 : decide ((q : Int) < 24) = true := decide_eq_true (by omega)
      have hd3 : decide (1 < (n : Int)) = true := decide_eq_true (by omega)
      obtain ⟨ad, rfl, hadl, x, hxk, hc0⟩ := hp.at_ (k := q * 2) (by omega)
      obtain ⟨ad', hae, _, y, hyk, hc1'⟩ := hp.at_ (k := q * 2 + 1) (by omega)
      injection hae with hae
      subst hae
      have hcx := (hbel.cell (p := ad.add (q * 2)) (by rw [block_of_add]; have := HG.out; omega)).trans hc0
      have hcy := (hbel.cell (p := ad.add (q * 2 + 1)) (by rw [block_of_add]; have := HG.out; omega)).trans hc1'
      clear hc0 hc1'
      have hxb := HPR.out x (List.mem_of_getElem? hxk)
      have hyb := HPR.out y (List.mem_of_getElem? hyk)
      clear hxk hyk
      rw [← add_of_add, show (ad.add (q * 2)).add 1 = ⟨(ad.add (q * 2)).block, (ad.add (q * 2)).off + 1, none⟩ from add_succ _ 0] at hcy
      obtain ⟨p, hp'⟩ : ∃ p : Nat, (p : Int) = x % ((N : Int) + 1) := ⟨(x % ((N : Int) + 1)).toNat, by have := Int.emod_nonneg x (b := (N : Int) + 1) (by omega); omega⟩
      have hpN : p ≤ N := by have := Int.emod_lt_of_pos x (b := (N : Int) + 1) (by omega); omega
      have hk1 := Int.emod_nonneg (y / 4) (b := (n : Int) - 1) (by omega)
      have hk2 := Int.emod_lt_of_pos (y / 4) (b := (n : Int) - 1) (by omega)
      have HK : Hid (InR n (1 + y / 4 % ((n : Int) - 1))) := Lib.hid ⟨by omega, by omega, by omega⟩
      have hGs : G ≤ wr.heap.size := by have := hbel.size; have := HG.out; omega
      have HP := Lib.hid hp'
      clear hp'
      by_cases hins : y % 4 = 0 ∧ N < 20
      · obtain ⟨h40, hN20⟩ := hins
        have hA1 : (y % 4 == 0) = true := by simp [h40]
        have hA2 : decide ((N : Int) < 20) = true := decide_eq_true (by omega)
        have hkb : -8 ≤ 1 + y / 4 % ((n : Int) - 1) ∧ 1 + y / 4 % ((n : Int) - 1) ≤ 8 := by omega
        clear h40
        by_cases hodd : y / 2 % 2 = 1
        · have hB1 : (y / 2 % 2 == 1) = true := by simp [hodd]
          clear hodd
          go_wp2_with fail
          rw [← HP.out]
          have hp1 : (0 : Int) ≤ (p : Int) := by omega
          have hp2 : (p : Int) ≤ (c' : Int) := by omega
          have hp3 : (p : Int) ≤ (N : Int) := by omega
          have hp4 : (N : Int) ≤ (c' : Int) := by omega
          have hp5 : p ≤ c' := by omega
          clear hk1 hk2
          generalize 1 + y / 4 % ((n : Int) - 1) = k at *
          clear hcx hcy hcx0 hcx1 hA1 hA2 hB1 hd1 hd2 hd3
          have HZ := Lib.hid HK.out.neg
          have hkz : -8 ≤ -k ∧ -k ≤ 8 := by omega
          generalize -k = z at *
          clear hkb HK
          have hwz : IntKind.i64.wrap (-z) = -z := IntWalk.i64_in _ (by omega)
          have hLIT : ∀ W : World, Ints .i64 (W.alloc (.cells #[.int .i64 z, .int .i64 (-z)] 3)) (some ⟨W.heap.size, 0, none⟩) 2 [z, -z] := fun W => Ints.lit W 3 [z, -z]
          have HI1 := Lib.hid (hi.take hpN)
          have HI2 := Lib.hid (hi.drop hpN)
          rcases A' with _ | a
          · obtain rfl : N = 0 := by
              rcases Nat.eq_zero_or_pos N with h | h
              · exact h
              · obtain ⟨a, h2, _⟩ := hi.at_ h
                cases h2
            obtain rfl : p = 0 := by omega
            obtain rfl : l = [] := List.eq_nil_of_length_eq_zero hi.len
            have hE1 : Hid (Own ((wr.alloc (.cells #[.int .i64 z, .int .i64 (-z)] 3)).alloc (.cells #[] 3)) wr.heap.size 3 1 (some ⟨wr.heap.size + 1, 0, none⟩) 0 0 []) := Lib.hid (by
              have h := Own.empty (e := 3) (size := 1) (w := wr.alloc (.cells #[.int .i64 z, .int .i64 (-z)] 3)) (base := wr.heap.size) (by simp)
              rwa [show (wr.alloc (.cells #[.int .i64 z, .int .i64 (-z)] 3)).heap.size = wr.heap.size + 1 by simp] at h)
            have HSI : Hid (SameBr n w0 ([] ++ [z, -z] ++ [])) := Lib.hid (HS.out.ins (by simp) 0 HZ.out)
            go_region_held3 (fun _ => True) (trivial) (first
              | (refine step_appB _ (by rfl) (.tmp 80) (.tmp 83) 25 (by rfl) wr.heap.size 3 Try.underlying25 elemInt _ _ _ _ (by rfl) hown3 _ _ _ _ (iv .i64 []) (by rfl) Ints.nil_ (iv_one _ _) (by omega) hB3.size ?_
                 intro A4 c4 w4 hown4 hg4 hb4
                 have hB4 : Below wr.heap.size wr w4 := (by first | exact hB3.trans hb4 | exact hB3.drew.trans hb4 | exact hB3.drew.drew.trans hb4)
                 clear hb4 hg4)
              | (refine step_appB _ (by rfl) (.tmp 75) (.tmp 79) 25 (by rfl) wr.heap.size 3 Try.underlying25 elemInt _ _ _ _ (by rfl) (hown2.alloc (.cells #[.int .i64 z, .int .i64 (-z)] 3)) _ _ _ _ (iv .i64 [z, -z]) (by rfl) (hLIT w2) (iv_one _ _) (by omega) (by have := hB2.size; simp; try omega) ?_
                 intro A3 c3 w3 hown3 hg3 hb3
                 have hB3 : Below wr.heap.size wr w3 := (by first | exact (hB2.alloc hB2.size (.cells #[.int .i64 z, .int .i64 (-z)] 3)).trans hb3 | exact (hB2.alloc hB2.size (.cells #[.int .i64 z, .int .i64 (-z)] 3)).drew.trans hb3 | exact (hB2.alloc hB2.size (.cells #[.int .i64 z, .int .i64 (-z)] 3)).drew.drew.trans hb3)
                 clear hb3 hg3)
              | (refine step_appB _ (by rfl) (.tmp 75) (.tmp 79) 25 (by rfl) wr.heap.size 3 Try.underlying25 elemInt _ _ _ _ (by rfl) (hown2) _ _ _ _ (iv .i64 [z, -z]) (by rfl) (hL2) (iv_one _ _) (by omega) (by have := hB2.size; simp; try omega) ?_
                 intro A3 c3 w3 hown3 hg3 hb3
                 have hB3 : Below wr.heap.size wr w3 := (by first | exact (hB2).trans hb3 | exact (hB2).drew.trans hb3 | exact (hB2).drew.drew.trans hb3)
                 clear hb3 hg3)
              | (refine step_app0B _ (by rfl) (.tmp 71) (.tmp 74) 25 (by rfl) wr.heap.size 3 Try.underlying25 elemInt _ 0 (by rfl) (Own.empty (Nat.le_refl _)) _ _ _ _ (iv .i64 []) (by rfl) Ints.nil_ (iv_one _ _) (by omega) (by simp; try omega) ?_
                 intro A2 c2 w2 hown2 hg2 hb2
                 have hB2 : Below wr.heap.size wr w2 := (by first | exact (((Below.refl wr.heap.size wr).alloc (Nat.le_refl _) (.cells #[] 3))).trans hb2 | exact (((Below.refl wr.heap.size wr).alloc (Nat.le_refl _) (.cells #[] 3))).drew.trans hb2 | exact (((Below.refl wr.heap.size wr).alloc (Nat.le_refl _) (.cells #[] 3))).drew.drew.trans hb2)
                 clear hb2)
              | (refine step_app0B _ (by rfl) (.tmp 71) (.tmp 74) 25 (by rfl) wr.heap.size 3 Try.underlying25 elemInt _ 0 (by rfl) ((Own.empty (Nat.le_refl _)).alloc (.cells #[.int .i64 z, .int .i64 (-z)] 3)) _ _ _ _ (iv .i64 []) (by rfl) Ints.nil_ (iv_one _ _) (by omega) (by simp; try omega) ?_
                 intro A2 c2 w2 hown2 hg2 hb2
                 have hB2 : Below wr.heap.size wr w2 := (by first | exact ((((Below.refl wr.heap.size wr).alloc (Nat.le_refl _) (.cells #[] 3)).alloc (by simp) (.cells #[.int .i64 z, .int .i64 (-z)] 3))).trans hb2 | exact ((((Below.refl wr.heap.size wr).alloc (Nat.le_refl _) (.cells #[] 3)).alloc (by simp) (.cells #[.int .i64 z, .int .i64 (-z)] 3))).drew.trans hb2 | exact ((((Below.refl wr.heap.size wr).alloc (Nat.le_refl _) (.cells #[] 3)).alloc (by simp) (.cells #[.int .i64 z, .int .i64 (-z)] 3))).drew.drew.trans hb2)
                 have hL2 : Ints .i64 w2 (some ⟨wr.heap.size + 1, 0, none⟩) 2 [z, -z] := (by have h := hLIT (wr.alloc (.cells #[] 3)); rw [show (wr.alloc (.cells #[] 3)).heap.size = wr.heap.size + 1 by simp] at h; refine Ints.grown_far (kd := .i64) ?_ hg2 (fun ad e => by injection e with e; subst e; simp [ownB]); exact h)
                 clear hb2)
              | (refine step_app0B _ (by rfl) (.tmp 71) (.tmp 74) 25 (by rfl) wr.heap.size 3 Try.underlying25 elemInt _ 0 (by rfl) hE1.out _ _ _ _ (iv .i64 []) (by rfl) Ints.nil_ (iv_one _ _) (by omega) (by simp; try omega) ?_
                 intro A2 c2 w2 hown2 hg2 hb2
                 have hB2 : Below wr.heap.size wr w2 := (by first | exact ((((Below.refl wr.heap.size wr).alloc (Nat.le_refl _) (.cells #[.int .i64 z, .int .i64 (-z)] 3)).alloc (by simp) (.cells #[] 3))).trans hb2 | exact ((((Below.refl wr.heap.size wr).alloc (Nat.le_refl _) (.cells #[.int .i64 z, .int .i64 (-z)] 3)).alloc (by simp) (.cells #[] 3))).drew.trans hb2 | exact ((((Below.refl wr.heap.size wr).alloc (Nat.le_refl _) (.cells #[.int .i64 z, .int .i64 (-z)] 3)).alloc (by simp) (.cells #[] 3))).drew.drew.trans hb2)
                 have hL2 : Ints .i64 w2 (some ⟨wr.heap.size, 0, none⟩) 2 [z, -z] := (by refine Ints.grown_far (kd := .i64) ?_ hg2 (fun ad e => by injection e with e; subst e; simp [ownB]); exact (hLIT wr).alloc (.cells #[] 3))
                 clear hb2))
            all_goals
              go_wp2
              go_roundw
              case rel => exact ⟨q + 1, 0 + 2 + 0, A4, c4, [] ++ [z, -z] ++ [], by omega, by omega, by omega, by go_num, rfl, by have h := hown4; rw [← iv_append, ← iv_append] at h; exact h.ints, hown4.cap.1, hown4.cap.2, hown4.fresh.lower hGs, HSI, hbk.below hB4 hbk.lt, hbel.trans (hB4.mono hGs)⟩
              case measure => simp [intOf]; omega
          · have HI3 : Hid (∀ W : World, Below wr.heap.size wr W → Ints .i64 W (if c' = p then some a else some (a.add p)) (N - p) (l.drop p)) := Lib.hid fun W hW => by
              by_cases hcp : c' = p
              · rw [if_pos hcp, drop_all l (by have := hi.len; omega), show N - p = 0 by omega]
                exact Ints.nil_
              · rw [if_neg hcp]
                exact HI2.out.below hW
            have hE1 : Hid (Own ((wr.alloc (.cells #[.int .i64 z, .int .i64 (-z)] 3)).alloc (.cells #[] 3)) wr.heap.size 3 1 (some ⟨wr.heap.size + 1, 0, none⟩) 0 0 []) := Lib.hid (by
              have h := Own.empty (e := 3) (size := 1) (w := wr.alloc (.cells #[.int .i64 z, .int .i64 (-z)] 3)) (base := wr.heap.size) (by simp)
              rwa [show (wr.alloc (.cells #[.int .i64 z, .int .i64 (-z)] 3)).heap.size = wr.heap.size + 1 by simp] at h)
            have HSI := Lib.hid (HS.out.ins (by have := hi.len; omega) p HZ.out)
            go_region_held3 (fun _ => True) (trivial) (first
              | (refine step_appB _ (by rfl) (.tmp 80) (.tmp 83) 25 (by rfl) wr.heap.size 3 Try.underlying25 elemInt _ _ _ _ (by rfl) hown3 _ _ _ _ (iv .i64 (l.drop p)) (by rfl) (HI3.out _ hB3) (iv_one _ _) (by omega) hB3.size ?_
                 intro A4 c4 w4 hown4 hg4 hb4
                 have hB4 : Below wr.heap.size wr w4 := (by first | exact hB3.trans hb4 | exact hB3.drew.trans hb4 | exact hB3.drew.drew.trans hb4)
                 clear hb4 hg4)
              | (refine step_appB _ (by rfl) (.tmp 75) (.tmp 79) 25 (by rfl) wr.heap.size 3 Try.underlying25 elemInt _ _ _ _ (by rfl) (hown2.alloc (.cells #[.int .i64 z, .int .i64 (-z)] 3)) _ _ _ _ (iv .i64 [z, -z]) (by rfl) (hLIT w2) (iv_one _ _) (by omega) (by have := hB2.size; simp; try omega) ?_
                 intro A3 c3 w3 hown3 hg3 hb3
                 have hB3 : Below wr.heap.size wr w3 := (by first | exact (hB2.alloc hB2.size (.cells #[.int .i64 z, .int .i64 (-z)] 3)).trans hb3 | exact (hB2.alloc hB2.size (.cells #[.int .i64 z, .int .i64 (-z)] 3)).drew.trans hb3 | exact (hB2.alloc hB2.size (.cells #[.int .i64 z, .int .i64 (-z)] 3)).drew.drew.trans hb3)
                 clear hb3 hg3)
              | (refine step_appB _ (by rfl) (.tmp 75) (.tmp 79) 25 (by rfl) wr.heap.size 3 Try.underlying25 elemInt _ _ _ _ (by rfl) (hown2) _ _ _ _ (iv .i64 [z, -z]) (by rfl) (hL2) (iv_one _ _) (by omega) (by have := hB2.size; simp; try omega) ?_
                 intro A3 c3 w3 hown3 hg3 hb3
                 have hB3 : Below wr.heap.size wr w3 := (by first | exact (hB2).trans hb3 | exact (hB2).drew.trans hb3 | exact (hB2).drew.drew.trans hb3)
                 clear hb3 hg3)
              | (refine step_app0B _ (by rfl) (.tmp 71) (.tmp 74) 25 (by rfl) wr.heap.size 3 Try.underlying25 elemInt _ 0 (by rfl) (Own.empty (Nat.le_refl _)) _ _ _ _ (iv .i64 (l.take p)) (by rfl) (HI1.out.alloc _) (iv_one _ _) (by omega) (by simp; try omega) ?_
                 intro A2 c2 w2 hown2 hg2 hb2
                 have hB2 : Below wr.heap.size wr w2 := (by first | exact (((Below.refl wr.heap.size wr).alloc (Nat.le_refl _) (.cells #[] 3))).trans hb2 | exact (((Below.refl wr.heap.size wr).alloc (Nat.le_refl _) (.cells #[] 3))).drew.trans hb2 | exact (((Below.refl wr.heap.size wr).alloc (Nat.le_refl _) (.cells #[] 3))).drew.drew.trans hb2)
                 clear hb2)
              | (refine step_app0B _ (by rfl) (.tmp 71) (.tmp 74) 25 (by rfl) wr.heap.size 3 Try.underlying25 elemInt _ 0 (by rfl) ((Own.empty (Nat.le_refl _)).alloc (.cells #[.int .i64 z, .int .i64 (-z)] 3)) _ _ _ _ (iv .i64 (l.take p)) (by rfl) ((HI1.out.alloc (.cells #[] 3)).alloc (.cells #[.int .i64 z, .int .i64 (-z)] 3)) (iv_one _ _) (by omega) (by simp; try omega) ?_
                 intro A2 c2 w2 hown2 hg2 hb2
                 have hB2 : Below wr.heap.size wr w2 := (by first | exact ((((Below.refl wr.heap.size wr).alloc (Nat.le_refl _) (.cells #[] 3)).alloc (by simp) (.cells #[.int .i64 z, .int .i64 (-z)] 3))).trans hb2 | exact ((((Below.refl wr.heap.size wr).alloc (Nat.le_refl _) (.cells #[] 3)).alloc (by simp) (.cells #[.int .i64 z, .int .i64 (-z)] 3))).drew.trans hb2 | exact ((((Below.refl wr.heap.size wr).alloc (Nat.le_refl _) (.cells #[] 3)).alloc (by simp) (.cells #[.int .i64 z, .int .i64 (-z)] 3))).drew.drew.trans hb2)
                 have hL2 : Ints .i64 w2 (some ⟨wr.heap.size + 1, 0, none⟩) 2 [z, -z] := (by have h := hLIT (wr.alloc (.cells #[] 3)); rw [show (wr.alloc (.cells #[] 3)).heap.size = wr.heap.size + 1 by simp] at h; refine Ints.grown_far (kd := .i64) ?_ hg2 (fun ad e => by injection e with e; subst e; simp [ownB]); exact h)
                 clear hb2)
              | (refine step_app0B _ (by rfl) (.tmp 71) (.tmp 74) 25 (by rfl) wr.heap.size 3 Try.underlying25 elemInt _ 0 (by rfl) hE1.out _ _ _ _ (iv .i64 (l.take p)) (by rfl) ((HI1.out.alloc (.cells #[.int .i64 z, .int .i64 (-z)] 3)).alloc (.cells #[] 3)) (iv_one _ _) (by omega) (by simp; try omega) ?_
                 intro A2 c2 w2 hown2 hg2 hb2
                 have hB2 : Below wr.heap.size wr w2 := (by first | exact ((((Below.refl wr.heap.size wr).alloc (Nat.le_refl _) (.cells #[.int .i64 z, .int .i64 (-z)] 3)).alloc (by simp) (.cells #[] 3))).trans hb2 | exact ((((Below.refl wr.heap.size wr).alloc (Nat.le_refl _) (.cells #[.int .i64 z, .int .i64 (-z)] 3)).alloc (by simp) (.cells #[] 3))).drew.trans hb2 | exact ((((Below.refl wr.heap.size wr).alloc (Nat.le_refl _) (.cells #[.int .i64 z, .int .i64 (-z)] 3)).alloc (by simp) (.cells #[] 3))).drew.drew.trans hb2)
                 have hL2 : Ints .i64 w2 (some ⟨wr.heap.size, 0, none⟩) 2 [z, -z] := (by refine Ints.grown_far (kd := .i64) ?_ hg2 (fun ad e => by injection e with e; subst e; simp [ownB]); exact (hLIT wr).alloc (.cells #[] 3))
                 clear hb2))
            all_goals
              go_wp2
              go_roundw
              case rel => exact ⟨q + 1, p + 2 + (N - p), A4, c4, l.take p ++ [z, -z] ++ l.drop p, by omega, by omega, by omega, by go_num, rfl, by have h := hown4; rw [← iv_append, ← iv_append] at h; exact h.ints, hown4.cap.1, hown4.cap.2, hown4.fresh.lower hGs, HSI, hbk.below hB4 hbk.lt, hbel.trans (hB4.mono hGs)⟩
              case measure => simp [intOf]; omega
        · have hB1 : (y / 2 % 2 == 1) = false := by simp [hodd]
          clear hodd
          go_wp2_with fail
          rw [← HP.out]
          have hp1 : (0 : Int) ≤ (p : Int) := by omega
          have hp2 : (p : Int) ≤ (c' : Int) := by omega
          have hp3 : (p : Int) ≤ (N : Int) := by omega
          have hp4 : (N : Int) ≤ (c' : Int) := by omega
          have hp5 : p ≤ c' := by omega
          clear hk1 hk2
          generalize 1 + y / 4 % ((n : Int) - 1) = k at *
          clear hcx hcy hcx0 hcx1 hA1 hA2 hB1 hd1 hd2 hd3
          have HZ := Lib.hid HK.out
          have hkz : -8 ≤ k ∧ k ≤ 8 := by omega
          generalize k = z at *
          clear hkb HK
          have hwz : IntKind.i64.wrap (-z) = -z := IntWalk.i64_in _ (by omega)
          have hLIT : ∀ W : World, Ints .i64 (W.alloc (.cells #[.int .i64 z, .int .i64 (-z)] 3)) (some ⟨W.heap.size, 0, none⟩) 2 [z, -z] := fun W => Ints.lit W 3 [z, -z]
          have HI1 := Lib.hid (hi.take hpN)
          have HI2 := Lib.hid (hi.drop hpN)
          rcases A' with _ | a
          · obtain rfl : N = 0 := by
              rcases Nat.eq_zero_or_pos N with h | h
              · exact h
              · obtain ⟨a, h2, _⟩ := hi.at_ h
                cases h2
            obtain rfl : p = 0 := by omega
            obtain rfl : l = [] := List.eq_nil_of_length_eq_zero hi.len
            have hE1 : Hid (Own ((wr.alloc (.cells #[.int .i64 z, .int .i64 (-z)] 3)).alloc (.cells #[] 3)) wr.heap.size 3 1 (some ⟨wr.heap.size + 1, 0, none⟩) 0 0 []) := Lib.hid (by
              have h := Own.empty (e := 3) (size := 1) (w := wr.alloc (.cells #[.int .i64 z, .int .i64 (-z)] 3)) (base := wr.heap.size) (by simp)
              rwa [show (wr.alloc (.cells #[.int .i64 z, .int .i64 (-z)] 3)).heap.size = wr.heap.size + 1 by simp] at h)
            have HSI : Hid (SameBr n w0 ([] ++ [z, -z] ++ [])) := Lib.hid (HS.out.ins (by simp) 0 HZ.out)
            go_region_held3 (fun _ => True) (trivial) (first
              | (refine step_appB _ (by rfl) (.tmp 80) (.tmp 83) 25 (by rfl) wr.heap.size 3 Try.underlying25 elemInt _ _ _ _ (by rfl) hown3 _ _ _ _ (iv .i64 []) (by rfl) Ints.nil_ (iv_one _ _) (by omega) hB3.size ?_
                 intro A4 c4 w4 hown4 hg4 hb4
                 have hB4 : Below wr.heap.size wr w4 := (by first | exact hB3.trans hb4 | exact hB3.drew.trans hb4 | exact hB3.drew.drew.trans hb4)
                 clear hb4 hg4)
              | (refine step_appB _ (by rfl) (.tmp 75) (.tmp 79) 25 (by rfl) wr.heap.size 3 Try.underlying25 elemInt _ _ _ _ (by rfl) (hown2.alloc (.cells #[.int .i64 z, .int .i64 (-z)] 3)) _ _ _ _ (iv .i64 [z, -z]) (by rfl) (hLIT w2) (iv_one _ _) (by omega) (by have := hB2.size; simp; try omega) ?_
                 intro A3 c3 w3 hown3 hg3 hb3
                 have hB3 : Below wr.heap.size wr w3 := (by first | exact (hB2.alloc hB2.size (.cells #[.int .i64 z, .int .i64 (-z)] 3)).trans hb3 | exact (hB2.alloc hB2.size (.cells #[.int .i64 z, .int .i64 (-z)] 3)).drew.trans hb3 | exact (hB2.alloc hB2.size (.cells #[.int .i64 z, .int .i64 (-z)] 3)).drew.drew.trans hb3)
                 clear hb3 hg3)
              | (refine step_appB _ (by rfl) (.tmp 75) (.tmp 79) 25 (by rfl) wr.heap.size 3 Try.underlying25 elemInt _ _ _ _ (by rfl) (hown2) _ _ _ _ (iv .i64 [z, -z]) (by rfl) (hL2) (iv_one _ _) (by omega) (by have := hB2.size; simp; try omega) ?_
                 intro A3 c3 w3 hown3 hg3 hb3
                 have hB3 : Below wr.heap.size wr w3 := (by first | exact (hB2).trans hb3 | exact (hB2).drew.trans hb3 | exact (hB2).drew.drew.trans hb3)
                 clear hb3 hg3)
              | (refine step_app0B _ (by rfl) (.tmp 71) (.tmp 74) 25 (by rfl) wr.heap.size 3 Try.underlying25 elemInt _ 0 (by rfl) (Own.empty (Nat.le_refl _)) _ _ _ _ (iv .i64 []) (by rfl) Ints.nil_ (iv_one _ _) (by omega) (by simp; try omega) ?_
                 intro A2 c2 w2 hown2 hg2 hb2
                 have hB2 : Below wr.heap.size wr w2 := (by first | exact (((Below.refl wr.heap.size wr).alloc (Nat.le_refl _) (.cells #[] 3))).trans hb2 | exact (((Below.refl wr.heap.size wr).alloc (Nat.le_refl _) (.cells #[] 3))).drew.trans hb2 | exact (((Below.refl wr.heap.size wr).alloc (Nat.le_refl _) (.cells #[] 3))).drew.drew.trans hb2)
                 clear hb2)
              | (refine step_app0B _ (by rfl) (.tmp 71) (.tmp 74) 25 (by rfl) wr.heap.size 3 Try.underlying25 elemInt _ 0 (by rfl) ((Own.empty (Nat.le_refl _)).alloc (.cells #[.int .i64 z, .int .i64 (-z)] 3)) _ _ _ _ (iv .i64 []) (by rfl) Ints.nil_ (iv_one _ _) (by omega) (by simp; try omega) ?_
                 intro A2 c2 w2 hown2 hg2 hb2
                 have hB2 : Below wr.heap.size wr w2 := (by first | exact ((((Below.refl wr.heap.size wr).alloc (Nat.le_refl _) (.cells #[] 3)).alloc (by simp) (.cells #[.int .i64 z, .int .i64 (-z)] 3))).trans hb2 | exact ((((Below.refl wr.heap.size wr).alloc (Nat.le_refl _) (.cells #[] 3)).alloc (by simp) (.cells #[.int .i64 z, .int .i64 (-z)] 3))).drew.trans hb2 | exact ((((Below.refl wr.heap.size wr).alloc (Nat.le_refl _) (.cells #[] 3)).alloc (by simp) (.cells #[.int .i64 z, .int .i64 (-z)] 3))).drew.drew.trans hb2)
                 have hL2 : Ints .i64 w2 (some ⟨wr.heap.size + 1, 0, none⟩) 2 [z, -z] := (by have h := hLIT (wr.alloc (.cells #[] 3)); rw [show (wr.alloc (.cells #[] 3)).heap.size = wr.heap.size + 1 by simp] at h; refine Ints.grown_far (kd := .i64) ?_ hg2 (fun ad e => by injection e with e; subst e; simp [ownB]); exact h)
                 clear hb2)
              | (refine step_app0B _ (by rfl) (.tmp 71) (.tmp 74) 25 (by rfl) wr.heap.size 3 Try.underlying25 elemInt _ 0 (by rfl) hE1.out _ _ _ _ (iv .i64 []) (by rfl) Ints.nil_ (iv_one _ _) (by omega) (by simp; try omega) ?_
                 intro A2 c2 w2 hown2 hg2 hb2
                 have hB2 : Below wr.heap.size wr w2 := (by first | exact ((((Below.refl wr.heap.size wr).alloc (Nat.le_refl _) (.cells #[.int .i64 z, .int .i64 (-z)] 3)).alloc (by simp) (.cells #[] 3))).trans hb2 | exact ((((Below.refl wr.heap.size wr).alloc (Nat.le_refl _) (.cells #[.int .i64 z, .int .i64 (-z)] 3)).alloc (by simp) (.cells #[] 3))).drew.trans hb2 | exact ((((Below.refl wr.heap.size wr).alloc (Nat.le_refl _) (.cells #[.int .i64 z, .int .i64 (-z)] 3)).alloc (by simp) (.cells #[] 3))).drew.drew.trans hb2)
                 have hL2 : Ints .i64 w2 (some ⟨wr.heap.size, 0, none⟩) 2 [z, -z] := (by refine Ints.grown_far (kd := .i64) ?_ hg2 (fun ad e => by injection e with e; subst e; simp [ownB]); exact (hLIT wr).alloc (.cells #[] 3))
                 clear hb2))
            all_goals
              go_wp2
              go_roundw
              case rel => exact ⟨q + 1, 0 + 2 + 0, A4, c4, [] ++ [z, -z] ++ [], by omega, by omega, by omega, by go_num, rfl, by have h := hown4; rw [← iv_append, ← iv_append] at h; exact h.ints, hown4.cap.1, hown4.cap.2, hown4.fresh.lower hGs, HSI, hbk.below hB4 hbk.lt, hbel.trans (hB4.mono hGs)⟩
              case measure => simp [intOf]; omega
          · have HI3 : Hid (∀ W : World, Below wr.heap.size wr W → Ints .i64 W (if c' = p then some a else some (a.add p)) (N - p) (l.drop p)) := Lib.hid fun W hW => by
              by_cases hcp : c' = p
              · rw [if_pos hcp, drop_all l (by have := hi.len; omega), show N - p = 0 by omega]
                exact Ints.nil_
              · rw [if_neg hcp]
                exact HI2.out.below hW
            have hE1 : Hid (Own ((wr.alloc (.cells #[.int .i64 z, .int .i64 (-z)] 3)).alloc (.cells #[] 3)) wr.heap.size 3 1 (some ⟨wr.heap.size + 1, 0, none⟩) 0 0 []) := Lib.hid (by
              have h := Own.empty (e := 3) (size := 1) (w := wr.alloc (.cells #[.int .i64 z, .int .i64 (-z)] 3)) (base := wr.heap.size) (by simp)
              rwa [show (wr.alloc (.cells #[.int .i64 z, .int .i64 (-z)] 3)).heap.size = wr.heap.size + 1 by simp] at h)
            have HSI := Lib.hid (HS.out.ins (by have := hi.len; omega) p HZ.out)
            go_region_held3 (fun _ => True) (trivial) (first
              | (refine step_appB _ (by rfl) (.tmp 80) (.tmp 83) 25 (by rfl) wr.heap.size 3 Try.underlying25 elemInt _ _ _ _ (by rfl) hown3 _ _ _ _ (iv .i64 (l.drop p)) (by rfl) (HI3.out _ hB3) (iv_one _ _) (by omega) hB3.size ?_
                 intro A4 c4 w4 hown4 hg4 hb4
                 have hB4 : Below wr.heap.size wr w4 := (by first | exact hB3.trans hb4 | exact hB3.drew.trans hb4 | exact hB3.drew.drew.trans hb4)
                 clear hb4 hg4)
              | (refine step_appB _ (by rfl) (.tmp 75) (.tmp 79) 25 (by rfl) wr.heap.size 3 Try.underlying25 elemInt _ _ _ _ (by rfl) (hown2.alloc (.cells #[.int .i64 z, .int .i64 (-z)] 3)) _ _ _ _ (iv .i64 [z, -z]) (by rfl) (hLIT w2) (iv_one _ _) (by omega) (by have := hB2.size; simp; try omega) ?_
                 intro A3 c3 w3 hown3 hg3 hb3
                 have hB3 : Below wr.heap.size wr w3 := (by first | exact (hB2.alloc hB2.size (.cells #[.int .i64 z, .int .i64 (-z)] 3)).trans hb3 | exact (hB2.alloc hB2.size (.cells #[.int .i64 z, .int .i64 (-z)] 3)).drew.trans hb3 | exact (hB2.alloc hB2.size (.cells #[.int .i64 z, .int .i64 (-z)] 3)).drew.drew.trans hb3)
                 clear hb3 hg3)
              | (refine step_appB _ (by rfl) (.tmp 75) (.tmp 79) 25 (by rfl) wr.heap.size 3 Try.underlying25 elemInt _ _ _ _ (by rfl) (hown2) _ _ _ _ (iv .i64 [z, -z]) (by rfl) (hL2) (iv_one _ _) (by omega) (by have := hB2.size; simp; try omega) ?_
                 intro A3 c3 w3 hown3 hg3 hb3
                 have hB3 : Below wr.heap.size wr w3 := (by first | exact (hB2).trans hb3 | exact (hB2).drew.trans hb3 | exact (hB2).drew.drew.trans hb3)
                 clear hb3 hg3)
              | (refine step_app0B _ (by rfl) (.tmp 71) (.tmp 74) 25 (by rfl) wr.heap.size 3 Try.underlying25 elemInt _ 0 (by rfl) (Own.empty (Nat.le_refl _)) _ _ _ _ (iv .i64 (l.take p)) (by rfl) (HI1.out.alloc _) (iv_one _ _) (by omega) (by simp; try omega) ?_
                 intro A2 c2 w2 hown2 hg2 hb2
                 have hB2 : Below wr.heap.size wr w2 := (by first | exact (((Below.refl wr.heap.size wr).alloc (Nat.le_refl _) (.cells #[] 3))).trans hb2 | exact (((Below.refl wr.heap.size wr).alloc (Nat.le_refl _) (.cells #[] 3))).drew.trans hb2 | exact (((Below.refl wr.heap.size wr).alloc (Nat.le_refl _) (.cells #[] 3))).drew.drew.trans hb2)
                 clear hb2)
              | (refine step_app0B _ (by rfl) (.tmp 71) (.tmp 74) 25 (by rfl) wr.heap.size 3 Try.underlying25 elemInt _ 0 (by rfl) ((Own.empty (Nat.le_refl _)).alloc (.cells #[.int .i64 z, .int .i64 (-z)] 3)) _ _ _ _ (iv .i64 (l.take p)) (by rfl) ((HI1.out.alloc (.cells #[] 3)).alloc (.cells #[.int .i64 z, .int .i64 (-z)] 3)) (iv_one _ _) (by omega) (by simp; try omega) ?_
                 intro A2 c2 w2 hown2 hg2 hb2
                 have hB2 : Below wr.heap.size wr w2 := (by first | exact ((((Below.refl wr.heap.size wr).alloc (Nat.le_refl _) (.cells #[] 3)).alloc (by simp) (.cells #[.int .i64 z, .int .i64 (-z)] 3))).trans hb2 | exact ((((Below.refl wr.heap.size wr).alloc (Nat.le_refl _) (.cells #[] 3)).alloc (by simp) (.cells #[.int .i64 z, .int .i64 (-z)] 3))).drew.trans hb2 | exact ((((Below.refl wr.heap.size wr).alloc (Nat.le_refl _) (.cells #[] 3)).alloc (by simp) (.cells #[.int .i64 z, .int .i64 (-z)] 3))).drew.drew.trans hb2)
                 have hL2 : Ints .i64 w2 (some ⟨wr.heap.size + 1, 0, none⟩) 2 [z, -z] := (by have h := hLIT (wr.alloc (.cells #[] 3)); rw [show (wr.alloc (.cells #[] 3)).heap.size = wr.heap.size + 1 by simp] at h; refine Ints.grown_far (kd := .i64) ?_ hg2 (fun ad e => by injection e with e; subst e; simp [ownB]); exact h)
                 clear hb2)
              | (refine step_app0B _ (by rfl) (.tmp 71) (.tmp 74) 25 (by rfl) wr.heap.size 3 Try.underlying25 elemInt _ 0 (by rfl) hE1.out _ _ _ _ (iv .i64 (l.take p)) (by rfl) ((HI1.out.alloc (.cells #[.int .i64 z, .int .i64 (-z)] 3)).alloc (.cells #[] 3)) (iv_one _ _) (by omega) (by simp; try omega) ?_
                 intro A2 c2 w2 hown2 hg2 hb2
                 have hB2 : Below wr.heap.size wr w2 := (by first | exact ((((Below.refl wr.heap.size wr).alloc (Nat.le_refl _) (.cells #[.int .i64 z, .int .i64 (-z)] 3)).alloc (by simp) (.cells #[] 3))).trans hb2 | exact ((((Below.refl wr.heap.size wr).alloc (Nat.le_refl _) (.cells #[.int .i64 z, .int .i64 (-z)] 3)).alloc (by simp) (.cells #[] 3))).drew.trans hb2 | exact ((((Below.refl wr.heap.size wr).alloc (Nat.le_refl _) (.cells #[.int .i64 z, .int .i64 (-z)] 3)).alloc (by simp) (.cells #[] 3))).drew.drew.trans hb2)
                 have hL2 : Ints .i64 w2 (some ⟨wr.heap.size, 0, none⟩) 2 [z, -z] := (by refine Ints.grown_far (kd := .i64) ?_ hg2 (fun ad e => by injection e with e; subst e; simp [ownB]); exact (hLIT wr).alloc (.cells #[] 3))
                 clear hb2))
            all_goals
              go_wp2
              go_roundw
              case rel => exact ⟨q + 1, p + 2 + (N - p), A4, c4, l.take p ++ [z, -z] ++ l.drop p, by omega, by omega, by omega, by go_num, rfl, by have h := hown4; rw [← iv_append, ← iv_append] at h; exact h.ints, hown4.cap.1, hown4.cap.2, hown4.fresh.lower hGs, HSI, hbk.below hB4 hbk.lt, hbel.trans (hB4.mono hGs)⟩
              case measure => simp [intOf]; omega
      · by_cases hred : y % 4 = 1
        · have hA1 : (y % 4 == 0) = false := by simp [hred]
          have hA2 : (y % 4 == 1) = true := by simp [hred]
          clear hins hred
          go_wp2_with fail
          refine (reduced_any A' N c' l wr hi (by omega) (HS.out.small h1)).mono ?_
          rintro e w3 ⟨A3, N3, c3, rfl, hi3, hc3, hd3', hfr3, hb3⟩
          have HS3 := Lib.hid HS.out.red
          have hN3 : N3 ≤ 21 := by have := hi3.len; have := HS3.out.len; omega
          have hB3 := Lib.hid (hbel.trans (hb3.mono hGs))
          have hbk3 := Lib.hid (hbk.below hb3 hbk.lt)
          have hfr4 := hfr3.lower hGs
          go_wp2_with fail
          go_roundw
          case rel => exact ⟨q + 1, N3, A3, c3, _, by omega, by omega, hN3, by go_num, rfl, hi3, hc3, hd3', hfr4, HS3, hbk3.out, hB3.out⟩
          case measure => simp [intOf]; omega
        · by_cases h40 : y % 4 = 0
          · have hA1 : (y % 4 == 0) = true := by simp [h40]
            have hA2 : (y % 4 == 1) = false := by simp [h40]
            have hA3 : decide ((N : Int) < 20) = false := decide_eq_false (by omega)
            clear hins hred h40
            go_wp2_with fail
            rw [← HP.out]
            refine (exchanged_any A' N c' p l wr hi (by omega) (HS.out.small h1) hpN).mono ?_
            rintro e w3 ⟨A3, c3, rfl, l3, hown3, hb3, hmv⟩
            have HS3 := Lib.hid (HS.out.mv hmv)
            have hB3 := Lib.hid (hbel.trans (hb3.mono hGs))
            have hbk3 := Lib.hid (hbk.below hb3 hbk.lt)
            have hfr4 := hown3.fresh.lower hGs
            have hi3 := hown3.ints
            have hc3 := hown3.cap
            clear hmv hown3
            go_wp2_with fail
            go_roundw
            case rel => exact ⟨q + 1, N, A3, c3, l3, by omega, by omega, hN, by go_num, rfl, hi3, hc3.1, hc3.2, hfr4, HS3, hbk3.out, hB3.out⟩
            case measure => simp [intOf]; omega
          · have hA1 : (y % 4 == 0) = false := by simp [h40]
            have hA2 : (y % 4 == 1) = false := by simp [hred]
            clear hins hred h40
            go_wp2_with fail
            rw [← HP.out]
            refine (exchanged_any A' N c' p l wr hi (by omega) (HS.out.small h1) hpN).mono ?_
            rintro e w3 ⟨A3, c3, rfl, l3, hown3, hb3, hmv⟩
            have HS3 := Lib.hid (HS.out.mv hmv)
            have hB3 := Lib.hid (hbel.trans (hb3.mono hGs))
            have hbk3 := Lib.hid (hbk.below hb3 hbk.lt)
            have hfr4 := hown3.fresh.lower hGs
            have hi3 := hown3.ints
            have hc3 := hown3.cap
            clear hmv hown3
            go_wp2_with fail
            go_roundw
            case rel => exact ⟨q + 1, N, A3, c3, l3, by omega, by omega, hN, by go_num, rfl, hi3, hc3.1, hc3.2, hfr4, HS3, hbk3.out, hB3.out⟩
            case measure => simp [intOf]; omega
    · rcases Nat.lt_or_ge q M with a1 | a1
      · have e1 : decide ((q : Int) < (M : Int)) = true := decide_eq_true (by omega)
        rcases Nat.lt_or_ge q 24 with a2 | a2
        · have e2 : decide ((q : Int) < 24) = true := decide_eq_true (by omega)
          have e3 : decide (1 < (n : Int)) = false := decide_eq_false (by omega)
          clear hgo
          go_wp2
          go_ret
          exact ⟨A', N, c', rfl, l, hi, hc1, hc2, by rw [HG.out]; exact hfr, by rw [HW0.out]; exact HS, by rw [HG.out]; exact hbel⟩
        · have e2 : decide ((q : Int) < 24) = false := decide_eq_false (by omega)
          clear hgo
          go_wp2
          go_ret
          exact ⟨A', N, c', rfl, l, hi, hc1, hc2, by rw [HG.out]; exact hfr, by rw [HW0.out]; exact HS, by rw [HG.out]; exact hbel⟩
      · have e1 : decide ((q : Int) < (M : Int)) = false := decide_eq_false (by omega)
        clear hgo
        go_wp2
        go_ret
        exact ⟨A', N, c', rfl, l, hi, hc1, hc2, by rw [HG.out]; exact hfr, by rw [HW0.out]; exact HS, by rw [HG.out]; exact hbel⟩

end Go.Proofs.Ytgebiffponbmlaa
