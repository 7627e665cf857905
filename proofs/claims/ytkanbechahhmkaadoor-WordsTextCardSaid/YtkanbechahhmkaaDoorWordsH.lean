/-
  Contracts of Sum and follow.
-/
import Derived.Test.YtkanbechahhmkaaDoorWordsG
namespace Go.Proofs.YtkanbechahhmkaaDoor
set_option linter.unusedSimpArgs false
set_option linter.unusedVariables false
open Go.RowKit
set_option maxRecDepth 100000

def signOf (k : Int) : Int := if k < 0 then -1 else 1
def sumL (l : List Int) : Int := (l.map signOf).sum
theorem sumL_snoc (l : List Int) (x : Int) : sumL (l ++ [x]) = sumL l + signOf x := by simp [sumL]
theorem sumL_bound (l : List Int) : -(l.length : Int) ≤ sumL l ∧ sumL l ≤ l.length := by
  induction l with
  | nil => simp [sumL]
  | cons x l ih =>
    have : sumL (x :: l) = signOf x + sumL l := by simp [sumL]
    rw [this]
    have hs : signOf x = -1 ∨ signOf x = 1 := by unfold signOf; split <;> simp
    simp only [List.length_cons]
    omega

set_option maxHeartbeats 400000 in
theorem sum_any (n : Int) (A : Option Addr) (m c : Nat) (l : List Int) (w : World) (hl : Ints .i64 w A m l) (hn : 1 ≤ n) (hn2 : n ≤ 8) (hw : Wd n l) :
    Calls Tryd.prog 12 #[.int .i64 n, .slice A m c] w fun e w' => e = .returned (.tuple #[.int .i64 (sumL l), .int .i64 0]) ∧ Below w.heap.size w w' := by
  have hm : m ≤ 64 := by have := hl.len; have := hw.1; omega
  have HC := Lib.hid (hw.check ▸ check_any n A m c l w hl (by omega) hn hn2)
  have HS := Lib.hid (hw.small hn2)
  have HW := Lib.hid hw
  have hlen := Lib.hid hl.len
  clear hw
  go_enter Tryd.func12, Tryd.ntmps12
  go_wp2_with fail
  refine HC.out.mono ?_
  rintro e w1 ⟨rfl, hbel1⟩
  go_wp2_with fail
  go_loop [7, 20] (fun s i => ∃ (k : Nat), k ≤ m ∧ i = .int .i64 k ∧ s = .int .i64 (sumL (l.take k))) (fun _ i => m - (intOf i).toNat)
  case atStart => exact ⟨0, by omega, rfl, by simp [sumL]⟩
  case round =>
    obtain ⟨k, hk, rfl, rfl⟩ := hrel
    have hsb := sumL_bound (l.take k)
    have hlk : (l.take k).length ≤ 64 := by rw [List.length_take]; omega
    rcases Nat.lt_or_ge k m with hlt | hge
    · obtain ⟨ad, rfl, hadl, x, hxk, hc0⟩ := hl.at_ hlt
      have hc := (hbel1.cell (p := ad.add k) (by rw [block_of_add]; exact hadl)).trans hc0
      clear hc0
      have hxw := HW.out.2 x (List.mem_of_getElem? hxk)
      have e1 : sumL (l.take (k + 1)) = sumL (l.take k) + signOf x := by rw [List.take_add_one, hxk]; exact sumL_snoc _ x
      have HE := Lib.hid e1
      clear e1 hxk
      generalize sumL (l.take k) = s at *
      have HPL := Lib.hid (place_any x w1 (by omega) (by omega))
      rcases (show 0 < x ∨ x < 0 by omega) with hx | hx
      · have HSG : Hid (signOf x = 1) := by simp only [Hid, signOf]; rw [if_neg (by omega)]
        have hx2 : ¬ x < 0 := by omega
        go_wp2_with fail
        refine HPL.out.mono ?_
        rintro e wz ⟨rfl, rfl⟩
        go_wp2
        go_round
        case rel => exact ⟨k + 1, by omega, by go_num, by rw [HE.out, HSG.out]⟩
        case measure => simp [intOf]; omega
      · have HSG : Hid (signOf x = -1) := by simp only [Hid, signOf]; rw [if_pos hx]
        go_wp2_with fail
        refine HPL.out.mono ?_
        rintro e wz ⟨rfl, rfl⟩
        go_wp2
        go_round
        case rel => exact ⟨k + 1, by omega, by go_num, by rw [HE.out, HSG.out]⟩
        case measure => simp [intOf]; omega
    · have e1 : l.take k = l := List.take_of_length_le (by have := hlen.out; omega)
      rw [e1]
      clear e1
      go_wp2
      go_ret2
      exact ⟨rfl, hbel1⟩

/-- Blocks but those of K are as they were. -/
structure KeptOut (K : Nat → Prop) (w w' : World) : Prop where
  os : w'.os = w.os
  tape : w'.tape = w.tape
  output : w'.output = w.output
  size : w.heap.size ≤ w'.heap.size
  block : ∀ k, k < w.heap.size → ¬ K k → w'.heap[k]? = w.heap[k]?
section
variable {K : Nat → Prop} {a b c w w' : World}
theorem KeptOut.refl (w : World) : KeptOut K w w := ⟨rfl, rfl, rfl, Nat.le_refl _, fun _ _ _ => rfl⟩
theorem KeptOut.trans (h : KeptOut K a b) (k : KeptOut K b c) : KeptOut K a c :=
  ⟨k.os.trans h.os, k.tape.trans h.tape, k.output.trans h.output, Nat.le_trans h.size k.size, fun i hi hk => (k.block i (Nat.lt_of_lt_of_le hi h.size) hk).trans (h.block i hi hk)⟩
theorem KeptOut.of_below (h : Below w.heap.size w w') : KeptOut K w w' := ⟨h.os, h.tape, h.output, h.size, fun k hk _ => h.block k hk⟩
theorem KeptOut.below (h : KeptOut (fun _ => False) w w') : Below w.heap.size w w' := ⟨h.os, h.tape, h.output, h.size, fun k hk => h.block k hk (fun f => f)⟩
/-- A step that changes blocks from B on alone, seen from a world that had B blocks. -/
theorem KeptOut.step (h : KeptOut K w a) (hb : Below w.heap.size a b) : KeptOut K w b :=
  ⟨hb.os.trans h.os, hb.tape.trans h.tape, hb.output.trans h.output, Nat.le_trans h.size hb.size, fun k hk hn => (hb.block k hk).trans (h.block k hk hn)⟩
theorem KeptOut.cell (h : KeptOut K w w') {p : Addr} (hp : p.block < w.heap.size) (hk : ¬ K p.block) : w'.cell? p = w.cell? p := World.cell?_of_block (w := w) (h.block p.block hp hk)
end

theorem Own.keptK {K : Nat → Prop} {w w' : World} {base e size n c : Nat} {A : Option Addr} {xs : List Value} (h : Own w base e size A n c xs) (hk : KeptOut K w w') (hn : ∀ g, ownB A = some g → ¬ K g) : Own w' base e size A n c xs := by
  refine ⟨h.1, ?_⟩
  rcases h.2 with h2 | ⟨g, cap, cur, hv, h1, hh, h2⟩
  · exact .inl h2
  · refine .inr ⟨g, cap, cur, hv, h1, ?_, h2⟩
    injection hv with hA _ _
    rw [hk.block g (Array.getElem?_eq_some_iff.1 hh).1 (hn g (by rw [hA]; rfl))]
    exact hh

def ids (k : Nat) : List Int := (List.range k).map fun (i : Nat) => (i : Int) + 1
theorem ids_succ (k : Nat) : ids (k + 1) = ids k ++ [(k : Int) + 1] := by simp [ids, List.range_succ]
theorem ids_length (k : Nat) : (ids k).length = k := by simp [ids]
/-- The strands exchange their places. -/
def swapAt (at_ : List Int) (i : Nat) : List Int := (at_.set i (at_.getD (i + 1) 0)).set (i + 1) (at_.getD i 0)
def placeOf (k : Int) : Nat := if k < 0 then (-k).toNat - 1 else k.toNat - 1
/-- One letter: who crosses is told to 'step', and the strands exchange their places. -/
def followStep {σ : Type} (step : σ → Int → Int → Int → σ) (s : σ × List Int) (k : Int) : σ × List Int :=
  (step s.1 (s.2.getD (placeOf k) 0 - 1) (s.2.getD (placeOf k + 1) 0 - 1) (signOf k), swapAt s.2 (placeOf k))
def followL {σ : Type} (step : σ → Int → Int → Int → σ) (s : σ) (n : Nat) (l : List Int) : σ × List Int := l.foldl (followStep step) (s, ids n)
theorem followL_snoc {σ : Type} (step : σ → Int → Int → Int → σ) (s : σ) (n : Nat) (l : List Int) (x : Int) : followL step s n (l ++ [x]) = followStep step (followL step s n l) x := by simp [followL]

/-- The strands are numbers from 1 to n. -/
def Perm (n : Nat) (at_ : List Int) : Prop := at_.length = n ∧ ∀ x ∈ at_, 1 ≤ x ∧ x ≤ n
theorem perm_ids (n : Nat) : Perm n (ids n) := by
  refine ⟨ids_length n, fun x hx => ?_⟩
  simp only [ids, List.mem_map, List.mem_range] at hx
  obtain ⟨i, hi, rfl⟩ := hx
  omega
theorem getD_lt (l : List Int) (i : Nat) (h : i < l.length) : l.getD i 0 = l[i] := by simp [List.getD, h]
theorem perm_swap {n : Nat} {a : List Int} (h : Perm n a) (i : Nat) (hi : i + 1 < n) : Perm n (swapAt a i) := by
  unfold swapAt
  have h1 : a.getD i 0 ∈ a := by rw [getD_lt _ _ (by have := h.1; omega)]; exact List.getElem_mem _
  have h2 : a.getD (i + 1) 0 ∈ a := by rw [getD_lt _ _ (by have := h.1; omega)]; exact List.getElem_mem _
  refine ⟨by simp [h.1], fun x hx => ?_⟩
  exact mem_set_of (p := fun x => 1 ≤ x ∧ x ≤ (n : Int)) (fun z hz => mem_set_of (p := fun x => 1 ≤ x ∧ x ≤ (n : Int)) h.2 (h.2 _ h2) hz) (h.2 _ h1) hx
theorem placeOf_lt {n x : Int} (h : x ≠ 0 ∧ -n < x ∧ x < n) : (placeOf x : Int) + 1 < n := by unfold placeOf; split <;> omega
theorem perm_follow {σ : Type} (step : σ → Int → Int → Int → σ) (s : σ) (n : Nat) (l : List Int) (h : ∀ k ∈ l, k ≠ 0 ∧ -(n : Int) < k ∧ k < n) : Perm n (followL step s n l).2 := by
  have key : ∀ (l : List Int) (s : σ × List Int), Perm n s.2 → (∀ k ∈ l, k ≠ 0 ∧ -(n : Int) < k ∧ k < n) → Perm n (l.foldl (followStep step) s).2 := by
    intro l
    induction l with
    | nil => intro s hs _; exact hs
    | cons x l ih =>
      intro s hs hl
      have hx := placeOf_lt (hl x (by simp))
      exact ih _ (perm_swap hs (placeOf x) (by omega)) (fun k hk => hl k (by simp [hk]))
  exact key l _ (perm_ids n) h

set_option maxRecDepth 100000 in
set_option maxHeartbeats 1600000 in
theorem follow_any {σ : Type} (step : σ → Int → Int → Int → σ) (Inv : σ → List Int → World → Prop) (K : Nat → Prop) (fid : FuncId) (cap : Array Value)
    (n : Nat) (A : Option Addr) (m c : Nat) (l : List Int) (w : World) (s0 : σ) (hl : Ints .i64 w A m l) (hn : 1 ≤ n) (hn2 : n ≤ 8) (hw : Wd n l) (he : Entered Tryd.prog fid)
    (hK : ∀ k, K k → k < w.heap.size) (hKA : 0 < m → ∀ ad, A = some ad → ¬ K ad.block)
    (hI0 : Inv s0 [] w)
    (hst : ∀ s p W W', Inv s p W → (∀ k, K k → W'.heap[k]? = W.heap[k]?) → W.heap.size ≤ W'.heap.size → Inv s p W')
    (hcall : ∀ s p (x a b : Int) W, p ++ [x] <+: l → s = (followL step s0 n p).1 → 0 ≤ a → a < n → 0 ≤ b → b < n → Inv s p W → w.heap.size ≤ W.heap.size →
      Calls Tryd.prog fid (#[.int .i64 a, .int .i64 b, .int .i64 (signOf x)] ++ cap) W fun e w' => e = .returned (.tuple #[]) ∧ Inv (step s a b (signOf x)) (p ++ [x]) w' ∧ KeptOut K W w') :
    Calls Tryd.prog 31 #[.int .i64 n, .slice A m c, .func (.func fid) #[] cap] w fun e w' => ∃ A', e = .returned (.slice A' n n) ∧ Own w' w.heap.size 5 1 A' n n (iv .u8 (followL step s0 n l).2) ∧ Inv (followL step s0 n l).1 l w' ∧ KeptOut K w w' := by
  have hm : m ≤ 64 := by have := hl.len; have := hw.1; omega
  have HW := Lib.hid hw
  have HK := Lib.hid hK
  have HKA := Lib.hid hKA
  have HST := Lib.hid hst
  have HCALL := Lib.hid hcall
  have hcf : ∀ args W, (callFunc fid args).run Tryd.prog W = .ok (.enter fid args) W := he
  have hlen := Lib.hid hl.len
  clear hw hK hKA hst hcall
  go_enter Tryd.func31, Tryd.ntmps31
  go_wp2_with (at_make; go_must (refine wpList_mk w rfl (.tmp 13) (.tmp 13) 22 rfl w.heap.size 5 Tryd.underlying22 elemU8Z rfl .i64 .i64 n n n rfl rfl rfl rfl (by omega) (Nat.le_refl _) ?_); intro w2 hown2 hg2)
  have hbel2 : Below w.heap.size w w2 := below_of_grown_none hg2 (Nat.le_refl _)
  have hI2 : Inv s0 [] w2 := HST.out s0 [] w w2 hI0 (fun k hk => hbel2.block k (HK.out k hk)) hbel2.size
  have HI2 := Lib.hid hI2
  clear hg2 hI0 hI2
  go_loopw [17] (fun i wr => ∃ (k : Nat), k ≤ n ∧ i = .int .i64 k ∧ Own wr w.heap.size 5 1 (some ⟨w.heap.size, 0, none⟩) n n (iv .u8 (ids k) ++ List.replicate (n - k) (.int .u8 0)) ∧ Hid (Inv s0 [] wr) ∧ Below w.heap.size w wr) (fun i _ => n - (intOf i).toNat)
  case atStart => exact ⟨0, by omega, rfl, by simpa [ids, iv] using hown2, HI2, hbel2⟩
  case round =>
    clear hown2 hbel2 HI2
    obtain ⟨k, hk, rfl, hown, HI, hbel⟩ := hrel
    rcases Nat.lt_or_ge k n with hlt | hge
    · have hlk : (iv .u8 (ids k)).length = k := by rw [iv_length, ids_length]
      have hcell : wr.cell? ⟨w.heap.size, k, none⟩ = some (.int .u8 0) := by
        rw [hown.cellAt (by omega), List.getElem?_append_right (by omega), hlk, List.getElem?_replicate]; simp; omega
      have hfr := hown.frozenAt k
      have hst2 := hown.stored k (.int .u8 ((k : Int) + 1))
      have e1 : (iv .u8 (ids k) ++ List.replicate (n - k) (Value.int .u8 0)).set k (Value.int .u8 ((k : Int) + 1)) = iv .u8 (ids (k + 1)) ++ List.replicate (n - (k + 1)) (Value.int .u8 0) := by
        rw [List.set_append_right _ _ (by omega), hlk, show n - k = (n - (k + 1)) + 1 by omega, List.replicate_succ, ids_succ]
        simp [iv]
      rw [e1] at hst2
      have HST2 := Lib.hid hst2
      have HB2 := Lib.hid (hbel.trans (hown.stored_below k (.int .u8 ((k : Int) + 1))))
      have hI3 : Inv s0 [] (wr.setCell ⟨w.heap.size, k, none⟩ (.int .u8 ((k : Int) + 1))) := HST.out s0 [] wr _ HI.out (fun q hq => (hown.stored_below k (.int .u8 ((k : Int) + 1))).block q (HK.out q hq)) (by simp [World.setCell])
      have HI3 := Lib.hid hI3
      clear hst2 e1 hlk hI3
      go_wp2
      go_roundw
      case rel => exact ⟨k + 1, by omega, by go_num, HST2.out, HI3, HB2.out⟩
      case measure => simp [intOf]; omega
    · obtain rfl : k = n := by omega
      rw [Nat.sub_self, List.replicate_zero, List.append_nil] at hown
      go_wp2
      go_loopw [29] (fun i wr => ∃ (q : Nat), q ≤ m ∧ i = .int .i64 q ∧ Own wr w.heap.size 5 1 (some ⟨w.heap.size, 0, none⟩) k k (iv .u8 (followL step s0 k (l.take q)).2) ∧ Hid (Inv (followL step s0 k (l.take q)).1 (l.take q) wr) ∧ KeptOut K w wr) (fun i _ => m - (intOf i).toNat)
      case atStart => exact ⟨0, by omega, rfl, by simpa [followL] using hown, by simpa [followL] using HI, KeptOut.of_below hbel⟩
      case round =>
        clear hown hbel HI
        obtain ⟨q, hq, rfl, hown, HI, hkept⟩ := hrel
        rcases Nat.lt_or_ge q m with hlt | hge2
        · obtain ⟨ad, rfl, hadl, x, hxk, hc0⟩ := hl.at_ hlt
          have hcx := (hkept.cell (p := ad.add q) (by rw [block_of_add]; exact hadl) (by rw [block_of_add]; exact HKA.out (by omega) ad rfl)).trans hc0
          clear hc0
          have hxw := HW.out.2 x (List.mem_of_getElem? hxk)
          have e1 : l.take (q + 1) = l.take q ++ [x] := by rw [List.take_add_one, hxk]; rfl
          have e2 : followL step s0 k (l.take (q + 1)) = followStep step (followL step s0 k (l.take q)) x := by rw [e1, followL_snoc]
          have hpre : l.take q ++ [x] <+: l := by rw [← e1]; exact List.take_prefix _ _
          have hperm := perm_follow step s0 k (l.take q) (fun y hy => HW.out.2 y (List.mem_of_mem_take hy))
          have HE1 := Lib.hid e1
          have HE2 := Lib.hid e2
          clear e1 e2
          have HPL0 := place_any x wr (by omega) (by omega)
          rw [show (if x < 0 then -x - 1 else x - 1) = (placeOf x : Int) by unfold placeOf; split <;> omega, show (if x < 0 then (-1 : Int) else 1) = signOf x from rfl] at HPL0
          have HPL := Lib.hid HPL0
          clear HPL0
          have hpl := placeOf_lt hxw
          have HCL := Lib.hid (fun (a b : Int) W (h1 : 0 ≤ a) (h2 : a < k) (h3 : 0 ≤ b) (h4 : b < k) hI hs => HCALL.out (followL step s0 k (l.take q)).1 (l.take q) x a b W hpre rfl h1 h2 h3 h4 hI hs)
          have HPRE := Lib.hid hpre
          clear hpre hxk
          generalize followL step s0 k (l.take q) = fs at *
          generalize hP : placeOf x = j at *
          have hal : fs.2.length = k := hperm.1
          have ha : fs.2[j]? = some (fs.2[j]'(by omega)) := by simp
          have hb : fs.2[j + 1]? = some (fs.2[j + 1]'(by omega)) := by simp
          generalize fs.2[j]'(by omega) = a at ha
          generalize fs.2[j + 1]'(by omega) = b at hb
          have hab := hperm.2 a (List.mem_of_getElem? ha)
          have hbb := hperm.2 b (List.mem_of_getElem? hb)
          have hca : wr.cell? ⟨w.heap.size, j, none⟩ = some (.int .u8 a) := by rw [hown.cellAt (by omega)]; simp [iv, ha]
          have hcb : wr.cell? ⟨w.heap.size, j + 1, none⟩ = some (.int .u8 b) := by rw [hown.cellAt (by omega)]; simp [iv, hb]
          have hsw : swapAt fs.2 j = (fs.2.set j b).set (j + 1) a := by
            unfold swapAt
            rw [List.getD_eq_getElem?_getD, List.getD_eq_getElem?_getD, ha, hb]
            rfl
          have hfst : followStep step fs x = (step fs.1 (a - 1) (b - 1) (signOf x), (fs.2.set j b).set (j + 1) a) := by
            unfold followStep
            rw [hP, hsw, List.getD_eq_getElem?_getD, List.getD_eq_getElem?_getD, ha, hb]
            rfl
          have HFS := Lib.hid hfst
          have HP := Lib.hid hP
          have HAL := Lib.hid hal
          clear hsw hfst hP hal
          have HAB : Hid (fs.2[j]? = some a ∧ fs.2[j + 1]? = some b) := ⟨ha, hb⟩
          clear ha hb
          generalize hSG : signOf x = sg at *
          have HSG := Lib.hid hSG
          clear hSG
          go_wp2_with fail
          refine HPL.out.mono ?_
          rintro e wz ⟨rfl, rfl⟩
          have hj1 : IntKind.i64.wrap ((j : Int) + 1) = (j : Int) + 1 := IntWalk.i64_in _ (by omega)
          have hj2 : (0 : Int) ≤ (j : Int) + 1 := by omega
          have hj3 : ((j : Int) + 1).toNat = j + 1 := by omega
          have hj4 : j < k := by omega
          have hj5 : (j : Int) + 1 < (k : Int) := by omega
          have ha1 : IntKind.i64.wrap a = a := IntWalk.i64_in _ (by omega)
          have hb1 : IntKind.i64.wrap b = b := IntWalk.i64_in _ (by omega)
          have ha2 : IntKind.i64.wrap (a - 1) = a - 1 := IntWalk.i64_in _ (by omega)
          have hb2 : IntKind.i64.wrap (b - 1) = b - 1 := IntWalk.i64_in _ (by omega)
          go_wp2_with fail
          go_still_tail 15, (by kernel_rfl)
          change wpList _ _ _ _ _ wr.drew
          generalize hWD : wr.drew = w3
          have hb3 : Below wr.heap.size wr w3 := by rw [← hWD]; exact Below.drew (Below.refl _ _)
          clear hWD
          go_wp2_with fail
          have hI3 : Inv fs.1 (l.take q) w3 := HST.out _ _ _ _ HI.out (fun z hz => hb3.block z (by have := HK.out z hz; have := hkept.size; omega)) hb3.size
          have HC3 := Lib.hid (HCL.out (a - 1) (b - 1) w3 (by omega) (by omega) (by omega) (by omega) hI3 (Nat.le_trans hkept.size hb3.size))
          clear hI3
          refine HC3.out.mono ?_
          rintro e w4 ⟨rfl, hI4, hk4⟩
          have HI4 := Lib.hid hI4
          clear hI4
          have hnk : ∀ g, ownB (some (⟨w.heap.size, 0, none⟩ : Addr)) = some g → ¬ K g := by
            intro g hg hkg
            have := HK.out g hkg
            simp [ownB] at hg
            omega
          have hown4 := (hown.below hb3).keptK hk4 hnk
          have HNK := Lib.hid hnk
          clear hnk
          have hka4 : KeptOut K w w4 := (hkept.trans (KeptOut.of_below hb3)).trans hk4
          have hca4 : w4.cell? ⟨w.heap.size, j, none⟩ = some (.int .u8 a) := by rw [hown4.cellAt (by omega)]; simp [iv, HAB.out.1]
          have hcb4 : w4.cell? ⟨w.heap.size, j + 1, none⟩ = some (.int .u8 b) := by rw [hown4.cellAt (by omega)]; simp [iv, HAB.out.2]
          have hfa := hown4.frozenAt j
          have hfb := hown4.frozenAt (j + 1)
          have S1 := (hown4.stored j (.int .u8 b)).stored (j + 1) (.int .u8 a)
          have SB := (hown4.stored_below j (.int .u8 b)).trans ((hown4.stored j (.int .u8 b)).stored_below (j + 1) (.int .u8 a))
          have hsz4 : w4.heap.size = ((w4.setCell ⟨w.heap.size, j, none⟩ (.int .u8 b)).setCell ⟨w.heap.size, j + 1, none⟩ (.int .u8 a)).drew.heap.size := by simp [World.setCell]
          have hI5 : Inv (step fs.1 (a - 1) (b - 1) sg) (l.take q ++ [x]) ((w4.setCell ⟨w.heap.size, j, none⟩ (.int .u8 b)).setCell ⟨w.heap.size, j + 1, none⟩ (.int .u8 a)).drew :=
            HST.out _ _ _ _ HI4.out (fun z hz => SB.drew.block z (HK.out z hz)) (by omega)
          have HI5 := Lib.hid hI5
          have HK5 := Lib.hid (hka4.step SB.drew)
          have HS1 := Lib.hid S1
          clear hI5 S1 SB hsz4 hca hcb ha1 hb1 ha2 hb2
          go_wp2_with fail
          go_region
          go_wp2
          go_roundw
          case rel => exact ⟨q + 1, by omega, by go_num, by rw [HE2.out, HFS.out, iv_set, iv_set]; exact HS1.out.drew, Lib.hid (by rw [HE2.out, HFS.out, HE1.out]; exact HI5.out), HK5.out⟩
          case measure => simp [intOf]; omega
        · have e1 : l.take q = l := List.take_of_length_le (by have := hlen.out; omega)
          rw [e1] at hown HI
          clear e1
          go_wp2
          go_ret
          exact ⟨_, rfl, hown, HI.out, hkept⟩

end Go.Proofs.YtkanbechahhmkaaDoor
