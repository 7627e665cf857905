/-
  The statement of the reference's Expand that draws its order, by itself: a new row is stored on top of the stack. Conditions: as stated.
-/
import Derived.Test.YtgpkcooipadnpaaDoorWrQ
namespace Go.Proofs.YtgpkcooipadnpaaDoor
set_option linter.unusedSimpArgs false
set_option linter.unusedVariables false
open Go.RowKit
set_option maxRecDepth 1000000

def regionIn (k : Nat) : Code → Option Code
  | .region i ops b => if i = k then some (.region i ops b) else none
  | .loop c => regionIn k c
  | .seq a b => match regionIn k a with
    | some c => some c
    | none => regionIn k b
  | .block _ c => regionIn k c
  | .scope c => regionIn k c
  | .cond _ a b => match regionIn k a with
    | some c => some c
    | none => regionIn k b
  | _ => none
noncomputable def region41 : Code := ((Tryd.f12.body.bind (regionIn 41)).getD .skip)

set_option maxHeartbeats 8000000 in
theorem region41_wp (Q : Exit → Act → World → Prop) (w7 : World) (g k n c q m kk : Nat) (B : Option Addr) (l : List St) (x : St)
    (hX7 : Blk w7 q 29 [.int .u8 x.kind, .int .u8 x.yarn, .int .i64 x.a, .int .i64 x.b, .bool x.front]) (hsub : (n : Int) - 1 = (k : Int)) (hn : n ≤ 3000) (hkn : (k : Int) < (n : Int)) (hk00 : (0 : Int) ≤ (k : Int)) (hgq : g < q) (hg2 : g < w7.heap.size)
    (c0 : w7.cell? ⟨g, k, none⟩ = some (.slice B m kk)) (f0 : w7.frozen? ⟨g, k, none⟩ = false) (hst : Sts w7 B m l) (hm17 : m < 17)
    (u0 u1 u2 u3 u5 u6 u7 u8 u9 u10 u11 u12 u14 u16 u17 u18 u19 u20 u21 u22 u23 u24 u25 u26 u27 u28 u29 u30 u31 u32 u33 u34 u35 u36 u37 u38 u39 u40 u41 u42 u43 u44 u45 u46 u47 u48 u49 u50 u51 u52 u53 u54 u55 u56 u57 u58 u59 u60 u61 u62 u63 u64 u65 u66 u67 u68 u69 u70 u71 u72 u73 u74 u75 u76 u77 u78 u79 u80 u81 u82 u83 u84 u85 u86 u87 u88 u89 u90 u91 u92 u93 u94 u95 u96 u97 u98 u99 u100 u101 u102 u103 u104 u105 u106 u107 u108 u109 u110 u111 u112 u113 u114 u115 u116 u117 u118 u119 u120 u121 u122 u123 u124 u125 u126 u127 u128 u129 u130 u131 u132 u133 u134 u135 u136 u137 u138 u139 u140 u141 u142 u143 u144 u145 u146 u147 u148 u149 u150 u151 u152 u153 u154 u155 u156 u157 u158 u159 u160 u161 u162 u163 u164 u165 u166 u167 u168 u169 u170 u171 u172 u173 u174 u175 u176 u177 u178 u179 u180 u181 u182 u183 u184 u185 u186 u187 u188 u189 u190 u191 u192 u193 u194 u195 u196 u197 u198 : Value)
    (h : ∀ (A4 : Option Addr) (c4 : Nat) (w4 : World) (x177 x178 x179 x180 x181 x182 x183 x184 x185 x186 x187 : Value), Own w4 w7.heap.size 29 5 A4 (m + 1) c4 (sc l ++ sc [x]) → Below w7.heap.size w7 w4 → Q .normal ⟨#[u0, u1, u2, u3, (.slice (some ⟨g, 0, none⟩) n c), u5, u6, u7, u8, u9, u10, u11, u12, (.pointer (some ⟨q, 0, none⟩)), u14, (.slice B m kk), u16, u17, u18, u19, u20, u21, u22, u23, u24, u25, u26, u27, u28, u29, u30, u31, u32, u33, u34, u35, u36, u37, u38, u39, u40, u41, u42, u43, u44, u45, u46, u47, u48, u49, u50, u51, u52, u53, u54, u55, u56, u57, u58, u59, u60, u61, u62, u63, u64, u65, u66, u67, u68, u69, u70, u71, u72, u73, u74, u75, u76, u77, u78, u79, u80, u81, u82, u83, u84, u85, u86, u87, u88, u89, u90, u91, u92, u93, u94, u95, u96, u97, u98, u99, u100, u101, u102, u103, u104, u105, u106, u107, u108, u109, u110, u111, u112, u113, u114, u115, u116, u117, u118, u119, u120, u121, u122, u123, u124, u125, u126, u127, u128, u129, u130, u131, u132, u133, u134, u135, u136, u137, u138, u139, u140, u141, u142, u143, u144, u145, u146, u147, u148, u149, u150, u151, u152, u153, u154, u155, u156, u157, u158, u159, u160, u161, u162, u163, u164, u165, u166, u167, u168, u169, u170, u171, u172, u173, u174, u175, u176, x177, x178, x179, x180, x181, x182, x183, x184, x185, x186, x187, u188, u189, u190, u191, u192, u193, u194, u195, u196, u197, u198], []⟩ (w4.setCell ⟨g, k, none⟩ (.slice A4 (m + 1) c4))) :
    Code.wp Tryd.prog region41 Q ⟨#[u0, u1, u2, u3, (.slice (some ⟨g, 0, none⟩) n c), u5, u6, u7, u8, u9, u10, u11, u12, (.pointer (some ⟨q, 0, none⟩)), u14, (.slice B m kk), u16, u17, u18, u19, u20, u21, u22, u23, u24, u25, u26, u27, u28, u29, u30, u31, u32, u33, u34, u35, u36, u37, u38, u39, u40, u41, u42, u43, u44, u45, u46, u47, u48, u49, u50, u51, u52, u53, u54, u55, u56, u57, u58, u59, u60, u61, u62, u63, u64, u65, u66, u67, u68, u69, u70, u71, u72, u73, u74, u75, u76, u77, u78, u79, u80, u81, u82, u83, u84, u85, u86, u87, u88, u89, u90, u91, u92, u93, u94, u95, u96, u97, u98, u99, u100, u101, u102, u103, u104, u105, u106, u107, u108, u109, u110, u111, u112, u113, u114, u115, u116, u117, u118, u119, u120, u121, u122, u123, u124, u125, u126, u127, u128, u129, u130, u131, u132, u133, u134, u135, u136, u137, u138, u139, u140, u141, u142, u143, u144, u145, u146, u147, u148, u149, u150, u151, u152, u153, u154, u155, u156, u157, u158, u159, u160, u161, u162, u163, u164, u165, u166, u167, u168, u169, u170, u171, u172, u173, u174, u175, u176, u177, u178, u179, u180, u181, u182, u183, u184, u185, u186, u187, u188, u189, u190, u191, u192, u193, u194, u195, u196, u197, u198], []⟩ w7 := by
  have hwk : IntKind.i64.wrap (k : Int) = (k : Int) := IntWalk.i64_in _ (by omega)
  have HXC : Hid (∀ W, Below w7.heap.size w7 W → (W.cell? ⟨q, 0, none⟩ = some (.int .u8 x.kind) ∧ W.cell? ⟨q, 1, none⟩ = some (.int .u8 x.yarn) ∧ W.cell? ⟨q, 2, none⟩ = some (.int .i64 x.a) ∧ W.cell? ⟨q, 3, none⟩ = some (.int .i64 x.b) ∧ W.cell? ⟨q, 4, none⟩ = some (.bool x.front))) := Lib.hid fun W hW =>
    ⟨(hW.cell (p := ⟨q, 0, none⟩) hX7.lt).trans (hX7.cell 0), (hW.cell (p := ⟨q, 1, none⟩) hX7.lt).trans (hX7.cell 1), (hW.cell (p := ⟨q, 2, none⟩) hX7.lt).trans (hX7.cell 2), (hW.cell (p := ⟨q, 3, none⟩) hX7.lt).trans (hX7.cell 3), (hW.cell (p := ⟨q, 4, none⟩) hX7.lt).trans (hX7.cell 4)⟩
  have HGC : Hid (∀ W, Below w7.heap.size w7 W → (W.cell? ⟨g, k, none⟩ = some (.slice B m kk) ∧ W.frozen? ⟨g, k, none⟩ = false)) := Lib.hid fun W hW =>
    ⟨(hW.cell (p := ⟨g, k, none⟩) hg2).trans c0, (hW.frozen (p := ⟨g, k, none⟩) hg2).trans f0⟩
  have HU : Hid (∀ W, Below w7.heap.size w7 W → Sts W B m l) := Lib.hid fun W hW => hst.below hW
  have HLIT : Hid (∀ W : World, Sts (W.alloc (.cells #[.int .u8 x.kind, .int .u8 x.yarn, .int .i64 x.a, .int .i64 x.b, .bool x.front] 29)) (some ⟨W.heap.size, 0, none⟩) 1 [x]) := Lib.hid fun W => Sts.lit W 29 [x]
  have HE1 : Hid (Own ((w7.alloc (.cells #[.int .u8 x.kind, .int .u8 x.yarn, .int .i64 x.a, .int .i64 x.b, .bool x.front] 29)).alloc (.cells #[] 29)) w7.heap.size 29 5 (some ⟨w7.heap.size + 1, 0, none⟩) 0 0 []) := Lib.hid (by
    have h := Own.empty (e := 29) (size := 5) (w := w7.alloc (.cells #[.int .u8 x.kind, .int .u8 x.yarn, .int .i64 x.a, .int .i64 x.b, .bool x.front] 29)) (base := w7.heap.size) (by simp)
    rwa [show (w7.alloc (.cells #[.int .u8 x.kind, .int .u8 x.yarn, .int .i64 x.a, .int .i64 x.b, .bool x.front] 29)).heap.size = w7.heap.size + 1 by simp] at h)
  have HXS : Hid (∀ W, Below w7.heap.size w7 W → ∀ u, ((W.setCell ⟨g, k, none⟩ u).cell? ⟨q, 0, none⟩ = some (.int .u8 x.kind) ∧ (W.setCell ⟨g, k, none⟩ u).cell? ⟨q, 1, none⟩ = some (.int .u8 x.yarn) ∧ (W.setCell ⟨g, k, none⟩ u).cell? ⟨q, 2, none⟩ = some (.int .i64 x.a) ∧ (W.setCell ⟨g, k, none⟩ u).cell? ⟨q, 3, none⟩ = some (.int .i64 x.b) ∧ (W.setCell ⟨g, k, none⟩ u).cell? ⟨q, 4, none⟩ = some (.bool x.front))) := Lib.hid fun W hW u => ⟨(World.cell?_setCell_other W ⟨g, k, none⟩ ⟨q, 0, none⟩ u (by intro e; injection e with e; omega)).trans (HXC.out W hW).1, (World.cell?_setCell_other W ⟨g, k, none⟩ ⟨q, 1, none⟩ u (by intro e; injection e with e; omega)).trans (HXC.out W hW).2.1, (World.cell?_setCell_other W ⟨g, k, none⟩ ⟨q, 2, none⟩ u (by intro e; injection e with e; omega)).trans (HXC.out W hW).2.2.1, (World.cell?_setCell_other W ⟨g, k, none⟩ ⟨q, 3, none⟩ u (by intro e; injection e with e; omega)).trans (HXC.out W hW).2.2.2.1, (World.cell?_setCell_other W ⟨g, k, none⟩ ⟨q, 4, none⟩ u (by intro e; injection e with e; omega)).trans (HXC.out W hW).2.2.2.2⟩
  unfold region41
  conv => arg 2; whnf
  go_region_held3 (fun W => W.cell? ⟨q, 0, none⟩ = some (.int .u8 x.kind) ∧ W.cell? ⟨q, 1, none⟩ = some (.int .u8 x.yarn) ∧ W.cell? ⟨q, 2, none⟩ = some (.int .i64 x.a) ∧ W.cell? ⟨q, 3, none⟩ = some (.int .i64 x.b) ∧ W.cell? ⟨q, 4, none⟩ = some (.bool x.front)) (first | exact HXC.out _ (Below.refl _ _) | exact HXC.out _ (Below.refl _ _).drew | exact HXC.out _ hB4 | exact HXC.out _ hB4.drew | exact HXS.out _ hB4 _ | exact HXC.out _ hB3 | exact HXC.out _ hB3.drew | exact HXC.out _ (hB3.alloc hB3.size _).drew | exact HXC.out _ ((Below.refl _ _).alloc (Nat.le_refl _) _).drew | exact HXC.out _ (((Below.refl _ _).alloc (Nat.le_refl _) _).alloc (by simp) _).drew | go_keep) (first
    | (refine step_appB _ (by rfl) (.tmp 183) (.tmp 185) 22 (by rfl) w7.heap.size 29 Tryd.underlying22 elemSt _ _ _ _ (by rfl) (hown3.alloc (.cells #[.int .u8 x.kind, .int .u8 x.yarn, .int .i64 x.a, .int .i64 x.b, .bool x.front] 29)) _ _ _ _ (sc [x]) (by rfl) (HLIT.out w3) (sc_one _) (by omega) (by have := hB3.size; simp; try omega) ?_
       intro A4 c4 w4 hown4 hg4 hb4
       have hB4 : Below w7.heap.size w7 w4 := (by first | exact (hB3.alloc hB3.size (.cells #[.int .u8 x.kind, .int .u8 x.yarn, .int .i64 x.a, .int .i64 x.b, .bool x.front] 29)).trans hb4 | exact (hB3.alloc hB3.size (.cells #[.int .u8 x.kind, .int .u8 x.yarn, .int .i64 x.a, .int .i64 x.b, .bool x.front] 29)).drew.trans hb4 | exact (hB3.alloc hB3.size (.cells #[.int .u8 x.kind, .int .u8 x.yarn, .int .i64 x.a, .int .i64 x.b, .bool x.front] 29)).drew.drew.trans hb4)
       have hC4 := (HGC.out w4 hB4).1
       have hF4 := (HGC.out w4 hB4).2
       clear hb4 hg4)
    | (refine step_appB _ (by rfl) (.tmp 183) (.tmp 185) 22 (by rfl) w7.heap.size 29 Tryd.underlying22 elemSt _ _ _ _ (by rfl) hown3 _ _ _ _ (sc [x]) (by rfl) hL3 (sc_one _) (by omega) (by have := hB3.size; simp; try omega) ?_
       intro A4 c4 w4 hown4 hg4 hb4
       have hB4 : Below w7.heap.size w7 w4 := (by first | exact hB3.trans hb4 | exact hB3.drew.trans hb4 | exact hB3.drew.drew.trans hb4)
       have hC4 := (HGC.out w4 hB4).1
       have hF4 := (HGC.out w4 hB4).2
       clear hb4 hg4)
    | (refine step_app0B _ (by rfl) (.tmp 181) (.tmp 182) 22 (by rfl) w7.heap.size 29 Tryd.underlying22 elemSt _ 0 (by rfl) (Own.empty (Nat.le_refl _)) _ _ _ _ (sc l) (by rfl) ((HU.out _ (Below.refl _ _)).alloc _) (sc_one _) (by omega) (by simp; try omega) ?_
       intro A3 c3 w3 hown3 hg3 hb3
       have hB3 : Below w7.heap.size w7 w3 := (by first | exact ((Below.refl w7.heap.size w7).alloc (Nat.le_refl _) (.cells #[] 29)).trans hb3 | exact ((Below.refl w7.heap.size w7).alloc (Nat.le_refl _) (.cells #[] 29)).drew.trans hb3 | exact ((Below.refl w7.heap.size w7).alloc (Nat.le_refl _) (.cells #[] 29)).drew.drew.trans hb3)
       clear hb3 hg3)
    | (refine step_app0B _ (by rfl) (.tmp 181) (.tmp 182) 22 (by rfl) w7.heap.size 29 Tryd.underlying22 elemSt _ 0 (by rfl) ((Own.empty (Nat.le_refl _)).alloc (.cells #[.int .u8 x.kind, .int .u8 x.yarn, .int .i64 x.a, .int .i64 x.b, .bool x.front] 29)) _ _ _ _ (sc l) (by rfl) (((HU.out _ (Below.refl _ _)).alloc (.cells #[] 29)).alloc (.cells #[.int .u8 x.kind, .int .u8 x.yarn, .int .i64 x.a, .int .i64 x.b, .bool x.front] 29)) (sc_one _) (by omega) (by simp; try omega) ?_
       intro A3 c3 w3 hown3 hg3 hb3
       have hB3 : Below w7.heap.size w7 w3 := (by first | exact (((Below.refl w7.heap.size w7).alloc (Nat.le_refl _) (.cells #[] 29)).alloc (by simp) (.cells #[.int .u8 x.kind, .int .u8 x.yarn, .int .i64 x.a, .int .i64 x.b, .bool x.front] 29)).trans hb3 | exact (((Below.refl w7.heap.size w7).alloc (Nat.le_refl _) (.cells #[] 29)).alloc (by simp) (.cells #[.int .u8 x.kind, .int .u8 x.yarn, .int .i64 x.a, .int .i64 x.b, .bool x.front] 29)).drew.trans hb3 | exact (((Below.refl w7.heap.size w7).alloc (Nat.le_refl _) (.cells #[] 29)).alloc (by simp) (.cells #[.int .u8 x.kind, .int .u8 x.yarn, .int .i64 x.a, .int .i64 x.b, .bool x.front] 29)).drew.drew.trans hb3)
       have hL3 : Sts w3 (some ⟨w7.heap.size + 1, 0, none⟩) 1 [x] := (by have h := HLIT.out (w7.alloc (.cells #[] 29)); rw [show (w7.alloc (.cells #[] 29)).heap.size = w7.heap.size + 1 by simp] at h; refine Sts.grown_far ?_ hg3 (fun ad e => by injection e with e; subst e; simp [ownB]); exact h)
       clear hb3 hg3)
    | (refine step_app0B _ (by rfl) (.tmp 181) (.tmp 182) 22 (by rfl) w7.heap.size 29 Tryd.underlying22 elemSt _ 0 (by rfl) HE1.out _ _ _ _ (sc l) (by rfl) (((HU.out _ (Below.refl _ _)).alloc (.cells #[.int .u8 x.kind, .int .u8 x.yarn, .int .i64 x.a, .int .i64 x.b, .bool x.front] 29)).alloc (.cells #[] 29)) (sc_one _) (by omega) (by simp; try omega) ?_
       intro A3 c3 w3 hown3 hg3 hb3
       have hB3 : Below w7.heap.size w7 w3 := (by first | exact (((Below.refl w7.heap.size w7).alloc (Nat.le_refl _) (.cells #[.int .u8 x.kind, .int .u8 x.yarn, .int .i64 x.a, .int .i64 x.b, .bool x.front] 29)).alloc (by simp) (.cells #[] 29)).trans hb3 | exact (((Below.refl w7.heap.size w7).alloc (Nat.le_refl _) (.cells #[.int .u8 x.kind, .int .u8 x.yarn, .int .i64 x.a, .int .i64 x.b, .bool x.front] 29)).alloc (by simp) (.cells #[] 29)).drew.trans hb3 | exact (((Below.refl w7.heap.size w7).alloc (Nat.le_refl _) (.cells #[.int .u8 x.kind, .int .u8 x.yarn, .int .i64 x.a, .int .i64 x.b, .bool x.front] 29)).alloc (by simp) (.cells #[] 29)).drew.drew.trans hb3)
       have hL3 : Sts w3 (some ⟨w7.heap.size, 0, none⟩) 1 [x] := (by refine Sts.grown_far ?_ hg3 (fun ad e => by injection e with e; subst e; simp [ownB]); exact (HLIT.out w7).alloc (.cells #[] 29))
       clear hb3 hg3))
  all_goals exact h _ _ _ _ _ _ _ _ _ _ _ _ _ _ hown4 hB4

end Go.Proofs.YtgpkcooipadnpaaDoor
