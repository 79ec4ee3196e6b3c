/- Printed by a program: what the functions compute, and the proofs of their contracts. Printed by a program: what the functions compute, and the proofs of their contracts. -/
import Derived.Test.YtmaemlebpjnmoaaGreatDoorGeB
set_option linter.unusedVariables false
set_option linter.unusedSimpArgs false
set_option linter.unnecessarySimpa false
namespace Go.Proofs.YtmaemlebpjnmoaaGreatDoor
open Go.SX Go
open Go.IntKind (i64 u64 u8 i32 u32)
set_option maxRecDepth 100000
set_option maxHeartbeats 8000000
def cD (p1 : ah) (p7 p8 : (List Int)) (l9 l10 : List Int) (l11 : List ac) (z7 : List ak) (z8 : Bool) : Option (ac × (List ak) × Bool × (List Int) × (List Int)) := aT (bp l11) fun r11 => fL (l9.length = p7.length) <| fL (l10.length = p8.length) <| some ((ac.mk p1.type.kind (0 : Int) (0 : Int) ByteArray.empty r11), z7, z8, l9, l10)
def cC (q_column_assembler_field : ah → Int → Int → Int → (List ak) → Bool → (List Int) → (List Int) → Option (ac × (List ak) × Bool × (List Int) × (List Int))) (rec1 : List Int → List Int → List ac → List ak → Bool → Bool → Option (ac × (List ak) × Bool × (List Int) × (List Int))) (p1 : ah) (p2 p4 : Int) (p7 p8 : (List Int)) (x1 : Int) (l3 l4 : List Int) (l5 : List ac) (z3 : List ak) (z4 x3 : Bool) : Option (ac × (List ak) × Bool × (List Int) × (List Int)) := aI x3 (aT (at? p1.type.fields (0 : Int)) fun e1 => aT (q_column_assembler_field e1 p2 (i64.wrap (x1 + 1)) (i64.wrap (p4 + 1)) z3 z4 l3 l4) fun r6 => fL (r6.2.2.2.1.length = l3.length) <| fL (r6.2.2.2.2.length = l4.length) <| fL (l5.length + 1 ≤ 4294967296) <| aT (at? r6.2.2.2.1 p2) fun e2 => aT (at? r6.2.1 p2) fun e3 => aI (decide (e2 < (e3.reps.length : Int))) (aT (at? e3.reps e2) fun e4 => rec1 r6.2.2.2.1 r6.2.2.2.2 (l5 ++ [r6.1]) r6.2.1 r6.2.2.1 (decide (p4 < e4))) (rec1 r6.2.2.2.1 r6.2.2.2.2 (l5 ++ [r6.1]) r6.2.1 r6.2.2.1 false)) (cD p1 p7 p8 l3 l4 l5 z3 z4)
def aV (q_column_assembler_field : ah → Int → Int → Int → (List ak) → Bool → (List Int) → (List Int) → Option (ac × (List ak) × Bool × (List Int) × (List Int))) (p1 : ah) (p2 p4 : Int) (p7 p8 : (List Int)) (x1 : Int) : Nat → List Int → List Int → List ac → List ak → Bool → Bool → Option (ac × (List ak) × Bool × (List Int) × (List Int))
 | 0, _, _, _, _, _, _ => none
 | k1 + 1, l3, l4, l5, z3, z4, x2 => aI x2 (cC q_column_assembler_field (aV q_column_assembler_field p1 p2 p4 p7 p8 x1 k1) p1 p2 p4 p7 p8 x1 l3 l4 l5 z3 z4 (!z4)) (cC q_column_assembler_field (aV q_column_assembler_field p1 p2 p4 p7 p8 x1 k1) p1 p2 p4 p7 p8 x1 l3 l4 l5 z3 z4 false)
def bE (q_column_assembler_field : ah → Int → Int → Int → (List ak) → Bool → (List Int) → (List Int) → Option (ac × (List ak) × Bool × (List Int) × (List Int))) (p1 : ah) (p4 : Int) (p7 p8 : (List Int)) (x1 : Int) : Nat → List Int → List Int → List ac → List ak → Bool → Int → Int → Option (ac × (List ak) × Bool × (List Int) × (List Int))
 | 0, _, _, _, _, _, _, _ => none
 | k2 + 1, l6, l7, l8, z5, z6, x4, x5 => aI (decide (x5 < (p1.type.fields.length : Int))) (aT (at? p1.type.fields x5) fun e5 => aT (q_column_assembler_field e5 x4 x1 p4 z5 z6 l6 l7) fun r7 => fL (r7.2.2.2.1.length = l6.length) <| fL (r7.2.2.2.2.length = l7.length) <| fL (l8.length + 1 ≤ 4294967296) <| aT (dk bf e5.type) fun r8 => (bE q_column_assembler_field p1 p4 p7 p8 x1 k2) r7.2.2.2.1 r7.2.2.2.2 (l8 ++ [r7.1]) r7.2.1 r7.2.2.1 (i64.wrap (x4 + r8)) (i64.wrap (x5 + 1))) (cD p1 p7 p8 l6 l7 l8 z5 z6)
def cE (q_column_assembler_field : ah → Int → Int → Int → (List ak) → Bool → (List Int) → (List Int) → Option (ac × (List ak) × Bool × (List Int) × (List Int))) (p1 : ah) (p2 p4 : Int) (p7 p8 : (List Int)) (r1 : Int) (l1 l2 : List Int) (z1 : List ak) (z2 : Bool) (x1 : Int) : Option (ac × (List ak) × Bool × (List Int) × (List Int)) := aI (p1.type.kind == 6) (aT (da p2 z1 z2 l1 l2) fun r4 => fL (r4.2.2.2.1.length = l1.length) <| fL (r4.2.2.2.2.length = l2.length) <| aI (decide (r4.1 ≤ x1)) (aT (bK p2 r1 r4.2.1 r4.2.2.1 r4.2.2.2.1 r4.2.2.2.2) fun r5 => fL (r5.2.2.2.1.length = r4.2.2.2.1.length) <| fL (r5.2.2.2.2.length = r4.2.2.2.2.length) <| fL (r5.2.2.2.1.length = p7.length) <| fL (r5.2.2.2.2.length = p8.length) <| some ((ac.mk p1.type.kind (0 : Int) (0 : Int) ByteArray.empty []), r5.2.1, r5.2.2.1, r5.2.2.2.1, r5.2.2.2.2)) (aV q_column_assembler_field p1 p2 p4 p7 p8 x1 bf r4.2.2.2.1 r4.2.2.2.2 [] r4.2.1 r4.2.2.1 true)) (aI (p1.type.kind == 7) (bE q_column_assembler_field p1 p4 p7 p8 x1 bf l1 l2 [] z1 z2 p2 (0 : Int)) (aT (bK p2 (1 : Int) z1 z2 l1 l2) fun r9 => fL (r9.2.2.2.1.length = l1.length) <| fL (r9.2.2.2.2.length = l2.length) <| aT (at? r9.2.2.2.2 p2) fun e6 => aT (at? r9.2.1 p2) fun e7 => aI (e6 == (e7.values.length : Int)) (fL (r9.2.2.2.1.length = p7.length) <| fL (r9.2.2.2.2.length = p8.length) <| some ((ac.mk (0 : Int) (0 : Int) (0 : Int) ByteArray.empty []), r9.2.1, true, r9.2.2.2.1, r9.2.2.2.2)) (aT (at? e7.values e6) fun e8 => aT (iE bf e8) fun r10 => fL (r9.2.2.2.1.length = p7.length) <| fL ((r9.2.2.2.2.set p2.toNat (i64.wrap (e6 + 1))).length = p8.length) <| some (r10, r9.2.1, r9.2.2.1, r9.2.2.2.1, (r9.2.2.2.2.set p2.toNat (i64.wrap (e6 + 1)))))))
def aN : Nat → ah → Int → Int → Int → (List ak) → Bool → (List Int) → (List Int) → Option (ac × (List ak) × Bool × (List Int) × (List Int))
 | 0, _, _, _, _, _, _, _, _ => none
 | k0 + 1, p1, p2, p3, p4, p5, p6, p7, p8 => aI p6 (some ((ac.mk (0 : Int) (0 : Int) (0 : Int) ByteArray.empty []), p5, p6, p7, p8)) (aT (dk bf p1.type) fun r1 => aI (!p1.need) (aT (da p2 p5 p6 p7 p8) fun r2 => fL (r2.2.2.2.1.length = p7.length) <| fL (r2.2.2.2.2.length = p8.length) <| aI (decide (r2.1 ≤ p3)) (aT (bK p2 r1 r2.2.1 r2.2.2.1 r2.2.2.2.1 r2.2.2.2.2) fun r3 => fL (r3.2.2.2.1.length = r2.2.2.2.1.length) <| fL (r3.2.2.2.2.length = r2.2.2.2.2.length) <| fL (r3.2.2.2.1.length = p7.length) <| fL (r3.2.2.2.2.length = p8.length) <| some ((ac.mk (0 : Int) (0 : Int) (0 : Int) ByteArray.empty []), r3.2.1, r3.2.2.1, r3.2.2.2.1, r3.2.2.2.2)) (cE (aN k0) p1 p2 p4 p7 p8 r1 r2.2.2.2.1 r2.2.2.2.2 r2.2.1 r2.2.2.1 (i64.wrap (p3 + 1)))) (cE (aN k0) p1 p2 p4 p7 p8 r1 p7 p8 p5 p6 p3))
abbrev rT (p5 : (List ak)) (p6 : Bool) (p7 p8 : (List Int)) : List CV := [cl af p5, .sl 1 1 0 p7.length, .sl 2 1 0 p8.length, cb p6]
abbrev tc (l1 l2 : List Int) (z1 : List ak) (z2 : Bool) : List CV := [cl af z1, .sl 1 1 0 l1.length, .sl 2 1 0 l2.length, cb z2]
abbrev kP (p1 : ah) (l11 : List ac) : List CV := [ci p1.type.kind, ci 0, ci 0, cj ByteArray.empty, .sl 5 5 0 l11.length]
abbrev wN (p1 : ah) (r11 : (List ac)) : List CV := [ci p1.type.kind, ci 0, ci 0, cj ByteArray.empty, cl aa r11]
abbrev mS (p1 : ah) : List CV := [ci p1.type.kind, ci 0, ci 0, cj ByteArray.empty, .pv (.s (.slice none 0 0))]
abbrev tq (r4 : (Int × (List ak) × Bool × (List Int) × (List Int))) : List CV := [cl af r4.2.1, .sl 1 1 0 r4.2.2.2.1.length, .sl 2 1 0 r4.2.2.2.2.length, cb r4.2.2.1]
abbrev pP (r6 : (ac × (List ak) × Bool × (List Int) × (List Int))) : List CV := [ci r6.1.kind, ci r6.1.n, ci r6.1.scale, cj r6.1.s, cl aa r6.1.items]
abbrev Bg (p1 : ah) (p4 x1 x4 x5 r8 : Int) : Fr := [(0, vq 0), (2, vi (i64.wrap (x4 + r8))), (3, vi x1), (4, vi p4), (10, vq 3), (12, vq 4), (168, vl ab p1.type.fields), (169, vi (p1.type.fields.length : Int)), (170, vi (i64.wrap (x5 + 1)))]
abbrev tO (p1 : ah) (l1 l2 : List Int) (z1 : List ak) (z2 : Bool) : St := [.box (tc l1 l2 z1 z2), .arr 1 (eI.els l1), .arr 1 (eI.els l2), .box dt, .box (mS p1)]
abbrev w9 (p1 : ah) (l3 l4 : List Int) (l5 : List ac) (z3 : List ak) (z4 : Bool) : St := [.box [cl af z3, .sl 1 1 0 l3.length, .sl 2 1 0 l4.length, cb z4], .arr 1 (eI.els l3), .arr 1 (eI.els l4), .box dt, .box (kP p1 l5), .arr 5 (aa.els l5)]
abbrev Bn (p1 : ah) (p2 p4 x1 e4 : Int) : Fr := [(0, vq 0), (2, vi p2), (3, vi x1), (4, vi p4), (6, vR (aJ p1)), (10, vq 3), (12, vq 4), (13, vb (decide (p4 < e4)))]
abbrev Ad (p1 : ah) (p2 p4 x1 : Int) : Fr := [(0, vq 0), (2, vi p2), (3, vi x1), (4, vi p4), (6, vR (aJ p1)), (10, vq 3), (12, vq 4), (13, vb false)]
theorem fU : ∀ (k0 : Nat) (p1 : ah) (p2 p3 p4 : Int) (p5 : (List ak)) (p6 : Bool) (p7 p8 : (List Int)) (r : (ac × (List ak) × Bool × (List Int) × (List Int))), aN k0 p1 p2 p3 p4 p5 p6 p7 p8 = some r → MC Tryz.prog 97 [vq 0, .ag [ci p1.id, cj p1.name, cb p1.need, ci p1.type.kind, ci p1.type.scale, cl ab p1.type.fields], vi p2, vi p3, vi p4] [.box (rT p5 p6 p7 p8), .arr 1 (eI.els p7), .arr 1 (eI.els p8)] (.ag [ci r.1.kind, ci r.1.n, ci r.1.scale, cj r.1.s, cl aa r.1.items]) [.box [cl af r.2.1, .sl 1 1 0 p7.length, .sl 2 1 0 p8.length, cb r.2.2.1], .arr 1 (eI.els r.2.2.2.1), .arr 1 (eI.els r.2.2.2.2)]
 | 0, _, _, _, _, _, _, _, _, r, h => by rw [aN.eq_1] at h; cases h
 | k0 + 1, p1, p2, p3, p4, p5, p6, p7, p8, r, h => by
  rw [aN.eq_2] at h
  refine MC.of 3 (n := 196) (fn := Tryz.f97) (c := cd Tryz.f97 []) (by kernel_rfl) (by kernel_rfl) (by kernel_rfl) (Nat.le_of_ble_eq_true rfl) rfl (zq fun K1 m1 => zr (zg [10, 12, 16] 2 [0,2,3,4,6,10] (zd (m1 _ _ (zq fun K2 m2 => zq fun K3 m3 => ?_)))))
  refine zr (zg [10, 12, 16] 4 [0,2,3,4,6,10,21] (zd (m3 _ _ (zC h (fun b4 h => ?_) (fun b4 h => ?_)))))
  ·refine zq fun K5 m5 => zr (zv [10, 12, 16] 2 [10] [] [(10, vq 3)] [.box (rT p5 p6 p7 p8), .arr 1 (eI.els p7), .arr 1 (eI.els p8), .box dt] (zd (m5 _ _ (ze ?_))))
   obtain rfl := zj h
   exact eT.fin (.inr rfl) [] [.ag dt] [] (by kernel_rfl) trivial (by kernel_rfl) (by kernel_rfl) (.ag (.cons (.rfl _ rfl) (.cons (.rfl _ rfl) (.cons (.rfl _ rfl) (.cons (.rfl _ rfl) (.cons (.nl) .nil))))))
  ·refine zs (m2 _ _ (zq fun K6 m6 => ?_))
   obtain ⟨r1, c7, h⟩ := zB h
   refine zr (zu [10, 12, 16] 2 [0,2,3,4,6,10,24] [(aJ p1)] (za (jl bf _ _ c7) ?_))
   refine zv [10, 12, 16] 1 [0,2,3,4,6,10,11] [] [(0, vq 0), (2, vi p2), (3, vi p3), (4, vi p4), (6, vR (aJ p1)), (10, vq 3), (11, vi r1)] [.box (rT p5 p6 p7 p8), .arr 1 (eI.els p7), .arr 1 (eI.els p8), .box dt] (zd (m6 _ _ (zq fun K8 m8 => ?_)))
   have j1 : ∀ (l1 l2 : List Int) (z1 : List ak) (z2 : Bool) (x1 : Int), cE (aN k0) p1 p2 p4 p7 p8 r1 l1 l2 z1 z2 x1 = some r → ∀ w0 w1, aL 196 3 [] w0 w1 [(0, vq 0), (2, vi p2), (3, vi x1), (4, vi p4), (6, vR (aJ p1)), (10, vq 3), (11, vi r1)] [.box (tc l1 l2 z1 z2), .arr 1 (eI.els l1), .arr 1 (eI.els l2), .box dt] → K8 w0 w1 := by
    intro l1 l2 z1 z2 x1 h w0 w1 hS
    unfold cE at h
    refine m8 _ _ (XW.sub hS ?_)
    refine zq fun K24 m24 => zr (zu [10, 12, 16] 6 [0,2,3,4,6,10,11,12] [(aJ p1)] (zd (m24 _ _ (zq fun K25 m25 => ?_))))
    have j3 : ∀ (l9 l10 : List Int) (l11 : List ac) (z7 : List ak) (z8 : Bool), cD p1 p7 p8 l9 l10 l11 z7 z8 = some r → ∀ w0 w1, aL 196 3 [] w0 w1 [(10, vq 3), (12, vq 4)] [.box [cl af z7, .sl 1 1 0 l9.length, .sl 2 1 0 l10.length, cb z8], .arr 1 (eI.els l9), .arr 1 (eI.els l10), .box dt, .box (kP p1 l11), .arr 5 (aa.els l11)] → K25 w0 w1 := by
     intro l9 l10 l11 z7 z8 h w0 w1 hS
     unfold cD at h
     refine m25 _ _ (XW.sub hS ?_)
     refine zq fun K93 m93 => ?_
     obtain ⟨r11, c94, h⟩ := zB h
     refine zr (zv [10, 12, 16] 2 [10,12,192] [] [(10, vq 3), (12, vq 4), (192, .one (.sl 5 5 0 l11.length))] [.box [cl af z7, .sl 1 1 0 l9.length, .sl 2 1 0 l10.length, cb z8], .arr 1 (eI.els l9), .arr 1 (eI.els l10), .box dt, .box (kP p1 l11), .arr 5 (aa.els l11)] ?_)
     refine XO.sub (aL.trans (aL.stale 4 4 5 5 0 l11.length (kP p1 l11) rfl rfl [.box [cl af z7, .sl 1 1 0 l9.length, .sl 2 1 0 l10.length, cb z8], .arr 1 (eI.els l9), .arr 1 (eI.els l10), .box dt, .box [ci p1.type.kind, ci 0, ci 0, cj ByteArray.empty, .sl 6 5 0 l11.length], .arr 5 (aa.els l11), .dead] rfl) (aL.kill (fr' := [(10, vq 3), (12, vq 4), (192, vl aa l11)]) 5 (by decide) (by kernel_rfl) ⟨.one (.rfl _ rfl), .one (.rfl _ rfl), .one (iS aa l11 rfl rfl rfl), trivial⟩)) ?_
     refine za (cN _ _ c94) (zg [10, 12, 16] 2 [10,12] (zd (m93 _ _ (zq fun K95 m95 => zr (zv [10, 12, 16] 2 [10] [] [(10, vq 3)] [.box [cl af z7, .sl 1 1 0 l9.length, .sl 2 1 0 l10.length, cb z8], .arr 1 (eI.els l9), .arr 1 (eI.els l10), .box (wN p1 r11), .box (wN p1 r11), .dead, .dead] (zd ?_))))))
     refine m95 _ _ (ze ?_)
     obtain ⟨g96, h⟩ := zG h
     obtain ⟨g97, h⟩ := zG h
     obtain rfl := zj h
     rw [← g96]
     rw [← g97]
     exact eT.fin (.inr rfl) [] [.ag (wN p1 r11)] [] (by kernel_rfl) trivial (by kernel_rfl) (by kernel_rfl) (.ag (.cons (.rfl _ rfl) (.cons (.rfl _ rfl) (.cons (.rfl _ rfl) (.cons (.rfl _ rfl) (.cons (.rfl _ rfl) .nil))))))
    refine zq fun K26 m26 => zr (zu [10, 12, 16] 3 [0,2,3,4,6,10,11,12,47] [(aJ p1)] (zd (m26 _ _ (zb 0 (zq fun K27 m27 => zr ?_)))))
    refine zv [10, 12, 16] 2 [0,2,3,4,6,10,11,12,47,94] [] [(0, vq 0), (2, vi p2), (3, vi x1), (4, vi p4), (6, vR (aJ p1)), (10, vq 3), (11, vi r1), (12, vq 4), (47, vi p1.type.kind), (94, vb (p1.type.kind == 6))] (tO p1 l1 l2 z1 z2) ?_
    refine zd (m27 _ _ (zC h (fun b28 h => ?_) (fun b28 h => ?_)))
    ·refine zq fun K29 m29 => zq fun K30 m30 => ?_
     obtain ⟨r4, c31, h⟩ := zB h
     obtain ⟨g32, h⟩ := zG h
     obtain ⟨g33, h⟩ := zG h
     refine zr ?_
     refine zv [10, 12, 16] 2 [0,2,3,4,6,10,11,12,96,97] [] [(0, vq 0), (2, vi p2), (3, vi x1), (4, vi p4), (6, vR (aJ p1)), (10, vq 3), (11, vi r1), (12, vq 4), (96, vq 0), (97, vi p2)] (tO p1 l1 l2 z1 z2) ?_
     refine XO.calm 143 [vq 0, vi p2] [.box (tc l1 l2 z1 z2), .arr 1 (eI.els l1), .arr 1 (eI.els l2)] [.box [cl af r4.2.1, .sl 1 1 0 l1.length, .sl 2 1 0 l2.length, cb r4.2.2.1], .arr 1 (eI.els r4.2.2.2.1), .arr 1 (eI.els r4.2.2.2.2)] (vi r4.1) [0, 1, 2] [(98, vi r4.1), (0, vq 0), (2, vi p2), (3, vi x1), (4, vi p4), (6, vR (aJ p1)), (10, vq 3), (11, vi r1), (12, vq 4), (96, vq 0), (97, vi p2)] [.box [cl af r4.2.1, .sl 1 1 0 l1.length, .sl 2 1 0 l2.length, cb r4.2.2.1], .arr 1 (eI.els r4.2.2.2.1), .arr 1 (eI.els r4.2.2.2.2), .box dt, .box (mS p1)] (by kernel_rfl) (gI _ _ _ _ _ _ c31) (by kernel_rfl) (by kernel_rfl) (by kernel_rfl) (by kernel_rfl) ?_
     refine XO.sub (aL.eq (fr' := [(98, vi r4.1), (0, vq 0), (2, vi p2), (3, vi x1), (4, vi p4), (6, vR [pi p1.id, .s (.string p1.name), .s (.bool p1.need), pi p1.type.kind, pi p1.type.scale, .ro (ab.els p1.type.fields)]), (10, vq 3), (11, vi r1), (12, vq 4), (96, vq 0), (97, vi p2)]) (st' := [.box [cl af r4.2.1, .sl 1 1 0 r4.2.2.2.1.length, .sl 2 1 0 l2.length, cb r4.2.2.1], .arr 1 (eI.els r4.2.2.2.1), .arr 1 (eI.els r4.2.2.2.2), .box [ci 0, ci 0, ci 0, cj ByteArray.empty, .pv (.s (.slice none 0 0))], .box [ci p1.type.kind, ci 0, ci 0, cj ByteArray.empty, .pv (.s (.slice none 0 0))]]) rfl (by rw [g32])) ?_
     refine XO.sub (aL.eq (fr' := [(98, vi r4.1), (0, vq 0), (2, vi p2), (3, vi x1), (4, vi p4), (6, vR [pi p1.id, .s (.string p1.name), .s (.bool p1.need), pi p1.type.kind, pi p1.type.scale, .ro (ab.els p1.type.fields)]), (10, vq 3), (11, vi r1), (12, vq 4), (96, vq 0), (97, vi p2)]) (st' := [.box [cl af r4.2.1, .sl 1 1 0 r4.2.2.2.1.length, .sl 2 1 0 r4.2.2.2.2.length, cb r4.2.2.1], .arr 1 (eI.els r4.2.2.2.1), .arr 1 (eI.els r4.2.2.2.2), .box [ci 0, ci 0, ci 0, cj ByteArray.empty, .pv (.s (.slice none 0 0))], .box [ci p1.type.kind, ci 0, ci 0, cj ByteArray.empty, .pv (.s (.slice none 0 0))]]) rfl (by rw [g33])) ?_
     refine zg [10, 12, 16] 2 [0,2,3,4,6,10,11,12,100] (zd (m30 _ _ (zC h (fun b34 h => ?_) (fun b34 h => ?_))))
     ·refine zq fun K35 m35 => ?_
      obtain ⟨r5, c36, h⟩ := zB h
      obtain ⟨g37, h⟩ := zG h
      obtain ⟨g38, h⟩ := zG h
      refine zr (zv [10, 12, 16] 3 [10,12,101,102,103] [] [(10, vq 3), (12, vq 4), (101, vq 0), (102, vi p2), (103, vi r1)] [.box (tq r4), .arr 1 (eI.els r4.2.2.2.1), .arr 1 (eI.els r4.2.2.2.2), .box dt, .box (mS p1)] ?_)
      refine XO.calm 144 [vq 0, vi p2, vi r1] [.box (tq r4), .arr 1 (eI.els r4.2.2.2.1), .arr 1 (eI.els r4.2.2.2.2)] [.box [cl af r5.2.1, .sl 1 1 0 r4.2.2.2.1.length, .sl 2 1 0 r4.2.2.2.2.length, cb r5.2.2.1], .arr 1 (eI.els r5.2.2.2.1), .arr 1 (eI.els r5.2.2.2.2)] (.tp []) [0, 1, 2] [(104, .tp []), (10, vq 3), (12, vq 4), (101, vq 0), (102, vi p2), (103, vi r1)] [.box [cl af r5.2.1, .sl 1 1 0 r4.2.2.2.1.length, .sl 2 1 0 r4.2.2.2.2.length, cb r5.2.2.1], .arr 1 (eI.els r5.2.2.2.1), .arr 1 (eI.els r5.2.2.2.2), .box dt, .box (mS p1)] (by kernel_rfl) (gy _ _ _ _ _ _ _ c36) (by kernel_rfl) (by kernel_rfl) (by kernel_rfl) (by kernel_rfl) ?_
      refine XO.sub (aL.eq (fr' := [(104, .tp []), (10, vq 3), (12, vq 4), (101, vq 0), (102, vi p2), (103, vi r1)]) (st' := [.box [cl af r5.2.1, .sl 1 1 0 r5.2.2.2.1.length, .sl 2 1 0 r4.2.2.2.2.length, cb r5.2.2.1], .arr 1 (eI.els r5.2.2.2.1), .arr 1 (eI.els r5.2.2.2.2), .box [ci 0, ci 0, ci 0, cj ByteArray.empty, .pv (.s (.slice none 0 0))], .box [ci p1.type.kind, ci 0, ci 0, cj ByteArray.empty, .pv (.s (.slice none 0 0))]]) rfl (by rw [g37])) ?_
      refine XO.sub (aL.eq (fr' := [(104, .tp []), (10, vq 3), (12, vq 4), (101, vq 0), (102, vi p2), (103, vi r1)]) (st' := [.box [cl af r5.2.1, .sl 1 1 0 r5.2.2.2.1.length, .sl 2 1 0 r5.2.2.2.2.length, cb r5.2.2.1], .arr 1 (eI.els r5.2.2.2.1), .arr 1 (eI.els r5.2.2.2.2), .box [ci 0, ci 0, ci 0, cj ByteArray.empty, .pv (.s (.slice none 0 0))], .box [ci p1.type.kind, ci 0, ci 0, cj ByteArray.empty, .pv (.s (.slice none 0 0))]]) rfl (by rw [g38])) (zd (m35 _ _ (zq fun K39 m39 => zr ?_)))
      refine zv [10, 12, 16] 2 [10] [] [(10, vq 3)] [.box [cl af r5.2.1, .sl 1 1 0 r5.2.2.2.1.length, .sl 2 1 0 r5.2.2.2.2.length, cb r5.2.2.1], .arr 1 (eI.els r5.2.2.2.1), .arr 1 (eI.els r5.2.2.2.2), .box [ci p1.type.kind, ci 0, ci 0, cj ByteArray.empty, .pv (.s (.slice none 0 0))], .box [ci p1.type.kind, ci 0, ci 0, cj ByteArray.empty, .pv (.s (.slice none 0 0))]] (zd (m39 _ _ (ze ?_)))
      obtain ⟨g40, h⟩ := zG h
      obtain ⟨g41, h⟩ := zG h
      obtain rfl := zj h
      rw [← g40]
      rw [← g41]
      exact eT.fin (.inr rfl) [] [.ag (mS p1)] [] (by kernel_rfl) trivial (by kernel_rfl) (by kernel_rfl) (.ag (.cons (.rfl _ rfl) (.cons (.rfl _ rfl) (.cons (.rfl _ rfl) (.cons (.rfl _ rfl) (.cons (.nl) .nil))))))
     ·refine zs (m29 _ _ (zq fun K42 m42 => zr ?_))
      refine zv [10, 12, 16] 1 [0,2,3,4,6,10,12,13] [] [(0, vq 0), (2, vi p2), (3, vi x1), (4, vi p4), (6, vR (aJ p1)), (10, vq 3), (12, vq 4), (13, vb true)] [.box (tq r4), .arr 1 (eI.els r4.2.2.2.1), .arr 1 (eI.els r4.2.2.2.2), .box dt, .box (mS p1)] ?_
      refine zd (m42 _ _ (zb 1 (XW.sub (aL.listb 4 4 5 (mS p1) rfl rfl [.box (tq r4), .arr 1 (eI.els r4.2.2.2.1), .arr 1 (eI.els r4.2.2.2.2), .box dt, .box [ci p1.type.kind, ci 0, ci 0, cj ByteArray.empty, .sl 5 5 0 0], .arr 5 (aa.els [])] rfl) ?_)))
      refine XW.rounds' bf (x := cd Tryz.f97 [1,1,1,1,1,0,1,0,1,0,1,1,0,0]) (by kernel_rfl) fun Q1 hQ1 => ?_
      have hL1 : ∀ (k1 : Nat) (l3 l4 : List Int) (l5 : List ac) (z3 : List ak) (z4 x2 : Bool), aV (aN k0) p1 p2 p4 p7 p8 x1 k1 l3 l4 l5 z3 z4 x2 = some r → XR Tryz.prog 196 3 [] (cd Tryz.f97 [1,1,1,1,1,0,1,0,1,0,1,1,0,0]) Q1 k1 [(0, vq 0), (2, vi p2), (3, vi x1), (4, vi p4), (6, vR (aJ p1)), (10, vq 3), (12, vq 4), (13, vb x2)] (w9 p1 l3 l4 l5 z3 z4) := by
       intro k1
       induction k1 with
       | zero => intro l3 l4 l5 z3 z4 x2 h; rw [aV.eq_1] at h; cases h
       | succ k1 ih1 =>
        intro l3 l4 l5 z3 z4 x2 h
        rw [aV.eq_2] at h
        refine zq fun K43 m43 => zq fun K44 m44 => ?_
        have j2 : ∀ (x3 : Bool), cC (aN k0) (aV (aN k0) p1 p2 p4 p7 p8 x1 k1) p1 p2 p4 p7 p8 x1 l3 l4 l5 z3 z4 x3 = some r → ∀ w0 w1, aL 196 3 [] w0 w1 [(0, vq 0), (2, vi p2), (3, vi x1), (4, vi p4), (6, vR (aJ p1)), (10, vq 3), (12, vq 4), (113, vb x3)] (w9 p1 l3 l4 l5 z3 z4) → K44 w0 w1 := by
         intro x3 h w0 w1 hS
         unfold cC at h
         refine m44 _ _ (XW.sub hS ?_)
         refine zC h (fun b46 h => ?_) (fun b46 h => ?_)
         ·refine zs (m43 _ _ (zb 2 (zq fun K47 m47 => ?_)))
          obtain ⟨e1, a48, h⟩ := zB h
          obtain ⟨r6, c49, h⟩ := zB h
          refine XW.drwG 15 [6] [([], []), ([4], []), ([], []), ([], []), ([], []), ([], []), ([], []), ([], []), ([], []), ([], []), ([], []), ([], []), ([], []), ([0, 1, 2], [0, 1, 2]), ([], [])] [(128, vl aa [r6.1]), (127, .ag (pP r6)), (126, vi (i64.wrap (p4 + 1))), (125, vi p4), (124, vi (i64.wrap (x1 + 1))), (123, vi x1), (122, vi p2), (121, .ag (aS e1)), (120, .one (.pv (.rp (ab.els p1.type.fields) ((0 : Int).toNat) 0))), (119, vl ab p1.type.fields), (118, .one (.pv (.rp [(aJ p1)] 0 5))), (117, .one (.pv (.rp [(aJ p1)] 0 3))), (116, vq 0), (115, .one (.sl 5 5 0 l5.length)), (114, .one (.pt 4 0 0 4)), (0, vq 0), (2, vi p2), (3, vi x1), (4, vi p4), (6, vR (aJ p1)), (10, vq 3), (12, vq 4), (113, vb x3)] [.box [cl af r6.2.1, .sl 1 1 0 l3.length, .sl 2 1 0 l4.length, cb r6.2.2.1], .arr 1 (eI.els r6.2.2.2.1), .arr 1 (eI.els r6.2.2.2.2), .box dt, .box (kP p1 l5), .arr 5 (aa.els l5)] (by kernel_rfl) (by kernel_rfl) ?_ ?_
          ·refine GY.go 13 [(aJ p1), (aJ e1)] [(126, vi (i64.wrap (p4 + 1))), (125, vi p4), (124, vi (i64.wrap (x1 + 1))), (123, vi x1), (122, vi p2), (121, .ag (aS e1)), (120, .one (.pv (.rp (ab.els p1.type.fields) ((0 : Int).toNat) 0))), (119, vl ab p1.type.fields), (118, .one (.pv (.rp [(aJ p1)] 0 5))), (117, .one (.pv (.rp [(aJ p1)] 0 3))), (116, vq 0), (115, .one (.sl 5 5 0 l5.length)), (114, .one (.pt 4 0 0 4)), (0, vq 0), (2, vi p2), (3, vi x1), (4, vi p4), (6, vR (aJ p1)), (10, vq 3), (12, vq 4), (113, vb x3)] [([(aJ p1)] : List (List PV))[0]? = some (aJ p1), 0 ≤ (0 : Int) ∧ (0 : Int) < ((ab.els p1.type.fields).length : Int) ∧ aq 6 (ab.els p1.type.fields), (ab.els p1.type.fields)[(0 : Int).toNat]? = some (aJ e1)] (by kernel_rfl) (⟨rfl, ab.inb a48, ((ab.get a48).trans (by rcases e1 with ⟨_, _, _, ⟨_, _, _⟩⟩; rfl)), trivial⟩) ?_
           refine GY.calm 97 [vq 0, .ag (aS e1), vi p2, vi (i64.wrap (x1 + 1)), vi (i64.wrap (p4 + 1))] [.box [cl af z3, .sl 1 1 0 l3.length, .sl 2 1 0 l4.length, cb z4], .arr 1 (eI.els l3), .arr 1 (eI.els l4)] [.box [cl af r6.2.1, .sl 1 1 0 l3.length, .sl 2 1 0 l4.length, cb r6.2.2.1], .arr 1 (eI.els r6.2.2.2.1), .arr 1 (eI.els r6.2.2.2.2)] (.ag (pP r6)) [0, 1, 2] [(127, .ag (pP r6)), (126, vi (i64.wrap (p4 + 1))), (125, vi p4), (124, vi (i64.wrap (x1 + 1))), (123, vi x1), (122, vi p2), (121, .ag (aS e1)), (120, .one (.pv (.rp (ab.els p1.type.fields) ((0 : Int).toNat) 0))), (119, vl ab p1.type.fields), (118, .one (.pv (.rp [(aJ p1)] 0 5))), (117, .one (.pv (.rp [(aJ p1)] 0 3))), (116, vq 0), (115, .one (.sl 5 5 0 l5.length)), (114, .one (.pt 4 0 0 4)), (0, vq 0), (2, vi p2), (3, vi x1), (4, vi p4), (6, vR (aJ p1)), (10, vq 3), (12, vq 4), (113, vb x3)] [0, 1, 2] [.box [cl af r6.2.1, .sl 1 1 0 l3.length, .sl 2 1 0 l4.length, cb r6.2.2.1], .arr 1 (eI.els r6.2.2.2.1), .arr 1 (eI.els r6.2.2.2.2), .box dt, .box (kP p1 l5), .arr 5 (aa.els l5)] (by kernel_rfl) (by kernel_rfl) (by kernel_rfl) (fU k0 _ _ _ _ _ _ _ _ _ c49) (by kernel_rfl) (by kernel_rfl) (by kernel_rfl) (by kernel_rfl) (by kernel_rfl) (by kernel_rfl) ?_
           refine qE 1 [] [(128, .one (.pv (.ro [[pi r6.1.kind, pi r6.1.n, pi r6.1.scale, .s (.string r6.1.s), .ro (aa.els r6.1.items)]]))), (127, .ag [ci r6.1.kind, ci r6.1.n, ci r6.1.scale, cj r6.1.s, cl aa r6.1.items]), (126, vi (i64.wrap (p4 + 1))), (125, vi p4), (124, vi (i64.wrap (x1 + 1))), (123, vi x1), (122, vi p2), (121, .ag [ci e1.id, cj e1.name, cb e1.need, ci e1.type.kind, ci e1.type.scale, cl ab e1.type.fields]), (120, .one (.pv (.rp (ab.els p1.type.fields) ((0 : Int).toNat) 0))), (119, vl ab p1.type.fields), (118, .one (.pv (.rp [[pi p1.id, .s (.string p1.name), .s (.bool p1.need), pi p1.type.kind, pi p1.type.scale, .ro (ab.els p1.type.fields)]] 0 5))), (117, .one (.pv (.rp [[pi p1.id, .s (.string p1.name), .s (.bool p1.need), pi p1.type.kind, pi p1.type.scale, .ro (ab.els p1.type.fields)]] 0 3))), (116, vq 0), (115, .one (.sl 5 5 0 l5.length)), (114, .one (.pt 4 0 0 4)), (0, vq 0), (2, vi p2), (3, vi x1), (4, vi p4), (6, vR [pi p1.id, .s (.string p1.name), .s (.bool p1.need), pi p1.type.kind, pi p1.type.scale, .ro (ab.els p1.type.fields)]), (10, vq 3), (12, vq 4), (113, vb x3)] ?_
           rw [show ([[pi r6.1.kind, pi r6.1.n, pi r6.1.scale, .s (.string r6.1.s), .ro (aa.els r6.1.items)]] : List (List PV)) = aa.els [r6.1] from by rcases r6 with ⟨⟨_, _, _, _, _⟩, _, _, _, _⟩; rfl]
           exact GY.done (by kernel_rfl) (by kernel_rfl)
          obtain ⟨g50, h⟩ := zG h
          obtain ⟨g51, h⟩ := zG h
          refine XO.sub (aL.eq (fr' := [(128, vl aa [r6.1]), (127, .ag [ci r6.1.kind, ci r6.1.n, ci r6.1.scale, cj r6.1.s, cl aa r6.1.items]), (126, vi (i64.wrap (p4 + 1))), (125, vi p4), (124, vi (i64.wrap (x1 + 1))), (123, vi x1), (122, vi p2), (121, .ag [ci e1.id, cj e1.name, cb e1.need, ci e1.type.kind, ci e1.type.scale, cl ab e1.type.fields]), (120, .one (.pv (.rp (ab.els p1.type.fields) ((0 : Int).toNat) 0))), (119, vl ab p1.type.fields), (118, .one (.pv (.rp [[pi p1.id, .s (.string p1.name), .s (.bool p1.need), pi p1.type.kind, pi p1.type.scale, .ro (ab.els p1.type.fields)]] 0 5))), (117, .one (.pv (.rp [[pi p1.id, .s (.string p1.name), .s (.bool p1.need), pi p1.type.kind, pi p1.type.scale, .ro (ab.els p1.type.fields)]] 0 3))), (116, vq 0), (115, .one (.sl 5 5 0 l5.length)), (114, .one (.pt 4 0 0 4)), (0, vq 0), (2, vi p2), (3, vi x1), (4, vi p4), (6, vR [pi p1.id, .s (.string p1.name), .s (.bool p1.need), pi p1.type.kind, pi p1.type.scale, .ro (ab.els p1.type.fields)]), (10, vq 3), (12, vq 4), (113, vb x3)]) (st' := [.box [cl af r6.2.1, .sl 1 1 0 r6.2.2.2.1.length, .sl 2 1 0 l4.length, cb r6.2.2.1], .arr 1 (eI.els r6.2.2.2.1), .arr 1 (eI.els r6.2.2.2.2), .box [ci 0, ci 0, ci 0, cj ByteArray.empty, .pv (.s (.slice none 0 0))], .box [ci p1.type.kind, ci 0, ci 0, cj ByteArray.empty, .sl 5 5 0 l5.length], .arr 5 (aa.els l5)]) rfl (by rw [g50])) ?_
          refine XO.sub (aL.eq (fr' := [(128, vl aa [r6.1]), (127, .ag [ci r6.1.kind, ci r6.1.n, ci r6.1.scale, cj r6.1.s, cl aa r6.1.items]), (126, vi (i64.wrap (p4 + 1))), (125, vi p4), (124, vi (i64.wrap (x1 + 1))), (123, vi x1), (122, vi p2), (121, .ag [ci e1.id, cj e1.name, cb e1.need, ci e1.type.kind, ci e1.type.scale, cl ab e1.type.fields]), (120, .one (.pv (.rp (ab.els p1.type.fields) ((0 : Int).toNat) 0))), (119, vl ab p1.type.fields), (118, .one (.pv (.rp [[pi p1.id, .s (.string p1.name), .s (.bool p1.need), pi p1.type.kind, pi p1.type.scale, .ro (ab.els p1.type.fields)]] 0 5))), (117, .one (.pv (.rp [[pi p1.id, .s (.string p1.name), .s (.bool p1.need), pi p1.type.kind, pi p1.type.scale, .ro (ab.els p1.type.fields)]] 0 3))), (116, vq 0), (115, .one (.sl 5 5 0 l5.length)), (114, .one (.pt 4 0 0 4)), (0, vq 0), (2, vi p2), (3, vi x1), (4, vi p4), (6, vR [pi p1.id, .s (.string p1.name), .s (.bool p1.need), pi p1.type.kind, pi p1.type.scale, .ro (ab.els p1.type.fields)]), (10, vq 3), (12, vq 4), (113, vb x3)]) (st' := [.box [cl af r6.2.1, .sl 1 1 0 r6.2.2.2.1.length, .sl 2 1 0 r6.2.2.2.2.length, cb r6.2.2.1], .arr 1 (eI.els r6.2.2.2.1), .arr 1 (eI.els r6.2.2.2.2), .box [ci 0, ci 0, ci 0, cj ByteArray.empty, .pv (.s (.slice none 0 0))], .box [ci p1.type.kind, ci 0, ci 0, cj ByteArray.empty, .sl 5 5 0 l5.length], .arr 5 (aa.els l5)]) rfl (by rw [g51])) ?_
          obtain ⟨g52, h⟩ := zG h
          refine XO.sub (aL.stale 4 4 5 5 0 l5.length (kP p1 l5) rfl rfl [.box [cl af r6.2.1, .sl 1 1 0 r6.2.2.2.1.length, .sl 2 1 0 r6.2.2.2.2.length, cb r6.2.2.1], .arr 1 (eI.els r6.2.2.2.1), .arr 1 (eI.els r6.2.2.2.2), .box dt, .box [ci p1.type.kind, ci 0, ci 0, cj ByteArray.empty, .sl 6 5 0 l5.length], .arr 5 (aa.els l5), .dead] rfl) ?_
          refine zp [10, 12, 16] 1 [0,2,3,4,6,10,12,129] [] [(0, vq 0), (2, vi p2), (3, vi x1), (4, vi p4), (6, vR [pi p1.id, .s (.string p1.name), .s (.bool p1.need), pi p1.type.kind, pi p1.type.scale, .ro (ab.els p1.type.fields)]), (10, vq 3), (12, vq 4), (129, .one (.sl 5 5 0 (l5.length + (aa.els [r6.1]).length)))] [.box [cl af r6.2.1, .sl 1 1 0 r6.2.2.2.1.length, .sl 2 1 0 r6.2.2.2.2.length, cb r6.2.2.1], .arr 1 (eI.els r6.2.2.2.1), .arr 1 (eI.els r6.2.2.2.2), .box [ci 0, ci 0, ci 0, cj ByteArray.empty, .pv (.s (.slice none 0 0))], .box [ci p1.type.kind, ci 0, ci 0, cj ByteArray.empty, .sl 6 5 0 l5.length], .arr 5 (aa.els l5 ++ aa.els [r6.1]), .dead] [aq 5 (aa.els [r6.1]), l5.length = (aa.els l5).length, l5.length + (aa.els [r6.1]).length ≤ 4294967296] (⟨aa.ok _, (aa.len l5).symm, g52, trivial⟩) ?_
          rw [show l5.length + (aa.els [r6.1]).length = (l5 ++ [r6.1]).length from aa.lapp _ _]
          rw [show aa.els l5 ++ aa.els [r6.1] = aa.els (l5 ++ [r6.1]) from aa.app2 _ _]
          refine zg [10, 12, 16] 2 [0,2,3,4,6,10,12] (zd (m47 _ _ (zq fun K53 m53 => ?_)))
          obtain ⟨e2, a54, h⟩ := zB h
          refine zr (zo [10, 12, 16] 8 [0,2,3,4,6,10,12,14] [[pi e2]] [0 ≤ p2 ∧ p2 < ((r6.2.2.2.1.length : Nat) : Int), (eI.els r6.2.2.2.1)[(0 + p2.toNat)]? = some [pi e2]] (⟨oo.inb' a54, (eI.get0 a54), trivial⟩) (zd (m53 _ _ ?_)))
          obtain ⟨e3, a55, h⟩ := zB h
          rcases zW h with ⟨b56, h⟩ | ⟨b56, h⟩
          ·obtain ⟨e4, a57, h⟩ := zB h
           refine zr ?_
           refine zp [10, 12, 16] 10 [0,2,3,4,6,10,12,14,138,147] [[.ro (eI.els e3.reps), .ro (eI.els e3.defs), .ro (aa.els e3.values)]] [(0, vq 0), (2, vi p2), (3, vi x1), (4, vi p4), (6, vR [pi p1.id, .s (.string p1.name), .s (.bool p1.need), pi p1.type.kind, pi p1.type.scale, .ro (ab.els p1.type.fields)]), (10, vq 3), (12, vq 4), (14, vi e2), (138, vi e2), (147, vi ((eI.els e3.reps).length : Int))] [.box [cl af r6.2.1, .sl 1 1 0 r6.2.2.2.1.length, .sl 2 1 0 r6.2.2.2.2.length, cb r6.2.2.1], .arr 1 (eI.els r6.2.2.2.1), .arr 1 (eI.els r6.2.2.2.2), .box [ci 0, ci 0, ci 0, cj ByteArray.empty, .pv (.s (.slice none 0 0))], .box [ci p1.type.kind, ci 0, ci 0, cj ByteArray.empty, .sl 5 5 0 ((l5 ++ [r6.1]).length)], .arr 5 (aa.els (l5 ++ [r6.1])), .dead] [0 ≤ p2 ∧ p2 < ((af.els r6.2.1).length : Int) ∧ aq 3 (af.els r6.2.1), (af.els r6.2.1)[p2.toNat]? = some [.ro (eI.els e3.reps), .ro (eI.els e3.defs), .ro (aa.els e3.values)]] (⟨af.inb a55, (af.get a55), trivial⟩) ?_
           rw [eI.len e3.reps]
           refine zg [10, 12, 16] 2 [0,2,3,4,6,10,12,14,149] (zt 149 b56 (zo [10, 12, 16] 15 [0,2,3,4,6,10,12,13] [[.ro (eI.els e3.reps), .ro (eI.els e3.defs), .ro (aa.els e3.values)], [pi e4]] [0 ≤ p2 ∧ p2 < ((af.els r6.2.1).length : Int) ∧ aq 3 (af.els r6.2.1), (af.els r6.2.1)[p2.toNat]? = some [.ro (eI.els e3.reps), .ro (eI.els e3.defs), .ro (aa.els e3.values)], 0 ≤ e2 ∧ e2 < ((eI.els e3.reps).length : Int) ∧ aq 1 (eI.els e3.reps), (eI.els e3.reps)[e2.toNat]? = some [pi e4]] (⟨af.inb a55, (af.get a55), eI.inb a57, (eI.get a57), trivial⟩) (zd ?_)))
           exact XR.sub (aL.trans (aL.pick (fr' := (Bn p1 p2 p4 x1 e4)) [0,2,3,4,6,10,12,13] (by kernel_rfl)) (aL.take (fr' := (Bn p1 p2 p4 x1 e4)) 6 (by decide) (by kernel_rfl) (by kernel_rfl))) (ih1 r6.2.2.2.1 r6.2.2.2.2 (l5 ++ [r6.1]) r6.2.1 r6.2.2.1 (decide (p4 < e4)) h)
          ·refine zr ?_
           refine zp [10, 12, 16] 10 [0,2,3,4,6,10,12,14,138,147] [[.ro (eI.els e3.reps), .ro (eI.els e3.defs), .ro (aa.els e3.values)]] [(0, vq 0), (2, vi p2), (3, vi x1), (4, vi p4), (6, vR [pi p1.id, .s (.string p1.name), .s (.bool p1.need), pi p1.type.kind, pi p1.type.scale, .ro (ab.els p1.type.fields)]), (10, vq 3), (12, vq 4), (14, vi e2), (138, vi e2), (147, vi ((eI.els e3.reps).length : Int))] [.box [cl af r6.2.1, .sl 1 1 0 r6.2.2.2.1.length, .sl 2 1 0 r6.2.2.2.2.length, cb r6.2.2.1], .arr 1 (eI.els r6.2.2.2.1), .arr 1 (eI.els r6.2.2.2.2), .box [ci 0, ci 0, ci 0, cj ByteArray.empty, .pv (.s (.slice none 0 0))], .box [ci p1.type.kind, ci 0, ci 0, cj ByteArray.empty, .sl 5 5 0 ((l5 ++ [r6.1]).length)], .arr 5 (aa.els (l5 ++ [r6.1])), .dead] [0 ≤ p2 ∧ p2 < ((af.els r6.2.1).length : Int) ∧ aq 3 (af.els r6.2.1), (af.els r6.2.1)[p2.toNat]? = some [.ro (eI.els e3.reps), .ro (eI.els e3.defs), .ro (aa.els e3.values)]] (⟨af.inb a55, (af.get a55), trivial⟩) ?_
           rw [eI.len e3.reps]
           refine zg [10, 12, 16] 2 [0,2,3,4,6,10,12,14,149] (zt 149 b56 (zg [10, 12, 16] 15 [0,2,3,4,6,10,12,13] (zd ?_)))
           exact XR.sub (aL.trans (aL.pick (fr' := (Ad p1 p2 p4 x1)) [0,2,3,4,6,10,12,13] (by kernel_rfl)) (aL.take (fr' := (Ad p1 p2 p4 x1)) 6 (by decide) (by kernel_rfl) (by kernel_rfl))) (ih1 r6.2.2.2.1 r6.2.2.2.2 (l5 ++ [r6.1]) r6.2.1 r6.2.2.1 false h)
         ·exact zx 1 (hQ1 _ _ _ (j3 l3 l4 l5 z3 z4 h _ _ (zk [10,12])))
        rcases zW h with ⟨b45, h⟩ | ⟨b45, h⟩
        ·exact zr (zg [10, 12, 16] 2 [0,2,3,4,6,10,12,107] (zt 107 b45 (zg [10, 12, 16] 6 [0,2,3,4,6,10,12,113] (zd (j2 (!z4) h _ _ (zk [0,2,3,4,6,10,12,113]))))))
        ·refine zr ?_
         refine zv [10, 12, 16] 2 [0,2,3,4,6,10,12,107] [] [(0, vq 0), (2, vi p2), (3, vi x1), (4, vi p4), (6, vR (aJ p1)), (10, vq 3), (12, vq 4), (107, vb x2)] (w9 p1 l3 l4 l5 z3 z4) ?_
         exact zt 107 b45 (zg [10, 12, 16] 6 [0,2,3,4,6,10,12,113] (zd (j2 false h _ _ (zk [0,2,3,4,6,10,12,113]))))
      exact XR.sub (zk [0,2,3,4,6,10,12,13]) (hL1 bf r4.2.2.2.1 r4.2.2.2.2 [] r4.2.1 r4.2.2.1 true h)
    ·refine zq fun K58 m58 => zr (zg [10, 12, 16] 2 [0,2,3,4,6,10,12,164] (zd (m58 _ _ (zC h (fun b59 h => ?_) (fun b59 h => ?_)))))
     ·refine zq fun K60 m60 => zr ?_
      refine zv [10, 12, 16] 4 [0,2,3,4,10,12,168,169] [[pi p1.id, .s (.string p1.name), .s (.bool p1.need), pi p1.type.kind, pi p1.type.scale, .ro (ab.els p1.type.fields)]] [(0, vq 0), (2, vi p2), (3, vi x1), (4, vi p4), (10, vq 3), (12, vq 4), (168, vl ab p1.type.fields), (169, vi ((ab.els p1.type.fields).length : Int))] [.box [cl af z1, .sl 1 1 0 l1.length, .sl 2 1 0 l2.length, cb z2], .arr 1 (eI.els l1), .arr 1 (eI.els l2), .box [ci 0, ci 0, ci 0, cj ByteArray.empty, .pv (.s (.slice none 0 0))], .box [ci p1.type.kind, ci 0, ci 0, cj ByteArray.empty, .pv (.s (.slice none 0 0))]] ?_
      rw [ab.len p1.type.fields]
      refine zv [10, 12, 16] 1 [0,2,3,4,10,12,168,169,170] [] [(0, vq 0), (2, vi p2), (3, vi x1), (4, vi p4), (10, vq 3), (12, vq 4), (168, vl ab p1.type.fields), (169, vi (p1.type.fields.length : Int)), (170, vi 0)] (tO p1 l1 l2 z1 z2) (zd (m60 _ _ (zb 3 ?_)))
      refine XW.sub (aL.listb 4 4 5 [ci p1.type.kind, ci 0, ci 0, cj ByteArray.empty, .pv (.s (.slice none 0 0))] rfl rfl [.box [cl af z1, .sl 1 1 0 l1.length, .sl 2 1 0 l2.length, cb z2], .arr 1 (eI.els l1), .arr 1 (eI.els l2), .box [ci 0, ci 0, ci 0, cj ByteArray.empty, .pv (.s (.slice none 0 0))], .box [ci p1.type.kind, ci 0, ci 0, cj ByteArray.empty, .sl 5 5 0 0], .arr 5 (aa.els [])] rfl) (XW.rounds' bf (x := cd Tryz.f97 [1,1,1,1,1,0,1,0,1,1,1,0,1,0,0]) (by kernel_rfl) fun Q2 hQ2 => ?_)
      have hL2 : ∀ (k2 : Nat) (l6 l7 : List Int) (l8 : List ac) (z5 : List ak) (z6 : Bool) (x4 x5 : Int), bE (aN k0) p1 p4 p7 p8 x1 k2 l6 l7 l8 z5 z6 x4 x5 = some r → XR Tryz.prog 196 3 [] (cd Tryz.f97 [1,1,1,1,1,0,1,0,1,1,1,0,1,0,0]) Q2 k2 [(0, vq 0), (2, vi x4), (3, vi x1), (4, vi p4), (10, vq 3), (12, vq 4), (168, vl ab p1.type.fields), (169, vi (p1.type.fields.length : Int)), (170, vi x5)] [.box [cl af z5, .sl 1 1 0 l6.length, .sl 2 1 0 l7.length, cb z6], .arr 1 (eI.els l6), .arr 1 (eI.els l7), .box dt, .box (kP p1 l8), .arr 5 (aa.els l8)] := by
       intro k2
       induction k2 with
       | zero => intro l6 l7 l8 z5 z6 x4 x5 h; rw [bE.eq_1] at h; cases h
       | succ k2 ih2 =>
        intro l6 l7 l8 z5 z6 x4 x5 h
        rw [bE.eq_2] at h
        refine zq fun K61 m61 => zr (zg [10, 12, 16] 1 [0,2,3,4,10,12,168,169,170,171] (zd (m61 _ _ (zq fun K62 m62 => zC h (fun b63 h => ?_) (fun b63 h => ?_)))))
        ·refine zs (m62 _ _ (zq fun K64 m64 => zb 4 (zq fun K65 m65 => ?_)))
         obtain ⟨e5, a66, h⟩ := zB h
         refine zr ?_
         refine zp [10, 12, 16] 4 [0,2,3,4,10,12,16,168,169,170] [(aJ e5)] [(0, vq 0), (2, vi x4), (3, vi x1), (4, vi p4), (10, vq 3), (12, vq 4), (16, vq 6), (168, vl ab p1.type.fields), (169, vi (p1.type.fields.length : Int)), (170, vi x5)] [.box [cl af z5, .sl 1 1 0 l6.length, .sl 2 1 0 l7.length, cb z6], .arr 1 (eI.els l6), .arr 1 (eI.els l7), .box dt, .box (kP p1 l8), .arr 5 (aa.els l8), .box (aS e5)] [0 ≤ x5 ∧ x5 < ((ab.els p1.type.fields).length : Int) ∧ aq 6 (ab.els p1.type.fields), (ab.els p1.type.fields)[x5.toNat]? = some (aJ e5)] (⟨ab.inb a66, ((ab.get a66).trans (by rcases e5 with ⟨_, _, _, ⟨_, _, _⟩⟩; rfl)), trivial⟩) ?_
         refine zd (m65 _ _ (zq fun K67 m67 => ?_))
         obtain ⟨r7, c68, h⟩ := zB h
         refine XW.drwG 9 [7] [([], []), ([4], []), ([], []), ([6], []), ([], []), ([], []), ([], []), ([0, 1, 2], [0, 1, 2]), ([], [])] [(182, vl aa [r7.1]), (181, .ag (pP r7)), (180, vi p4), (179, vi x1), (178, vi x4), (177, .ag (aS e5)), (176, vq 0), (175, .one (.sl 5 5 0 l8.length)), (174, .one (.pt 4 0 0 4)), (0, vq 0), (2, vi x4), (3, vi x1), (4, vi p4), (10, vq 3), (12, vq 4), (16, vq 6), (168, vl ab p1.type.fields), (169, vi (p1.type.fields.length : Int)), (170, vi x5)] [.box [cl af r7.2.1, .sl 1 1 0 l6.length, .sl 2 1 0 l7.length, cb r7.2.2.1], .arr 1 (eI.els r7.2.2.2.1), .arr 1 (eI.els r7.2.2.2.2), .box dt, .box (kP p1 l8), .arr 5 (aa.els l8), .box (aS e5)] (by kernel_rfl) (by kernel_rfl) ?_ ?_
         ·refine qE 7 [] [(180, vi p4), (179, vi x1), (178, vi x4), (177, .ag (aS e5)), (176, vq 0), (175, .one (.sl 5 5 0 l8.length)), (174, .one (.pt 4 0 0 4)), (0, vq 0), (2, vi x4), (3, vi x1), (4, vi p4), (10, vq 3), (12, vq 4), (16, vq 6), (168, vl ab p1.type.fields), (169, vi (p1.type.fields.length : Int)), (170, vi x5)] ?_
          refine GY.calm 97 [vq 0, .ag (aS e5), vi x4, vi x1, vi p4] [.box [cl af z5, .sl 1 1 0 l6.length, .sl 2 1 0 l7.length, cb z6], .arr 1 (eI.els l6), .arr 1 (eI.els l7)] [.box [cl af r7.2.1, .sl 1 1 0 l6.length, .sl 2 1 0 l7.length, cb r7.2.2.1], .arr 1 (eI.els r7.2.2.2.1), .arr 1 (eI.els r7.2.2.2.2)] (.ag (pP r7)) [0, 1, 2] [(181, .ag (pP r7)), (180, vi p4), (179, vi x1), (178, vi x4), (177, .ag (aS e5)), (176, vq 0), (175, .one (.sl 5 5 0 l8.length)), (174, .one (.pt 4 0 0 4)), (0, vq 0), (2, vi x4), (3, vi x1), (4, vi p4), (10, vq 3), (12, vq 4), (16, vq 6), (168, vl ab p1.type.fields), (169, vi (p1.type.fields.length : Int)), (170, vi x5)] [0, 1, 2] [.box [cl af r7.2.1, .sl 1 1 0 l6.length, .sl 2 1 0 l7.length, cb r7.2.2.1], .arr 1 (eI.els r7.2.2.2.1), .arr 1 (eI.els r7.2.2.2.2), .box dt, .box (kP p1 l8), .arr 5 (aa.els l8), .box (aS e5)] (by kernel_rfl) (by kernel_rfl) (by kernel_rfl) (fU k0 _ _ _ _ _ _ _ _ _ c68) (by kernel_rfl) (by kernel_rfl) (by kernel_rfl) (by kernel_rfl) (by kernel_rfl) (by kernel_rfl) ?_
          refine qE 1 [] [(182, .one (.pv (.ro [[pi r7.1.kind, pi r7.1.n, pi r7.1.scale, .s (.string r7.1.s), .ro (aa.els r7.1.items)]]))), (181, .ag [ci r7.1.kind, ci r7.1.n, ci r7.1.scale, cj r7.1.s, cl aa r7.1.items]), (180, vi p4), (179, vi x1), (178, vi x4), (177, .ag [ci e5.id, cj e5.name, cb e5.need, ci e5.type.kind, ci e5.type.scale, cl ab e5.type.fields]), (176, vq 0), (175, .one (.sl 5 5 0 l8.length)), (174, .one (.pt 4 0 0 4)), (0, vq 0), (2, vi x4), (3, vi x1), (4, vi p4), (10, vq 3), (12, vq 4), (16, vq 6), (168, vl ab p1.type.fields), (169, vi (p1.type.fields.length : Int)), (170, vi x5)] ?_
          rw [show ([[pi r7.1.kind, pi r7.1.n, pi r7.1.scale, .s (.string r7.1.s), .ro (aa.els r7.1.items)]] : List (List PV)) = aa.els [r7.1] from by rcases r7 with ⟨⟨_, _, _, _, _⟩, _, _, _, _⟩; rfl]
          exact GY.done (by kernel_rfl) (by kernel_rfl)
         obtain ⟨g69, h⟩ := zG h
         obtain ⟨g70, h⟩ := zG h
         refine XO.sub (aL.eq (fr' := [(182, vl aa [r7.1]), (181, .ag [ci r7.1.kind, ci r7.1.n, ci r7.1.scale, cj r7.1.s, cl aa r7.1.items]), (180, vi p4), (179, vi x1), (178, vi x4), (177, .ag [ci e5.id, cj e5.name, cb e5.need, ci e5.type.kind, ci e5.type.scale, cl ab e5.type.fields]), (176, vq 0), (175, .one (.sl 5 5 0 l8.length)), (174, .one (.pt 4 0 0 4)), (0, vq 0), (2, vi x4), (3, vi x1), (4, vi p4), (10, vq 3), (12, vq 4), (16, vq 6), (168, vl ab p1.type.fields), (169, vi (p1.type.fields.length : Int)), (170, vi x5)]) (st' := [.box [cl af r7.2.1, .sl 1 1 0 r7.2.2.2.1.length, .sl 2 1 0 l7.length, cb r7.2.2.1], .arr 1 (eI.els r7.2.2.2.1), .arr 1 (eI.els r7.2.2.2.2), .box [ci 0, ci 0, ci 0, cj ByteArray.empty, .pv (.s (.slice none 0 0))], .box [ci p1.type.kind, ci 0, ci 0, cj ByteArray.empty, .sl 5 5 0 l8.length], .arr 5 (aa.els l8), .box [ci e5.id, cj e5.name, cb e5.need, ci e5.type.kind, ci e5.type.scale, cl ab e5.type.fields]]) rfl (by rw [g69])) ?_
         refine XO.sub (aL.eq (fr' := [(182, vl aa [r7.1]), (181, .ag [ci r7.1.kind, ci r7.1.n, ci r7.1.scale, cj r7.1.s, cl aa r7.1.items]), (180, vi p4), (179, vi x1), (178, vi x4), (177, .ag [ci e5.id, cj e5.name, cb e5.need, ci e5.type.kind, ci e5.type.scale, cl ab e5.type.fields]), (176, vq 0), (175, .one (.sl 5 5 0 l8.length)), (174, .one (.pt 4 0 0 4)), (0, vq 0), (2, vi x4), (3, vi x1), (4, vi p4), (10, vq 3), (12, vq 4), (16, vq 6), (168, vl ab p1.type.fields), (169, vi (p1.type.fields.length : Int)), (170, vi x5)]) (st' := [.box [cl af r7.2.1, .sl 1 1 0 r7.2.2.2.1.length, .sl 2 1 0 r7.2.2.2.2.length, cb r7.2.2.1], .arr 1 (eI.els r7.2.2.2.1), .arr 1 (eI.els r7.2.2.2.2), .box [ci 0, ci 0, ci 0, cj ByteArray.empty, .pv (.s (.slice none 0 0))], .box [ci p1.type.kind, ci 0, ci 0, cj ByteArray.empty, .sl 5 5 0 l8.length], .arr 5 (aa.els l8), .box [ci e5.id, cj e5.name, cb e5.need, ci e5.type.kind, ci e5.type.scale, cl ab e5.type.fields]]) rfl (by rw [g70])) ?_
         obtain ⟨g71, h⟩ := zG h
         refine XO.sub (aL.stale 4 4 5 5 0 l8.length (kP p1 l8) rfl rfl [.box [cl af r7.2.1, .sl 1 1 0 r7.2.2.2.1.length, .sl 2 1 0 r7.2.2.2.2.length, cb r7.2.2.1], .arr 1 (eI.els r7.2.2.2.1), .arr 1 (eI.els r7.2.2.2.2), .box dt, .box [ci p1.type.kind, ci 0, ci 0, cj ByteArray.empty, .sl 7 5 0 l8.length], .arr 5 (aa.els l8), .box (aS e5), .dead] rfl) ?_
         refine zp [10, 12, 16] 1 [0,2,3,4,10,12,16,168,169,170,183] [] [(0, vq 0), (2, vi x4), (3, vi x1), (4, vi p4), (10, vq 3), (12, vq 4), (16, vq 6), (168, vl ab p1.type.fields), (169, vi (p1.type.fields.length : Int)), (170, vi x5), (183, .one (.sl 5 5 0 (l8.length + (aa.els [r7.1]).length)))] [.box [cl af r7.2.1, .sl 1 1 0 r7.2.2.2.1.length, .sl 2 1 0 r7.2.2.2.2.length, cb r7.2.2.1], .arr 1 (eI.els r7.2.2.2.1), .arr 1 (eI.els r7.2.2.2.2), .box [ci 0, ci 0, ci 0, cj ByteArray.empty, .pv (.s (.slice none 0 0))], .box [ci p1.type.kind, ci 0, ci 0, cj ByteArray.empty, .sl 7 5 0 l8.length], .arr 5 (aa.els l8 ++ aa.els [r7.1]), .box [ci e5.id, cj e5.name, cb e5.need, ci e5.type.kind, ci e5.type.scale, cl ab e5.type.fields], .dead] [aq 5 (aa.els [r7.1]), l8.length = (aa.els l8).length, l8.length + (aa.els [r7.1]).length ≤ 4294967296] (⟨aa.ok _, (aa.len l8).symm, g71, trivial⟩) ?_
         rw [show l8.length + (aa.els [r7.1]).length = (l8 ++ [r7.1]).length from aa.lapp _ _]
         rw [show aa.els l8 ++ aa.els [r7.1] = aa.els (l8 ++ [r7.1]) from aa.app2 _ _]
         refine zg [10, 12, 16] 2 [0,2,3,4,10,12,16,168,169,170] (zd (m67 _ _ ?_))
         obtain ⟨r8, c72, h⟩ := zB h
         refine zr (zg [10, 12, 16] 3 [0,3,4,10,12,168,169,170,185,187] (zl 98 [.ag [ci e5.type.kind, ci e5.type.scale, cl ab e5.type.fields]] (vi r8) [(188, vi r8), (0, vq 0), (3, vi x1), (4, vi p4), (10, vq 3), (12, vq 4), (168, vl ab p1.type.fields), (169, vi (p1.type.fields.length : Int)), (170, vi x5), (185, vi x4), (187, .ag [ci e5.type.kind, ci e5.type.scale, cl ab e5.type.fields])] (jl bf _ _ c72) (zg [10, 12, 16] 2 [0,2,3,4,10,12,168,169,170] (zd (m64 _ _ (zr (zg [10, 12, 16] 2 [0,2,3,4,10,12,168,169,170] ?_)))))))
         refine zd ?_
         exact XR.sub (aL.trans (aL.pick (fr' := (Bg p1 p4 x1 x4 x5 r8)) [0,2,3,4,10,12,168,169,170] (by kernel_rfl)) (aL.take (fr' := (Bg p1 p4 x1 x4 x5 r8)) 6 (by decide) (by kernel_rfl) (by kernel_rfl))) (ih2 r7.2.2.2.1 r7.2.2.2.2 (l8 ++ [r7.1]) r7.2.1 r7.2.2.1 (i64.wrap (x4 + r8)) (i64.wrap (x5 + 1)) h)
        ·exact zx 3 (hQ2 _ _ _ (j3 l6 l7 l8 z5 z6 h _ _ (zk [10,12])))
      exact XR.sub (zk [0,2,3,4,10,12,168,169,170]) (hL2 bf l1 l2 [] z1 z2 p2 (0 : Int) h)
     ·refine zq fun K73 m73 => ?_
      obtain ⟨r9, c74, h⟩ := zB h
      obtain ⟨g75, h⟩ := zG h
      obtain ⟨g76, h⟩ := zG h
      refine zr (zv [10, 12, 16] 2 [0,2,10,48,49] [] [(0, vq 0), (2, vi p2), (10, vq 3), (48, vq 0), (49, vi p2)] (tO p1 l1 l2 z1 z2) ?_)
      refine XO.calm 144 [vq 0, vi p2, vi 1] [.box (tc l1 l2 z1 z2), .arr 1 (eI.els l1), .arr 1 (eI.els l2)] [.box [cl af r9.2.1, .sl 1 1 0 l1.length, .sl 2 1 0 l2.length, cb r9.2.2.1], .arr 1 (eI.els r9.2.2.2.1), .arr 1 (eI.els r9.2.2.2.2)] (.tp []) [0, 1, 2] [(50, .tp []), (0, vq 0), (2, vi p2), (10, vq 3), (48, vq 0), (49, vi p2)] [.box [cl af r9.2.1, .sl 1 1 0 l1.length, .sl 2 1 0 l2.length, cb r9.2.2.1], .arr 1 (eI.els r9.2.2.2.1), .arr 1 (eI.els r9.2.2.2.2), .box dt, .box (mS p1)] (by kernel_rfl) (gy _ _ _ _ _ _ _ c74) (by kernel_rfl) (by kernel_rfl) (by kernel_rfl) (by kernel_rfl) ?_
      refine XO.sub (aL.eq (fr' := [(50, .tp []), (0, vq 0), (2, vi p2), (10, vq 3), (48, vq 0), (49, vi p2)]) (st' := [.box [cl af r9.2.1, .sl 1 1 0 r9.2.2.2.1.length, .sl 2 1 0 l2.length, cb r9.2.2.1], .arr 1 (eI.els r9.2.2.2.1), .arr 1 (eI.els r9.2.2.2.2), .box [ci 0, ci 0, ci 0, cj ByteArray.empty, .pv (.s (.slice none 0 0))], .box [ci p1.type.kind, ci 0, ci 0, cj ByteArray.empty, .pv (.s (.slice none 0 0))]]) rfl (by rw [g75])) ?_
      refine XO.sub (aL.eq (fr' := [(50, .tp []), (0, vq 0), (2, vi p2), (10, vq 3), (48, vq 0), (49, vi p2)]) (st' := [.box [cl af r9.2.1, .sl 1 1 0 r9.2.2.2.1.length, .sl 2 1 0 r9.2.2.2.2.length, cb r9.2.2.1], .arr 1 (eI.els r9.2.2.2.1), .arr 1 (eI.els r9.2.2.2.2), .box [ci 0, ci 0, ci 0, cj ByteArray.empty, .pv (.s (.slice none 0 0))], .box [ci p1.type.kind, ci 0, ci 0, cj ByteArray.empty, .pv (.s (.slice none 0 0))]]) rfl (by rw [g76])) (zd (m73 _ _ (zq fun K77 m77 => ?_)))
      obtain ⟨e6, a78, h⟩ := zB h
      refine zr (zo [10, 12, 16] 8 [0,2,10,17] [[pi e6]] [0 ≤ p2 ∧ p2 < ((r9.2.2.2.2.length : Nat) : Int), (eI.els r9.2.2.2.2)[(0 + p2.toNat)]? = some [pi e6]] (⟨oo.inb' a78, (eI.get0 a78), trivial⟩) (zd (m77 _ _ (zq fun K79 m79 => zq fun K80 m80 => ?_))))
      obtain ⟨e7, a81, h⟩ := zB h
      refine zr ?_
      refine zp [10, 12, 16] 10 [0,2,10,17,58,67] [[.ro (eI.els e7.reps), .ro (eI.els e7.defs), .ro (aa.els e7.values)]] [(0, vq 0), (2, vi p2), (10, vq 3), (17, vi e6), (58, vi e6), (67, vi ((aa.els e7.values).length : Int))] [.box [cl af r9.2.1, .sl 1 1 0 r9.2.2.2.1.length, .sl 2 1 0 r9.2.2.2.2.length, cb r9.2.2.1], .arr 1 (eI.els r9.2.2.2.1), .arr 1 (eI.els r9.2.2.2.2), .box [ci 0, ci 0, ci 0, cj ByteArray.empty, .pv (.s (.slice none 0 0))], .box [ci p1.type.kind, ci 0, ci 0, cj ByteArray.empty, .pv (.s (.slice none 0 0))]] [0 ≤ p2 ∧ p2 < ((af.els r9.2.1).length : Int) ∧ aq 3 (af.els r9.2.1), (af.els r9.2.1)[p2.toNat]? = some [.ro (eI.els e7.reps), .ro (eI.els e7.defs), .ro (aa.els e7.values)]] (⟨af.inb a81, (af.get a81), trivial⟩) ?_
      rw [aa.len e7.values]
      refine zg [10, 12, 16] 1 [0,2,10,17,68] (zd (m80 _ _ (zC h (fun b82 h => ?_) (fun b82 h => ?_))))
      ·refine zq fun K83 m83 => zr (zg [10, 12, 16] 4 [10] (zd (m83 _ _ (zq fun K84 m84 => zr (zv [10, 12, 16] 2 [10] [] [(10, vq 3)] [.box [cl af r9.2.1, .sl 1 1 0 r9.2.2.2.1.length, .sl 2 1 0 r9.2.2.2.2.length, cb true], .arr 1 (eI.els r9.2.2.2.1), .arr 1 (eI.els r9.2.2.2.2), .box dt, .box (mS p1)] ?_)))))
       refine zd (m84 _ _ (ze ?_))
       obtain ⟨g85, h⟩ := zG h
       obtain ⟨g86, h⟩ := zG h
       obtain rfl := zj h
       rw [← g85]
       rw [← g86]
       exact eT.fin (.inr rfl) [] [.ag dt] [] (by kernel_rfl) trivial (by kernel_rfl) (by kernel_rfl) (.ag (.cons (.rfl _ rfl) (.cons (.rfl _ rfl) (.cons (.rfl _ rfl) (.cons (.rfl _ rfl) (.cons (.nl) .nil))))))
      ·refine zs (m79 _ _ (zq fun K87 m87 => zr ?_))
       refine zp [10, 12, 16] 10 [0,2,10,17] [[pi e6], [pi e6]] [(0, vq 0), (2, vi p2), (10, vq 3), (17, vi e6)] [.box [cl af r9.2.1, .sl 1 1 0 r9.2.2.2.1.length, .sl 2 1 0 r9.2.2.2.2.length, cb r9.2.2.1], .arr 1 (eI.els r9.2.2.2.1), .arr 1 ((eI.els r9.2.2.2.2).set (0 + p2.toNat) [pi (i64.wrap (e6 + 1))]), .box [ci 0, ci 0, ci 0, cj ByteArray.empty, .pv (.s (.slice none 0 0))], .box [ci p1.type.kind, ci 0, ci 0, cj ByteArray.empty, .pv (.s (.slice none 0 0))]] [0 ≤ p2 ∧ p2 < ((r9.2.2.2.2.length : Nat) : Int), (eI.els r9.2.2.2.2)[(0 + p2.toNat)]? = some [pi e6], 0 ≤ p2 ∧ p2 < ((r9.2.2.2.2.length : Nat) : Int), (eI.els r9.2.2.2.2)[(0 + p2.toNat)]? = some [pi e6]] (⟨oo.inb' a78, (eI.get0 a78), oo.inb' a78, (eI.get0 a78), trivial⟩) ?_
       rw [show (eI.els r9.2.2.2.2).set (0 + p2.toNat) [pi (i64.wrap (e6 + 1))] = eI.els (r9.2.2.2.2.set p2.toNat (i64.wrap (e6 + 1))) from eI.set0 _ _ (i64.wrap (e6 + 1))]
       refine XO.sub (aL.eq (fr' := [(0, vq 0), (2, vi p2), (10, vq 3), (17, vi e6)]) (st' := [.box [cl af r9.2.1, .sl 1 1 0 r9.2.2.2.1.length, .sl 2 1 0 ((r9.2.2.2.2.set p2.toNat (i64.wrap (e6 + 1))).length), cb r9.2.2.1], .arr 1 (eI.els r9.2.2.2.1), .arr 1 (eI.els (r9.2.2.2.2.set p2.toNat (i64.wrap (e6 + 1)))), .box [ci 0, ci 0, ci 0, cj ByteArray.empty, .pv (.s (.slice none 0 0))], .box [ci p1.type.kind, ci 0, ci 0, cj ByteArray.empty, .pv (.s (.slice none 0 0))]]) rfl (show ([.box [cl af r9.2.1, .sl 1 1 0 r9.2.2.2.1.length, .sl 2 1 0 r9.2.2.2.2.length, cb r9.2.2.1], .arr 1 (eI.els r9.2.2.2.1), .arr 1 (eI.els (r9.2.2.2.2.set p2.toNat (i64.wrap (e6 + 1)))), .box [ci 0, ci 0, ci 0, cj ByteArray.empty, .pv (.s (.slice none 0 0))], .box [ci p1.type.kind, ci 0, ci 0, cj ByteArray.empty, .pv (.s (.slice none 0 0))]] : St) = [.box [cl af r9.2.1, .sl 1 1 0 r9.2.2.2.1.length, .sl 2 1 0 ((r9.2.2.2.2.set p2.toNat (i64.wrap (e6 + 1))).length), cb r9.2.2.1], .arr 1 (eI.els r9.2.2.2.1), .arr 1 (eI.els (r9.2.2.2.2.set p2.toNat (i64.wrap (e6 + 1)))), .box [ci 0, ci 0, ci 0, cj ByteArray.empty, .pv (.s (.slice none 0 0))], .box [ci p1.type.kind, ci 0, ci 0, cj ByteArray.empty, .pv (.s (.slice none 0 0))]] from by rw [show r9.2.2.2.2.length = (r9.2.2.2.2.set p2.toNat (i64.wrap (e6 + 1))).length from by simp])) ?_
       refine zd (m87 _ _ (zq fun K88 m88 => ?_))
       obtain ⟨e8, a89, h⟩ := zB h
       obtain ⟨r10, c90, h⟩ := zB h
       refine zr ?_
       refine zo [10, 12, 16] 11 [10,92] [[.ro (eI.els e7.reps), .ro (eI.els e7.defs), .ro (aa.els e7.values)], [pi e8.kind, pi e8.n, pi e8.scale, .s (.string e8.s), .ro (aa.els e8.items)]] [0 ≤ p2 ∧ p2 < ((af.els r9.2.1).length : Int) ∧ aq 3 (af.els r9.2.1), (af.els r9.2.1)[p2.toNat]? = some [.ro (eI.els e7.reps), .ro (eI.els e7.defs), .ro (aa.els e7.values)], 0 ≤ e6 ∧ e6 < ((aa.els e7.values).length : Int) ∧ aq 5 (aa.els e7.values), (aa.els e7.values)[e6.toNat]? = some [pi e8.kind, pi e8.n, pi e8.scale, .s (.string e8.s), .ro (aa.els e8.items)]] (⟨af.inb a81, (af.get a81), aa.inb a89, ((aa.get a89).trans (by cases e8; rfl)), trivial⟩) ?_
       refine za (pD bf _ _ c90) (zv [10, 12, 16] 1 [10] [] [(10, vq 3)] [.box [cl af r9.2.1, .sl 1 1 0 r9.2.2.2.1.length, .sl 2 1 0 ((r9.2.2.2.2.set p2.toNat (i64.wrap (e6 + 1))).length), cb r9.2.2.1], .arr 1 (eI.els r9.2.2.2.1), .arr 1 (eI.els (r9.2.2.2.2.set p2.toNat (i64.wrap (e6 + 1)))), .box [ci r10.kind, ci r10.n, ci r10.scale, cj r10.s, cl aa r10.items], .box [ci p1.type.kind, ci 0, ci 0, cj ByteArray.empty, .pv (.s (.slice none 0 0))]] (zd (m88 _ _ (ze ?_))))
       obtain ⟨g91, h⟩ := zG h
       obtain ⟨g92, h⟩ := zG h
       obtain rfl := zj h
       rw [← g91]
       rw [← g92]
       exact eT.fin (.inr rfl) [] [.ag [ci r10.kind, ci r10.n, ci r10.scale, cj r10.s, cl aa r10.items]] [] (by kernel_rfl) trivial (by kernel_rfl) (by kernel_rfl) (.ag (.cons (.rfl _ rfl) (.cons (.rfl _ rfl) (.cons (.rfl _ rfl) (.cons (.rfl _ rfl) (.cons (.rfl _ rfl) .nil))))))
   refine zq fun K9 m9 => zr (zu [10, 12, 16] 3 [0,2,3,4,6,10,11,28] [(aJ p1)] (zd (m9 _ _ (zC h (fun b10 h => ?_) (fun b10 h => ?_)))))
   ·refine zq fun K11 m11 => zq fun K12 m12 => ?_
    obtain ⟨r2, c13, h⟩ := zB h
    obtain ⟨g14, h⟩ := zG h
    obtain ⟨g15, h⟩ := zG h
    refine zr (zv [10, 12, 16] 2 [0,2,3,4,6,10,11,29,30] [] [(0, vq 0), (2, vi p2), (3, vi p3), (4, vi p4), (6, vR (aJ p1)), (10, vq 3), (11, vi r1), (29, vq 0), (30, vi p2)] [.box (rT p5 p6 p7 p8), .arr 1 (eI.els p7), .arr 1 (eI.els p8), .box dt] ?_)
    refine XO.calm 143 [vq 0, vi p2] [.box (rT p5 p6 p7 p8), .arr 1 (eI.els p7), .arr 1 (eI.els p8)] [.box [cl af r2.2.1, .sl 1 1 0 p7.length, .sl 2 1 0 p8.length, cb r2.2.2.1], .arr 1 (eI.els r2.2.2.2.1), .arr 1 (eI.els r2.2.2.2.2)] (vi r2.1) [0, 1, 2] [(31, vi r2.1), (0, vq 0), (2, vi p2), (3, vi p3), (4, vi p4), (6, vR (aJ p1)), (10, vq 3), (11, vi r1), (29, vq 0), (30, vi p2)] [.box [cl af r2.2.1, .sl 1 1 0 p7.length, .sl 2 1 0 p8.length, cb r2.2.2.1], .arr 1 (eI.els r2.2.2.2.1), .arr 1 (eI.els r2.2.2.2.2), .box dt] (by kernel_rfl) (gI _ _ _ _ _ _ c13) (by kernel_rfl) (by kernel_rfl) (by kernel_rfl) (by kernel_rfl) ?_
    refine XO.sub (aL.eq (fr' := [(31, vi r2.1), (0, vq 0), (2, vi p2), (3, vi p3), (4, vi p4), (6, vR [pi p1.id, .s (.string p1.name), .s (.bool p1.need), pi p1.type.kind, pi p1.type.scale, .ro (ab.els p1.type.fields)]), (10, vq 3), (11, vi r1), (29, vq 0), (30, vi p2)]) (st' := [.box [cl af r2.2.1, .sl 1 1 0 r2.2.2.2.1.length, .sl 2 1 0 p8.length, cb r2.2.2.1], .arr 1 (eI.els r2.2.2.2.1), .arr 1 (eI.els r2.2.2.2.2), .box [ci 0, ci 0, ci 0, cj ByteArray.empty, .pv (.s (.slice none 0 0))]]) rfl (by rw [g14])) ?_
    refine XO.sub (aL.eq (fr' := [(31, vi r2.1), (0, vq 0), (2, vi p2), (3, vi p3), (4, vi p4), (6, vR [pi p1.id, .s (.string p1.name), .s (.bool p1.need), pi p1.type.kind, pi p1.type.scale, .ro (ab.els p1.type.fields)]), (10, vq 3), (11, vi r1), (29, vq 0), (30, vi p2)]) (st' := [.box [cl af r2.2.1, .sl 1 1 0 r2.2.2.2.1.length, .sl 2 1 0 r2.2.2.2.2.length, cb r2.2.2.1], .arr 1 (eI.els r2.2.2.2.1), .arr 1 (eI.els r2.2.2.2.2), .box [ci 0, ci 0, ci 0, cj ByteArray.empty, .pv (.s (.slice none 0 0))]]) rfl (by rw [g15])) ?_
    refine zg [10, 12, 16] 2 [0,2,3,4,6,10,11,33] (zd (m12 _ _ (zC h (fun b16 h => ?_) (fun b16 h => ?_))))
    ·refine zq fun K17 m17 => ?_
     obtain ⟨r3, c18, h⟩ := zB h
     obtain ⟨g19, h⟩ := zG h
     obtain ⟨g20, h⟩ := zG h
     refine zr (zv [10, 12, 16] 3 [10,34,35,36] [] [(10, vq 3), (34, vq 0), (35, vi p2), (36, vi r1)] [.box [cl af r2.2.1, .sl 1 1 0 r2.2.2.2.1.length, .sl 2 1 0 r2.2.2.2.2.length, cb r2.2.2.1], .arr 1 (eI.els r2.2.2.2.1), .arr 1 (eI.els r2.2.2.2.2), .box dt] ?_)
     refine XO.calm 144 [vq 0, vi p2, vi r1] [.box [cl af r2.2.1, .sl 1 1 0 r2.2.2.2.1.length, .sl 2 1 0 r2.2.2.2.2.length, cb r2.2.2.1], .arr 1 (eI.els r2.2.2.2.1), .arr 1 (eI.els r2.2.2.2.2)] [.box [cl af r3.2.1, .sl 1 1 0 r2.2.2.2.1.length, .sl 2 1 0 r2.2.2.2.2.length, cb r3.2.2.1], .arr 1 (eI.els r3.2.2.2.1), .arr 1 (eI.els r3.2.2.2.2)] (.tp []) [0, 1, 2] [(37, .tp []), (10, vq 3), (34, vq 0), (35, vi p2), (36, vi r1)] [.box [cl af r3.2.1, .sl 1 1 0 r2.2.2.2.1.length, .sl 2 1 0 r2.2.2.2.2.length, cb r3.2.2.1], .arr 1 (eI.els r3.2.2.2.1), .arr 1 (eI.els r3.2.2.2.2), .box dt] (by kernel_rfl) (gy _ _ _ _ _ _ _ c18) (by kernel_rfl) (by kernel_rfl) (by kernel_rfl) (by kernel_rfl) ?_
     refine XO.sub (aL.eq (fr' := [(37, .tp []), (10, vq 3), (34, vq 0), (35, vi p2), (36, vi r1)]) (st' := [.box [cl af r3.2.1, .sl 1 1 0 r3.2.2.2.1.length, .sl 2 1 0 r2.2.2.2.2.length, cb r3.2.2.1], .arr 1 (eI.els r3.2.2.2.1), .arr 1 (eI.els r3.2.2.2.2), .box [ci 0, ci 0, ci 0, cj ByteArray.empty, .pv (.s (.slice none 0 0))]]) rfl (by rw [g19])) ?_
     refine XO.sub (aL.eq (fr' := [(37, .tp []), (10, vq 3), (34, vq 0), (35, vi p2), (36, vi r1)]) (st' := [.box [cl af r3.2.1, .sl 1 1 0 r3.2.2.2.1.length, .sl 2 1 0 r3.2.2.2.2.length, cb r3.2.2.1], .arr 1 (eI.els r3.2.2.2.1), .arr 1 (eI.els r3.2.2.2.2), .box [ci 0, ci 0, ci 0, cj ByteArray.empty, .pv (.s (.slice none 0 0))]]) rfl (by rw [g20])) (zd (m17 _ _ (zq fun K21 m21 => zr ?_)))
     refine zv [10, 12, 16] 2 [10] [] [(10, vq 3)] [.box [cl af r3.2.1, .sl 1 1 0 r3.2.2.2.1.length, .sl 2 1 0 r3.2.2.2.2.length, cb r3.2.2.1], .arr 1 (eI.els r3.2.2.2.1), .arr 1 (eI.els r3.2.2.2.2), .box [ci 0, ci 0, ci 0, cj ByteArray.empty, .pv (.s (.slice none 0 0))]] (zd (m21 _ _ (ze ?_)))
     obtain ⟨g22, h⟩ := zG h
     obtain ⟨g23, h⟩ := zG h
     obtain rfl := zj h
     rw [← g22]
     rw [← g23]
     exact eT.fin (.inr rfl) [] [.ag dt] [] (by kernel_rfl) trivial (by kernel_rfl) (by kernel_rfl) (.ag (.cons (.rfl _ rfl) (.cons (.rfl _ rfl) (.cons (.rfl _ rfl) (.cons (.rfl _ rfl) (.cons (.nl) .nil))))))
    ·exact zs (m11 _ _ (zr (zg [10, 12, 16] 3 [0,2,3,4,6,10,11] (zd (j1 r2.2.2.2.1 r2.2.2.2.2 r2.2.1 r2.2.2.1 (i64.wrap (p3 + 1)) h _ _ (zk [0,2,3,4,6,10,11]))))))
   ·exact zs (j1 p7 p8 p5 p6 p3 h _ _ (zk [0,2,3,4,6,10,11]))
def gu : Option Bool := some true
def bT (p1 p2 : (List Int)) : Nat → Int → Option Bool
 | 0, _ => none
 | k1 + 1, x1 => aI (decide (x1 < (p1.length : Int))) (aT (at? p1 x1) fun e1 => aT (at? p2 x1) fun e2 => aI (e1 != e2) (some false) ((bT p1 p2 k1) (i64.wrap (x1 + 1)))) (gu)
def dQ (p1 p2 : (List Int)) : Option Bool := aI ((p1.length : Int) != (p2.length : Int)) (some false) (bT p1 p2 bf (0 : Int))
abbrev Ak (p1 p2 : (List Int)) (x1 e1 e2 : Int) : Fr := [(23, vi e2), (22, .one (.pv (.rp (eI.els p2) x1.toNat 0))), (21, vi x1), (20, vl eI p2), (19, vi e1), (18, .one (.pv (.rp (eI.els p1) x1.toNat 0))), (17, vi x1), (16, vl eI p1), (0, vl eI p1), (1, vl eI p2), (5, vi x1), (12, vi (p1.length : Int)), (13, vi x1)]
theorem dZ (p1 p2 : (List Int)) (r : Bool) (h : dQ p1 p2 = some r) : PC Tryz.prog 147 [vl eI p1, vl eI p2] (vb r) := by
 unfold dQ at h
 refine zF 26 Tryz.f147 (zq fun K1 m1 => zr (zg [] 1 [0,1] (zd (m1 _ _ (zq fun K2 m2 => zq fun K3 m3 => ?_)))))
 refine zr (zv [] 2 [0,1,7] [] [(0, vl eI p1), (1, vl eI p2), (7, vi ((eI.els p1).length : Int))] [] ?_)
 rw [eI.len p1]
 refine zv [] 2 [0,1,7,9] [] [(0, vl eI p1), (1, vl eI p2), (7, vi (p1.length : Int)), (9, vi ((eI.els p2).length : Int))] [] ?_
 rw [eI.len p2]
 refine zg [] 1 [0,1,10] (zd (m3 _ _ (zC h (fun b4 h => ?_) (fun b4 h => ?_))))
 ·refine zq fun K5 m5 => zr (zg [] 1 [4] (zd (m5 _ _ (ze ?_))))
  obtain rfl := zj h
  exact zf [vb false] (.one (.rfl _ rfl))
 ·refine zs (m2 _ _ (zq fun K6 m6 => ?_))
  have j1 : ∀ (_ : Unit), gu = some r → ∀ w0 w1, aL 26 0 [] w0 w1 [] [] → K6 w0 w1 := by
   intro _ h w0 w1 hS
   unfold gu at h
   refine m6 _ _ (XW.sub hS ?_)
   refine zq fun K18 m18 => zr (zg [] 1 [4] (zd (m18 _ _ (ze ?_))))
   obtain rfl := zj h
   exact zf [vb true] (.one (.rfl _ rfl))
  refine zq fun K7 m7 => zr (zv [] 2 [0,1,12] [] [(0, vl eI p1), (1, vl eI p2), (12, vi ((eI.els p1).length : Int))] [] ?_)
  rw [eI.len p1]
  refine zg [] 1 [0,1,12,13] (zd (m7 _ _ (zb 0 (XW.rounds' bf (x := cd Tryz.f147 [1,1,0,1,0,0]) (by kernel_rfl) fun Q1 hQ1 => ?_))))
  have hL1 : ∀ (k1 : Nat) (x1 : Int), bT p1 p2 k1 x1 = some r → XR Tryz.prog 26 0 [] (cd Tryz.f147 [1,1,0,1,0,0]) Q1 k1 [(0, vl eI p1), (1, vl eI p2), (12, vi (p1.length : Int)), (13, vi x1)] [] := by
   intro k1
   induction k1 with
   | zero => intro x1 h; rw [bT.eq_1] at h; cases h
   | succ k1 ih1 =>
    intro x1 h
    rw [bT.eq_2] at h
    refine zq fun K8 m8 => zr (zg [] 1 [0,1,12,13,14] (zd (m8 _ _ (zq fun K9 m9 => zC h (fun b10 h => ?_) (fun b10 h => ?_)))))
    ·refine zs (m9 _ _ (zq fun K11 m11 => zb 1 (zq fun K12 m12 => zr (zg [] 2 [0,1,5,12,13] (zd ?_)))))
     refine m12 _ _ (zq fun K13 m13 => ?_)
     obtain ⟨e1, a14, h⟩ := zB h
     obtain ⟨e2, a15, h⟩ := zB h
     refine zw 8 (Ak p1 p2 x1 e1 e2) ?_ ?_
     ·exact vI 8 [[pi e1], [pi e2]] (Ak p1 p2 x1 e1 e2) [0 ≤ x1 ∧ x1 < ((eI.els p1).length : Int) ∧ aq 1 (eI.els p1), (eI.els p1)[x1.toNat]? = some [pi e1], 0 ≤ x1 ∧ x1 < ((eI.els p2).length : Int) ∧ aq 1 (eI.els p2), (eI.els p2)[x1.toNat]? = some [pi e2]] (⟨eI.inb a14, (eI.get a14), eI.inb a15, (eI.get a15), trivial⟩) lU
     refine zv [] 1 [0,1,12,13,24] [] [(0, vl eI p1), (1, vl eI p2), (12, vi (p1.length : Int)), (13, vi x1), (24, vb (e1 != e2))] [] (zd (m13 _ _ (zC h (fun b16 h => ?_) (fun b16 h => ?_))))
     ·refine zq fun K17 m17 => zr (zg [] 1 [4] (zd (m17 _ _ (ze (hQ1 _ _ _ ?_)))))
      obtain rfl := zj h
      exact zf [vb false] (.one (.rfl _ rfl))
     ·exact zs (m11 _ _ (zr (zg [] 2 [0,1,12,13] (zd (XR.sub (zk [0,1,12,13]) (ih1 (i64.wrap (x1 + 1)) h))))))
    ·exact zx 0 (hQ1 _ _ _ (j1 () h _ _ (zk [])))
  exact XR.sub (zk [0,1,12,13]) (hL1 bf (0 : Int) h)
def i7 (p1 : Int) : Option Bool := some (p1 != p1)
theorem mV (p1 : Int) (r : Bool) (h : i7 p1 = some r) : PC Tryz.prog 170 [vi p1] (vb r) := by
 unfold i7 at h
 refine zF 6 Tryz.f170 (zq fun K1 m1 => zr (zg [] 1 [0] (zd (m1 _ _ (zq fun K2 m2 => zr ?_)))))
 refine zg [] 4 [2] (zd (m2 _ _ (ze ?_)))
 obtain rfl := zj h
 exact zf [vb (p1 != p1)] (.one (.rfl _ rfl))
def eP (p1 p2 : Int) : Option Int := aT (i7 p1) fun r1 => aT (i7 p2) fun r2 => aI r1 (aI r2 (some (0 : Int)) (some (-1 : Int))) (aI r2 (some (1 : Int)) (aI (decide (p1 < p2)) (some (-1 : Int)) (aI (decide (p2 < p1)) (some (1 : Int)) (some (0 : Int)))))
theorem jO (p1 p2 r : Int) (h : eP p1 p2 = some r) : PC Tryz.prog 136 [vi p1, vi p2] (vi r) := by
 unfold eP at h
 refine zF 20 Tryz.f136 (zq fun K1 m1 => zr (zg [] 1 [0,1] (zd (m1 _ _ (zq fun K2 m2 => ?_)))))
 obtain ⟨r1, c3, h⟩ := zB h
 refine zr (zg [] 1 [0,1,7] (zl 170 [vi p1] (vb r1) [(8, vb r1), (0, vi p1), (1, vi p2), (7, vi p1)] (mV _ _ c3) (zg [] 1 [0,1,5] (zd (m2 _ _ (zq fun K4 m4 => ?_))))))
 obtain ⟨r2, c5, h⟩ := zB h
 refine zr (zg [] 1 [0,1,5,9] (zl 170 [vi p2] (vb r2) [(10, vb r2), (0, vi p1), (1, vi p2), (5, vb r1), (9, vi p2)] (mV _ _ c5) (zg [] 1 [0,1,5,6] (zd (m4 _ _ (zq fun K6 m6 => zq fun K7 m7 => ?_))))))
 refine zr (zg [] 1 [0,1,6,11] (zd (m7 _ _ (zC h (fun b8 h => ?_) (fun b8 h => ?_)))))
 ·refine zq fun K9 m9 => zq fun K10 m10 => zr (zv [] 1 [12] [] [(12, vb r2)] [] (zd (m10 _ _ (zC h (fun b11 h => ?_) (fun b11 h => ?_)))))
  ·refine zq fun K12 m12 => zr (zg [] 1 [4] (zd (m12 _ _ (ze ?_))))
   obtain rfl := zj h
   exact zf [vi 0] (.one (.rfl _ rfl))
  ·refine zs (m9 _ _ (zq fun K13 m13 => zr (zg [] 1 [4] (zd (m13 _ _ (ze ?_))))))
   obtain rfl := zj h
   exact zf [vi (-1)] (.one (.rfl _ rfl))
 ·refine zs (m6 _ _ (zq fun K14 m14 => zq fun K15 m15 => zr (zg [] 1 [0,1,13] (zd (m15 _ _ ?_)))))
  refine zC h (fun b16 h => ?_) (fun b16 h => ?_)
  ·refine zq fun K17 m17 => zr (zg [] 1 [4] (zd (m17 _ _ (ze ?_))))
   obtain rfl := zj h
   exact zf [vi 1] (.one (.rfl _ rfl))
  ·refine zs (m14 _ _ (zq fun K18 m18 => zq fun K19 m19 => zr (zv [] 3 [0,1,16] [] [(0, vi p1), (1, vi p2), (16, vb (decide (p1 < p2)))] [] (zd (m19 _ _ ?_)))))
   refine zC h (fun b20 h => ?_) (fun b20 h => ?_)
   ·refine zq fun K21 m21 => zr (zg [] 1 [4] (zd (m21 _ _ (ze ?_))))
    obtain rfl := zj h
    exact zf [vi (-1)] (.one (.rfl _ rfl))
   ·refine zs (m18 _ _ (zq fun K22 m22 => zq fun K23 m23 => zr (zg [] 3 [19] (zd (m23 _ _ ?_)))))
    refine zC h (fun b24 h => ?_) (fun b24 h => ?_)
    ·refine zq fun K25 m25 => zr (zv [] 1 [4] [] [(4, vi 1)] [] (zd (m25 _ _ (ze ?_))))
     obtain rfl := zj h
     exact zf [vi 1] (.one (.rfl _ rfl))
    ·refine zs (m22 _ _ (zq fun K26 m26 => zr (zg [] 1 [4] (zd (m26 _ _ (ze ?_))))))
     obtain rfl := zj h
     exact zf [vi 0] (.one (.rfl _ rfl))
def kE (p1 : Int) : Option ba := aI (decide (p1 < (0 : Int))) (some (ba.mk true ((u64.wrap (0 - (u64.wrap p1))), (0 : Int), (0 : Int), (0 : Int)))) (some (ba.mk false ((u64.wrap p1), (0 : Int), (0 : Int), (0 : Int))))
abbrev AX (p1 : Int) : List CV := [cb true, ck .u64 (u64.wrap (0 - (u64.wrap p1))), ck .u64 0, ck .u64 0, ck .u64 0]
theorem sv (p1 : Int) (r : ba) (h : kE p1 = some r) : PC Tryz.prog 171 [vi p1] (.ag [cb r.neg, ck .u64 r.size.1, ck .u64 r.size.2.1, ck .u64 r.size.2.2.1, ck .u64 r.size.2.2.2]) := by
 unfold kE at h
 refine zF 14 Tryz.f171 (zq fun K1 m1 => zr (zg [2] 1 [0,2] (zd (m1 _ _ (zq fun K2 m2 => zq fun K3 m3 => ?_)))))
 refine zr (zg [2] 2 [0,2,4] (zd (m3 _ _ (zC h (fun b4 h => ?_) (fun b4 h => ?_)))))
 ·refine zq fun K5 m5 => zr (zv [2] 6 [2] [] [(2, vq 0)] [.box (AX p1)] (zd (m5 _ _ (ze ?_))))
  obtain rfl := zj h
  exact zf [.ag (AX p1)] (.ag (.cons (.rfl _ rfl) (.cons (.rfl _ rfl) (.cons (.rfl _ rfl) (.cons (.rfl _ rfl) (.cons (.rfl _ rfl) .nil))))))
 ·refine zs (m2 _ _ (zq fun K6 m6 => zr (zg [2] 5 [2] (zd (m6 _ _ (ze ?_))))))
  obtain rfl := zj h
  exact zf [.ag [cb false, ck .u64 (u64.wrap p1), ck .u64 0, ck .u64 0, ck .u64 0]] (.ag (.cons (.rfl _ rfl) (.cons (.rfl _ rfl) (.cons (.rfl _ rfl) (.cons (.rfl _ rfl) (.cons (.rfl _ rfl) .nil))))))
def ed (p1 p2 : Int) : Option (Int × Int) := aT (some (u64.wrap (BitVec.ofInt u64.bits p1 &&& BitVec.ofInt u64.bits (4294967295 : Int)).toNat)) fun y1 => aT (some (u64.wrap (BitVec.ofInt u64.bits p2 &&& BitVec.ofInt u64.bits (4294967295 : Int)).toNat)) fun y2 => aT (some (u64.wrap ((p1.fdiv (2 ^ (min (32 : Int).toNat u64.bits))) * y2))) fun y3 => aT (some ((u64.wrap (y1 * y2)).fdiv (2 ^ (min (32 : Int).toNat u64.bits)))) fun y4 => aT (some (u64.wrap (BitVec.ofInt u64.bits (u64.wrap (y3 + y4)) &&& BitVec.ofInt u64.bits (4294967295 : Int)).toNat)) fun y5 => aT (some ((u64.wrap (y3 + y4)).fdiv (2 ^ (min (32 : Int).toNat u64.bits)))) fun y6 => aT (some (u64.wrap (y1 * (p2.fdiv (2 ^ (min (32 : Int).toNat u64.bits)))))) fun y7 => aT (some (u64.wrap ((p1.fdiv (2 ^ (min (32 : Int).toNat u64.bits))) * (p2.fdiv (2 ^ (min (32 : Int).toNat u64.bits)))))) fun y8 => aT (some ((u64.wrap (y5 + y7)).fdiv (2 ^ (min (32 : Int).toNat u64.bits)))) fun y9 => some ((u64.wrap ((u64.wrap (y8 + y6)) + y9)), (u64.wrap (p1 * p2)))
theorem ip (p1 p2 : Int) (r : (Int × Int)) (h : ed p1 p2 = some r) : PC Tryz.prog 195 [vk .u64 p1, vk .u64 p2] (.tp [vk .u64 r.1, vk .u64 r.2]) := by
 unfold ed at h
 refine zF 51 Tryz.f195 (zq fun K1 m1 => zr (zg [] 2 [0,1] (zd (m1 _ _ (zq fun K2 m2 => ?_)))))
 obtain ⟨y1, hy3, h⟩ := zB h
 refine zr (zv [] 2 [0,1,15] [] [(0, vk .u64 p1), (1, vk .u64 p2), (15, vk .u64 (u64.wrap (BitVec.ofInt u64.bits p1 &&& BitVec.ofInt u64.bits (4294967295 : Int)).toNat))] [] ?_)
 rw [show (u64.wrap (BitVec.ofInt u64.bits p1 &&& BitVec.ofInt u64.bits (4294967295 : Int)).toNat) = y1 from zj hy3]
 refine zg [] 1 [0,1,6] (zd (m2 _ _ (zq fun K4 m4 => zr (zo [] 3 [0,1,6,7] [] [0 ≤ (32 : Int)] (⟨by decide, trivial⟩) (zd (m4 _ _ ?_))))))
 refine zq fun K5 m5 => ?_
 obtain ⟨y2, hy6, h⟩ := zB h
 refine zr (zv [] 2 [0,1,6,7,19] [] [(0, vk .u64 p1), (1, vk .u64 p2), (6, vk .u64 y1), (7, vk .u64 (p1.fdiv (2 ^ (min (32 : Int).toNat u64.bits)))), (19, vk .u64 (u64.wrap (BitVec.ofInt u64.bits p2 &&& BitVec.ofInt u64.bits (4294967295 : Int)).toNat))] [] ?_)
 rw [show (u64.wrap (BitVec.ofInt u64.bits p2 &&& BitVec.ofInt u64.bits (4294967295 : Int)).toNat) = y2 from zj hy6]
 refine zg [] 1 [0,1,6,7,8] (zd (m5 _ _ (zq fun K7 m7 => zr (zo [] 3 [0,1,6,7,8,9] [] [0 ≤ (32 : Int)] (⟨by decide, trivial⟩) (zd (m7 _ _ ?_))))))
 refine zq fun K8 m8 => zr (zv [] 4 [0,1,6,7,8,9,10] [] [(0, vk .u64 p1), (1, vk .u64 p2), (6, vk .u64 y1), (7, vk .u64 (p1.fdiv (2 ^ (min (32 : Int).toNat u64.bits)))), (8, vk .u64 y2), (9, vk .u64 (p2.fdiv (2 ^ (min (32 : Int).toNat u64.bits)))), (10, vk .u64 (u64.wrap (y1 * y2)))] [] (zd (m8 _ _ (zq fun K9 m9 => ?_))))
 obtain ⟨y3, hy10, h⟩ := zB h
 obtain ⟨y4, hy11, h⟩ := zB h
 refine zr (zv [] 3 [0,1,6,7,9,10,27] [] [(0, vk .u64 p1), (1, vk .u64 p2), (6, vk .u64 y1), (7, vk .u64 (p1.fdiv (2 ^ (min (32 : Int).toNat u64.bits)))), (9, vk .u64 (p2.fdiv (2 ^ (min (32 : Int).toNat u64.bits)))), (10, vk .u64 (u64.wrap (y1 * y2))), (27, vk .u64 (u64.wrap ((p1.fdiv (2 ^ (min (32 : Int).toNat u64.bits))) * y2)))] [] ?_)
 rw [show (u64.wrap ((p1.fdiv (2 ^ (min (32 : Int).toNat u64.bits))) * y2)) = y3 from zj hy10]
 refine zp [] 2 [0,1,6,7,9,27,29] [] [(0, vk .u64 p1), (1, vk .u64 p2), (6, vk .u64 y1), (7, vk .u64 (p1.fdiv (2 ^ (min (32 : Int).toNat u64.bits)))), (9, vk .u64 (p2.fdiv (2 ^ (min (32 : Int).toNat u64.bits)))), (27, vk .u64 y3), (29, vk .u64 ((u64.wrap (y1 * y2)).fdiv (2 ^ (min (32 : Int).toNat u64.bits))))] [] [0 ≤ (32 : Int)] (⟨by decide, trivial⟩) ?_
 rw [show ((u64.wrap (y1 * y2)).fdiv (2 ^ (min (32 : Int).toNat u64.bits))) = y4 from zj hy11]
 refine zg [] 2 [0,1,6,7,9,11] (zd (m9 _ _ (zq fun K12 m12 => ?_)))
 obtain ⟨y5, hy13, h⟩ := zB h
 refine zr (zv [] 2 [0,1,6,7,9,11,32] [] [(0, vk .u64 p1), (1, vk .u64 p2), (6, vk .u64 y1), (7, vk .u64 (p1.fdiv (2 ^ (min (32 : Int).toNat u64.bits)))), (9, vk .u64 (p2.fdiv (2 ^ (min (32 : Int).toNat u64.bits)))), (11, vk .u64 (u64.wrap (y3 + y4))), (32, vk .u64 (u64.wrap (BitVec.ofInt u64.bits (u64.wrap (y3 + y4)) &&& BitVec.ofInt u64.bits (4294967295 : Int)).toNat))] [] ?_)
 rw [show (u64.wrap (BitVec.ofInt u64.bits (u64.wrap (y3 + y4)) &&& BitVec.ofInt u64.bits (4294967295 : Int)).toNat) = y5 from zj hy13]
 refine zg [] 1 [0,1,6,7,9,11,12] (zd (m12 _ _ (zq fun K14 m14 => ?_)))
 obtain ⟨y6, hy15, h⟩ := zB h
 refine zr (zp [] 2 [0,1,6,7,9,12,34] [] [(0, vk .u64 p1), (1, vk .u64 p2), (6, vk .u64 y1), (7, vk .u64 (p1.fdiv (2 ^ (min (32 : Int).toNat u64.bits)))), (9, vk .u64 (p2.fdiv (2 ^ (min (32 : Int).toNat u64.bits)))), (12, vk .u64 y5), (34, vk .u64 ((u64.wrap (y3 + y4)).fdiv (2 ^ (min (32 : Int).toNat u64.bits))))] [] [0 ≤ (32 : Int)] (⟨by decide, trivial⟩) ?_)
 rw [show ((u64.wrap (y3 + y4)).fdiv (2 ^ (min (32 : Int).toNat u64.bits))) = y6 from zj hy15]
 refine zg [] 1 [0,1,6,7,9,12,13] (zd (m14 _ _ (zq fun K16 m16 => ?_)))
 obtain ⟨y7, hy17, h⟩ := zB h
 refine zr (zv [] 4 [0,1,7,9,13,35,38] [] [(0, vk .u64 p1), (1, vk .u64 p2), (7, vk .u64 (p1.fdiv (2 ^ (min (32 : Int).toNat u64.bits)))), (9, vk .u64 (p2.fdiv (2 ^ (min (32 : Int).toNat u64.bits)))), (13, vk .u64 y6), (35, vk .u64 y5), (38, vk .u64 (u64.wrap (y1 * (p2.fdiv (2 ^ (min (32 : Int).toNat u64.bits))))))] [] ?_)
 rw [show (u64.wrap (y1 * (p2.fdiv (2 ^ (min (32 : Int).toNat u64.bits))))) = y7 from zj hy17]
 refine zg [] 2 [0,1,7,9,12,13] (zd (m16 _ _ (zq fun K18 m18 => ?_)))
 obtain ⟨y8, hy19, h⟩ := zB h
 obtain ⟨y9, hy20, h⟩ := zB h
 refine zr (zv [] 3 [0,1,12,13,42] [] [(0, vk .u64 p1), (1, vk .u64 p2), (12, vk .u64 (u64.wrap (y5 + y7))), (13, vk .u64 y6), (42, vk .u64 (u64.wrap ((p1.fdiv (2 ^ (min (32 : Int).toNat u64.bits))) * (p2.fdiv (2 ^ (min (32 : Int).toNat u64.bits))))))] [] ?_)
 rw [show (u64.wrap ((p1.fdiv (2 ^ (min (32 : Int).toNat u64.bits))) * (p2.fdiv (2 ^ (min (32 : Int).toNat u64.bits))))) = y8 from zj hy19]
 refine zp [] 4 [0,1,44,46] [] [(0, vk .u64 p1), (1, vk .u64 p2), (44, vk .u64 (u64.wrap (y8 + y6))), (46, vk .u64 ((u64.wrap (y5 + y7)).fdiv (2 ^ (min (32 : Int).toNat u64.bits))))] [] [0 ≤ (32 : Int)] (⟨by decide, trivial⟩) ?_
 rw [show ((u64.wrap (y5 + y7)).fdiv (2 ^ (min (32 : Int).toNat u64.bits))) = y9 from zj hy20]
 refine zg [] 2 [0,1,4] (zd (m18 _ _ (zq fun K21 m21 => zr (zg [] 4 [4,5] (zd (m21 _ _ ?_))))))
 refine ze ?_
 obtain rfl := zj h
 exact zf [vk .u64 (u64.wrap ((u64.wrap (y8 + y6)) + y9)), vk .u64 (u64.wrap (p1 * p2))] (.tpc (.one (.rfl _ rfl)) (.tpc (.one (.rfl _ rfl)) (.tp0)))
def gp (p1 : ba) (p2 : Int) : Option ba := aT (ed p1.size.1 p2) fun r1 => fL (0 ≤ r1.2 ∧ 0 ≤ (0 : Int) ∧ 0 ≤ (0 : Int) ∧ (0 : Int) ≤ 1) <| aT (some (u64.wrap (r1.1 + ((r1.2 + 0 + (0 : Int)) / 18446744073709551616)))) fun y1 => aT (ed p1.size.2.1 p2) fun r2 => fL (0 ≤ r2.2 ∧ 0 ≤ y1 ∧ 0 ≤ (0 : Int) ∧ (0 : Int) ≤ 1) <| aT (some (u64.wrap (r2.1 + ((r2.2 + y1 + 0) / 18446744073709551616)))) fun y2 => aT (ed p1.size.2.2.1 p2) fun r3 => fL (0 ≤ r3.2 ∧ 0 ≤ y2 ∧ 0 ≤ (0 : Int) ∧ (0 : Int) ≤ 1) <| aT (some (u64.wrap (r3.1 + ((r3.2 + y2 + 0) / 18446744073709551616)))) fun y3 => aT (ed p1.size.2.2.2 p2) fun r4 => fL (0 ≤ r4.2 ∧ 0 ≤ y3 ∧ 0 ≤ (0 : Int) ∧ (0 : Int) ≤ 1) <| aT (some (u64.wrap (r4.1 + ((r4.2 + y3 + 0) / 18446744073709551616)))) fun y4 => some (ba.mk p1.neg (((r1.2 + 0 + (0 : Int)) % 18446744073709551616), ((r2.2 + y1 + 0) % 18446744073709551616), ((r3.2 + y2 + 0) % 18446744073709551616), ((r4.2 + y3 + 0) % 18446744073709551616)))
abbrev bg (p1 : ba) : List CV := [cb p1.neg, ck .u64 p1.size.1, ck .u64 p1.size.2.1, ck .u64 p1.size.2.2.1, ck .u64 p1.size.2.2.2]
abbrev fQ (p1 : ba) : List CV := [ck .u64 p1.size.1, ck .u64 p1.size.2.1, ck .u64 p1.size.2.2.1, ck .u64 p1.size.2.2.2]
abbrev bH : List CV := [cb false, ck .u64 0, ck .u64 0, ck .u64 0, ck .u64 0]
abbrev tY (p1 : ba) (r1 : (Int × Int)) : List CV := [cb p1.neg, ck .u64 ((r1.2 + 0 + (0 : Int)) % 18446744073709551616), ck .u64 p1.size.2.1, ck .u64 p1.size.2.2.1, ck .u64 p1.size.2.2.2]
abbrev ud (p1 : ba) (r1 : (Int × Int)) (y1 : Int) (r2 : (Int × Int)) : List CV := [cb p1.neg, ck .u64 ((r1.2 + 0 + (0 : Int)) % 18446744073709551616), ck .u64 ((r2.2 + y1 + 0) % 18446744073709551616), ck .u64 p1.size.2.2.1, ck .u64 p1.size.2.2.2]
abbrev ub (p1 : ba) (r1 : (Int × Int)) (y1 : Int) (r2 : (Int × Int)) (y2 : Int) (r3 : (Int × Int)) : List CV := [cb p1.neg, ck .u64 ((r1.2 + 0 + (0 : Int)) % 18446744073709551616), ck .u64 ((r2.2 + y1 + 0) % 18446744073709551616), ck .u64 ((r3.2 + y2 + 0) % 18446744073709551616), ck .u64 p1.size.2.2.2]
abbrev yX (p1 : ba) (r1 : (Int × Int)) (y1 : Int) (r2 : (Int × Int)) (y2 : Int) (r3 : (Int × Int)) (y3 : Int) (r4 : (Int × Int)) : List CV := [cb p1.neg, ck .u64 ((r1.2 + 0 + (0 : Int)) % 18446744073709551616), ck .u64 ((r2.2 + y1 + 0) % 18446744073709551616), ck .u64 ((r3.2 + y2 + 0) % 18446744073709551616), ck .u64 ((r4.2 + y3 + 0) % 18446744073709551616)]
theorem oH (p1 : ba) (p2 : Int) (r : ba) (h : gp p1 p2 = some r) : PC Tryz.prog 182 [.ag (bg p1), vk .u64 p2] (.ag [cb r.neg, ck .u64 r.size.1, ck .u64 r.size.2.1, ck .u64 r.size.2.2.1, ck .u64 r.size.2.2.2]) := by
 unfold gp at h
 refine zF 37 Tryz.f182 (zq fun K1 m1 => zr (zg [2, 4] 2 [1,2,4] (zd (m1 _ _ (zq fun K2 m2 => zr ?_)))))
 refine zg [2, 4] 1 [1,2,4,5] (zd (m2 _ _ (zq fun K3 m3 => zq fun K4 m4 => zr (zv [2, 4] 3 [1,2,4,5,12,13] [] [(1, vk .u64 p2), (2, vq 0), (4, vq 1), (5, vk .u64 0), (12, .ag (fQ p1)), (13, vi 0)] [.box (bg p1), .box bH] (zd ?_)))))
 refine m4 _ _ (zb 0 (XW.rounds' 5 (x := cd Tryz.f182 [1,1,0,1,0,0]) (by kernel_rfl) fun Q1 hQ1 => XR.one (zq fun K5 m5 => zr (zg [2, 4] 1 [1,2,4,5,12,13,14] (zd ?_)))))
 refine m5 _ _ (zq fun K6 m6 => zc true (fun _ => ?_) (fun hx => by cases hx))
 refine zs (m6 _ _ (zq fun K7 m7 => zb 1 (zq fun K8 m8 => zr (zo [2, 4] 4 [1,2,4,5,6,7,12,13] [] [0 ≤ (0 : Int) ∧ (0 : Int) < 4] (⟨by decide, trivial⟩) (zd ?_)))))
 refine m8 _ _ (zq fun K9 m9 => ?_)
 obtain ⟨r1, c10, h⟩ := zB h
 refine zr (zv [2, 4] 2 [1,2,4,5,6,12,13,18,19] [] [(1, vk .u64 p2), (2, vq 0), (4, vq 1), (5, vk .u64 0), (6, vi 0), (12, .ag (fQ p1)), (13, vi 0), (18, vk .u64 p1.size.1), (19, vk .u64 p2)] [.box (bg p1), .box bH] (za (ip _ _ _ c10) (zg [2, 4] 5 [1,2,4,5,6,8,9,12,13] (zd ?_))))
 refine m9 _ _ (zq fun K11 m11 => zr (zv [2, 4] 1 [1,2,4,5,6,8,9,12,13] [] [(1, vk .u64 p2), (2, vq 0), (4, vq 1), (5, vk .u64 0), (6, vi 0), (8, vk .u64 r1.1), (9, vk .u64 r1.2), (12, .ag (fQ p1)), (13, vi 0)] [.box (bg p1), .box bH] (zd (m11 _ _ (zq fun K12 m12 => ?_)))))
 obtain ⟨g13, h⟩ := zG h
 refine zr (zv [2, 4] 3 [1,2,4,8,12,13,24,25,26] [] [(1, vk .u64 p2), (2, vq 0), (4, vq 1), (8, vk .u64 r1.1), (12, .ag (fQ p1)), (13, vi 0), (24, vi 0), (25, vk .u64 r1.2), (26, vk .u64 0)] [.box (bg p1), .box bH] ?_)
 refine XO.ext 196 [.int .u64 r1.2, .int .u64 (0 : Int), .int .u64 (0 : Int)] [.int .u64 ((r1.2 + 0 + (0 : Int)) % 18446744073709551616), .int .u64 ((r1.2 + 0 + (0 : Int)) / 18446744073709551616)] [(27, .tp [vk .u64 ((r1.2 + 0 + (0 : Int)) % 18446744073709551616), vk .u64 ((r1.2 + 0 + (0 : Int)) / 18446744073709551616)]), (1, vk .u64 p2), (2, vq 0), (4, vq 1), (8, vk .u64 r1.1), (12, .ag (fQ p1)), (13, vi 0), (24, vi 0), (25, vk .u64 r1.2), (26, vk .u64 0)] (by kernel_rfl) (jF (fn := Tryz.f196) (by kernel_rfl) (by kernel_rfl) (by kernel_rfl) (by kernel_rfl) (by kernel_rfl) g13.1 g13.2.1 g13.2.2.1 g13.2.2.2) rfl (by kernel_rfl) ?_
 refine zo [2, 4] 7 [1,2,4,8,10,12,13] [] [0 ≤ (0 : Int) ∧ (0 : Int) < 4] (⟨by decide, trivial⟩) (zd (m12 _ _ ?_))
 obtain ⟨y1, hy14, h⟩ := zB h
 refine zr (zv [2, 4] 3 [1,2,4,12,13,34] [] [(1, vk .u64 p2), (2, vq 0), (4, vq 1), (12, .ag [ck .u64 p1.size.1, ck .u64 p1.size.2.1, ck .u64 p1.size.2.2.1, ck .u64 p1.size.2.2.2]), (13, vi 0), (34, vk .u64 (u64.wrap (r1.1 + ((r1.2 + 0 + (0 : Int)) / 18446744073709551616))))] [.box [cb p1.neg, ck .u64 ((r1.2 + 0 + (0 : Int)) % 18446744073709551616), ck .u64 p1.size.2.1, ck .u64 p1.size.2.2.1, ck .u64 p1.size.2.2.2], .box [cb false, ck .u64 0, ck .u64 0, ck .u64 0, ck .u64 0]] ?_)
 rw [show (u64.wrap (r1.1 + ((r1.2 + 0 + (0 : Int)) / 18446744073709551616))) = y1 from zj hy14]
 refine zg [2, 4] 1 [1,2,4,5,12,13] (zd (m7 _ _ (zr (zv [2, 4] 2 [1,2,4,5,12,13] [] [(1, vk .u64 p2), (2, vq 0), (4, vq 1), (5, vk .u64 y1), (12, .ag (fQ p1)), (13, vi 1)] [.box (tY p1 r1), .box bH] (zd (XR.one (zq fun K15 m15 => ?_)))))))
 refine zr (zg [2, 4] 1 [1,2,4,5,12,13,14] (zd (m15 _ _ (zq fun K16 m16 => zc true (fun _ => ?_) (fun hx => by cases hx)))))
 refine zs (m16 _ _ (zq fun K17 m17 => zb 1 (zq fun K18 m18 => zr (zo [2, 4] 4 [1,2,4,5,6,7,12,13] [] [0 ≤ (1 : Int) ∧ (1 : Int) < 4] (⟨by decide, trivial⟩) (zd ?_)))))
 refine m18 _ _ (zq fun K19 m19 => ?_)
 obtain ⟨r2, c20, h⟩ := zB h
 refine zr (zv [2, 4] 2 [1,2,4,5,6,12,13,18,19] [] [(1, vk .u64 p2), (2, vq 0), (4, vq 1), (5, vk .u64 y1), (6, vi 1), (12, .ag (fQ p1)), (13, vi 1), (18, vk .u64 p1.size.2.1), (19, vk .u64 p2)] [.box (tY p1 r1), .box bH] (za (ip _ _ _ c20) ?_))
 refine zg [2, 4] 5 [1,2,4,5,6,8,9,12,13] (zd (m19 _ _ (zq fun K21 m21 => zr ?_)))
 refine zv [2, 4] 1 [1,2,4,5,6,8,9,12,13] [] [(1, vk .u64 p2), (2, vq 0), (4, vq 1), (5, vk .u64 y1), (6, vi 1), (8, vk .u64 r2.1), (9, vk .u64 r2.2), (12, .ag (fQ p1)), (13, vi 1)] [.box (tY p1 r1), .box bH] (zd (m21 _ _ (zq fun K22 m22 => ?_)))
 obtain ⟨g23, h⟩ := zG h
 refine zr (zv [2, 4] 3 [1,2,4,8,12,13,24,25,26] [] [(1, vk .u64 p2), (2, vq 0), (4, vq 1), (8, vk .u64 r2.1), (12, .ag (fQ p1)), (13, vi 1), (24, vi 1), (25, vk .u64 r2.2), (26, vk .u64 y1)] [.box (tY p1 r1), .box bH] ?_)
 refine XO.ext 196 [.int .u64 r2.2, .int .u64 y1, .int .u64 (0 : Int)] [.int .u64 ((r2.2 + y1 + 0) % 18446744073709551616), .int .u64 ((r2.2 + y1 + 0) / 18446744073709551616)] [(27, .tp [vk .u64 ((r2.2 + y1 + 0) % 18446744073709551616), vk .u64 ((r2.2 + y1 + 0) / 18446744073709551616)]), (1, vk .u64 p2), (2, vq 0), (4, vq 1), (8, vk .u64 r2.1), (12, .ag (fQ p1)), (13, vi 1), (24, vi 1), (25, vk .u64 r2.2), (26, vk .u64 y1)] (by kernel_rfl) (jF (fn := Tryz.f196) (by kernel_rfl) (by kernel_rfl) (by kernel_rfl) (by kernel_rfl) (by kernel_rfl) g23.1 g23.2.1 g23.2.2.1 g23.2.2.2) rfl (by kernel_rfl) ?_
 refine zo [2, 4] 7 [1,2,4,8,10,12,13] [] [0 ≤ (1 : Int) ∧ (1 : Int) < 4] (⟨by decide, trivial⟩) (zd (m22 _ _ ?_))
 obtain ⟨y2, hy24, h⟩ := zB h
 refine zr ?_
 refine zv [2, 4] 3 [1,2,4,12,13,34] [] [(1, vk .u64 p2), (2, vq 0), (4, vq 1), (12, .ag [ck .u64 p1.size.1, ck .u64 p1.size.2.1, ck .u64 p1.size.2.2.1, ck .u64 p1.size.2.2.2]), (13, vi 1), (34, vk .u64 (u64.wrap (r2.1 + ((r2.2 + y1 + 0) / 18446744073709551616))))] [.box [cb p1.neg, ck .u64 ((r1.2 + 0 + (0 : Int)) % 18446744073709551616), ck .u64 ((r2.2 + y1 + 0) % 18446744073709551616), ck .u64 p1.size.2.2.1, ck .u64 p1.size.2.2.2], .box [cb false, ck .u64 0, ck .u64 0, ck .u64 0, ck .u64 0]] ?_
 rw [show (u64.wrap (r2.1 + ((r2.2 + y1 + 0) / 18446744073709551616))) = y2 from zj hy24]
 refine zg [2, 4] 1 [1,2,4,5,12,13] (zd (m17 _ _ (zr (zv [2, 4] 2 [1,2,4,5,12,13] [] [(1, vk .u64 p2), (2, vq 0), (4, vq 1), (5, vk .u64 y2), (12, .ag (fQ p1)), (13, vi 2)] [.box (ud p1 r1 y1 r2), .box bH] (zd (XR.one ?_))))))
 refine zq fun K25 m25 => zr (zg [2, 4] 1 [1,2,4,5,12,13,14] (zd (m25 _ _ (zq fun K26 m26 => zc true (fun _ => ?_) (fun hx => by cases hx)))))
 refine zs (m26 _ _ (zq fun K27 m27 => zb 1 (zq fun K28 m28 => zr (zo [2, 4] 4 [1,2,4,5,6,7,12,13] [] [0 ≤ (2 : Int) ∧ (2 : Int) < 4] (⟨by decide, trivial⟩) (zd ?_)))))
 refine m28 _ _ (zq fun K29 m29 => ?_)
 obtain ⟨r3, c30, h⟩ := zB h
 refine zr ?_
 refine zv [2, 4] 2 [1,2,4,5,6,12,13,18,19] [] [(1, vk .u64 p2), (2, vq 0), (4, vq 1), (5, vk .u64 y2), (6, vi 2), (12, .ag (fQ p1)), (13, vi 2), (18, vk .u64 p1.size.2.2.1), (19, vk .u64 p2)] [.box (ud p1 r1 y1 r2), .box bH] ?_
 refine za (ip _ _ _ c30) (zg [2, 4] 5 [1,2,4,5,6,8,9,12,13] (zd (m29 _ _ (zq fun K31 m31 => zr ?_))))
 refine zv [2, 4] 1 [1,2,4,5,6,8,9,12,13] [] [(1, vk .u64 p2), (2, vq 0), (4, vq 1), (5, vk .u64 y2), (6, vi 2), (8, vk .u64 r3.1), (9, vk .u64 r3.2), (12, .ag (fQ p1)), (13, vi 2)] [.box (ud p1 r1 y1 r2), .box bH] (zd ?_)
 refine m31 _ _ (zq fun K32 m32 => ?_)
 obtain ⟨g33, h⟩ := zG h
 refine zr (zv [2, 4] 3 [1,2,4,8,12,13,24,25,26] [] [(1, vk .u64 p2), (2, vq 0), (4, vq 1), (8, vk .u64 r3.1), (12, .ag (fQ p1)), (13, vi 2), (24, vi 2), (25, vk .u64 r3.2), (26, vk .u64 y2)] [.box (ud p1 r1 y1 r2), .box bH] ?_)
 refine XO.ext 196 [.int .u64 r3.2, .int .u64 y2, .int .u64 (0 : Int)] [.int .u64 ((r3.2 + y2 + 0) % 18446744073709551616), .int .u64 ((r3.2 + y2 + 0) / 18446744073709551616)] [(27, .tp [vk .u64 ((r3.2 + y2 + 0) % 18446744073709551616), vk .u64 ((r3.2 + y2 + 0) / 18446744073709551616)]), (1, vk .u64 p2), (2, vq 0), (4, vq 1), (8, vk .u64 r3.1), (12, .ag (fQ p1)), (13, vi 2), (24, vi 2), (25, vk .u64 r3.2), (26, vk .u64 y2)] (by kernel_rfl) (jF (fn := Tryz.f196) (by kernel_rfl) (by kernel_rfl) (by kernel_rfl) (by kernel_rfl) (by kernel_rfl) g33.1 g33.2.1 g33.2.2.1 g33.2.2.2) rfl (by kernel_rfl) ?_
 refine zo [2, 4] 7 [1,2,4,8,10,12,13] [] [0 ≤ (2 : Int) ∧ (2 : Int) < 4] (⟨by decide, trivial⟩) (zd (m32 _ _ ?_))
 obtain ⟨y3, hy34, h⟩ := zB h
 refine zr ?_
 refine zv [2, 4] 3 [1,2,4,12,13,34] [] [(1, vk .u64 p2), (2, vq 0), (4, vq 1), (12, .ag [ck .u64 p1.size.1, ck .u64 p1.size.2.1, ck .u64 p1.size.2.2.1, ck .u64 p1.size.2.2.2]), (13, vi 2), (34, vk .u64 (u64.wrap (r3.1 + ((r3.2 + y2 + 0) / 18446744073709551616))))] [.box [cb p1.neg, ck .u64 ((r1.2 + 0 + (0 : Int)) % 18446744073709551616), ck .u64 ((r2.2 + y1 + 0) % 18446744073709551616), ck .u64 ((r3.2 + y2 + 0) % 18446744073709551616), ck .u64 p1.size.2.2.2], .box [cb false, ck .u64 0, ck .u64 0, ck .u64 0, ck .u64 0]] ?_
 rw [show (u64.wrap (r3.1 + ((r3.2 + y2 + 0) / 18446744073709551616))) = y3 from zj hy34]
 refine zg [2, 4] 1 [1,2,4,5,12,13] (zd (m27 _ _ (zr ?_)))
 refine zv [2, 4] 2 [1,2,4,5,12,13] [] [(1, vk .u64 p2), (2, vq 0), (4, vq 1), (5, vk .u64 y3), (12, .ag (fQ p1)), (13, vi 3)] [.box (ub p1 r1 y1 r2 y2 r3), .box bH] (zd (XR.one (zq fun K35 m35 => zr ?_)))
 refine zg [2, 4] 1 [1,2,4,5,12,13,14] (zd (m35 _ _ (zq fun K36 m36 => zc true (fun _ => ?_) (fun hx => by cases hx))))
 refine zs (m36 _ _ (zq fun K37 m37 => zb 1 (zq fun K38 m38 => zr (zo [2, 4] 4 [1,2,4,5,6,7,12,13] [] [0 ≤ (3 : Int) ∧ (3 : Int) < 4] (⟨by decide, trivial⟩) (zd ?_)))))
 refine m38 _ _ (zq fun K39 m39 => ?_)
 obtain ⟨r4, c40, h⟩ := zB h
 refine zr ?_
 refine zv [2, 4] 2 [1,2,4,5,6,12,13,18,19] [] [(1, vk .u64 p2), (2, vq 0), (4, vq 1), (5, vk .u64 y3), (6, vi 3), (12, .ag (fQ p1)), (13, vi 3), (18, vk .u64 p1.size.2.2.2), (19, vk .u64 p2)] [.box (ub p1 r1 y1 r2 y2 r3), .box bH] ?_
 refine za (ip _ _ _ c40) (zg [2, 4] 5 [1,2,4,5,6,8,9,12,13] (zd (m39 _ _ (zq fun K41 m41 => zr ?_))))
 refine zv [2, 4] 1 [1,2,4,5,6,8,9,12,13] [] [(1, vk .u64 p2), (2, vq 0), (4, vq 1), (5, vk .u64 y3), (6, vi 3), (8, vk .u64 r4.1), (9, vk .u64 r4.2), (12, .ag (fQ p1)), (13, vi 3)] [.box (ub p1 r1 y1 r2 y2 r3), .box bH] ?_
 refine zd (m41 _ _ (zq fun K42 m42 => ?_))
 obtain ⟨g43, h⟩ := zG h
 refine zr ?_
 refine zv [2, 4] 3 [1,2,4,8,12,13,24,25,26] [] [(1, vk .u64 p2), (2, vq 0), (4, vq 1), (8, vk .u64 r4.1), (12, .ag (fQ p1)), (13, vi 3), (24, vi 3), (25, vk .u64 r4.2), (26, vk .u64 y3)] [.box (ub p1 r1 y1 r2 y2 r3), .box bH] ?_
 refine XO.ext 196 [.int .u64 r4.2, .int .u64 y3, .int .u64 (0 : Int)] [.int .u64 ((r4.2 + y3 + 0) % 18446744073709551616), .int .u64 ((r4.2 + y3 + 0) / 18446744073709551616)] [(27, .tp [vk .u64 ((r4.2 + y3 + 0) % 18446744073709551616), vk .u64 ((r4.2 + y3 + 0) / 18446744073709551616)]), (1, vk .u64 p2), (2, vq 0), (4, vq 1), (8, vk .u64 r4.1), (12, .ag (fQ p1)), (13, vi 3), (24, vi 3), (25, vk .u64 r4.2), (26, vk .u64 y3)] (by kernel_rfl) (jF (fn := Tryz.f196) (by kernel_rfl) (by kernel_rfl) (by kernel_rfl) (by kernel_rfl) (by kernel_rfl) g43.1 g43.2.1 g43.2.2.1 g43.2.2.2) rfl (by kernel_rfl) ?_
 refine zo [2, 4] 7 [1,2,4,8,10,12,13] [] [0 ≤ (3 : Int) ∧ (3 : Int) < 4] (⟨by decide, trivial⟩) (zd (m42 _ _ ?_))
 obtain ⟨y4, hy44, h⟩ := zB h
 refine zr ?_
 refine zv [2, 4] 3 [1,2,4,12,13,34] [] [(1, vk .u64 p2), (2, vq 0), (4, vq 1), (12, .ag [ck .u64 p1.size.1, ck .u64 p1.size.2.1, ck .u64 p1.size.2.2.1, ck .u64 p1.size.2.2.2]), (13, vi 3), (34, vk .u64 (u64.wrap (r4.1 + ((r4.2 + y3 + 0) / 18446744073709551616))))] [.box [cb p1.neg, ck .u64 ((r1.2 + 0 + (0 : Int)) % 18446744073709551616), ck .u64 ((r2.2 + y1 + 0) % 18446744073709551616), ck .u64 ((r3.2 + y2 + 0) % 18446744073709551616), ck .u64 ((r4.2 + y3 + 0) % 18446744073709551616)], .box [cb false, ck .u64 0, ck .u64 0, ck .u64 0, ck .u64 0]] ?_
 rw [show (u64.wrap (r4.1 + ((r4.2 + y3 + 0) / 18446744073709551616))) = y4 from zj hy44]
 refine zg [2, 4] 1 [1,2,4,5,12,13] (zd (m37 _ _ (zr ?_)))
 refine zv [2, 4] 2 [1,2,4,5,12,13] [] [(1, vk .u64 p2), (2, vq 0), (4, vq 1), (5, vk .u64 y4), (12, .ag (fQ p1)), (13, vi 4)] [.box (yX p1 r1 y1 r2 y2 r3 y3 r4), .box bH] (zd ?_)
 refine XR.one (zq fun K45 m45 => zr (zg [2, 4] 1 [1,2,4,5,12,13,14] (zd (m45 _ _ (zq fun K46 m46 => zc false (fun hx => by cases hx) (fun _ => ?_))))))
 refine zx 0 (hQ1 _ _ _ (m3 _ _ (zq fun K47 m47 => zr (zg [2, 4] 2 [4] (zd (m47 _ _ ?_))))))
 refine ze ?_
 obtain rfl := zj h
 exact zf [.ag (yX p1 r1 y1 r2 y2 r3 y3 r4)] (.ag (.cons (.rfl _ rfl) (.cons (.rfl _ rfl) (.cons (.rfl _ rfl) (.cons (.rfl _ rfl) (.cons (.rfl _ rfl) .nil))))))
def ik (z6 : Bool) (z7 z8 z9 z10 : Int) : Option ba := some (ba.mk z6 (z7, z8, z9, z10))
def bS (p2 : Int) : Nat → Bool → Int → Int → Int → Int → Int → Option ba
 | 0, _, _, _, _, _, _ => none
 | k1 + 1, z1, z2, z3, z4, z5, x1 => aI (decide (x1 < p2)) (aT (gp (ba.mk z1 (z2, z3, z4, z5)) (10 : Int)) fun r1 => (bS p2 k1) r1.neg r1.size.1 r1.size.2.1 r1.size.2.2.1 r1.size.2.2.2 (i64.wrap (x1 + 1))) (ik z1 z2 z3 z4 z5)
def gK (p1 : ba) (p2 : Int) : Option ba := bS p2 bf p1.neg p1.size.1 p1.size.2.1 p1.size.2.2.1 p1.size.2.2.2 (0 : Int)
theorem nA (p1 : ba) (p2 : Int) (r : ba) (h : gK p1 p2 = some r) : PC Tryz.prog 172 [.ag [cb p1.neg, ck .u64 p1.size.1, ck .u64 p1.size.2.1, ck .u64 p1.size.2.2.1, ck .u64 p1.size.2.2.2], vi p2] (.ag [cb r.neg, ck .u64 r.size.1, ck .u64 r.size.2.1, ck .u64 r.size.2.2.1, ck .u64 r.size.2.2.2]) := by
 unfold gK at h
 refine zF 12 Tryz.f172 (zq fun K1 m1 => zr (zg [2, 4] 2 [1,2,4] (zd (m1 _ _ (zq fun K2 m2 => ?_)))))
 have j1 : ∀ (z6 : Bool) (z7 z8 z9 z10 : Int), ik z6 z7 z8 z9 z10 = some r → ∀ w0 w1, aL 12 0 [] w0 w1 [(2, vq 0), (4, vq 1)] [.box [cb z6, ck .u64 z7, ck .u64 z8, ck .u64 z9, ck .u64 z10], .box bH] → K2 w0 w1 := by
  intro z6 z7 z8 z9 z10 h w0 w1 hS
  unfold ik at h
  refine m2 _ _ (XW.sub hS ?_)
  refine zq fun K9 m9 => zr (zg [2, 4] 2 [4] (zd (m9 _ _ (ze ?_))))
  obtain rfl := zj h
  exact zf [.ag [cb z6, ck .u64 z7, ck .u64 z8, ck .u64 z9, ck .u64 z10]] (.ag (.cons (.rfl _ rfl) (.cons (.rfl _ rfl) (.cons (.rfl _ rfl) (.cons (.rfl _ rfl) (.cons (.rfl _ rfl) .nil))))))
 refine zq fun K3 m3 => zr (zg [2, 4] 2 [2,4,5,6] (zd (m3 _ _ (zb 0 (XW.rounds' bf (x := cd Tryz.f172 [1,0,1,0,0]) (by kernel_rfl) fun Q1 hQ1 => ?_)))))
 have hL1 : ∀ (k1 : Nat) (z1 : Bool) (z2 z3 z4 z5 x1 : Int), bS p2 k1 z1 z2 z3 z4 z5 x1 = some r → XR Tryz.prog 12 0 [] (cd Tryz.f172 [1,0,1,0,0]) Q1 k1 [(2, vq 0), (4, vq 1), (5, vi p2), (6, vi x1)] [.box [cb z1, ck .u64 z2, ck .u64 z3, ck .u64 z4, ck .u64 z5], .box bH] := by
  intro k1
  induction k1 with
  | zero => intro z1 z2 z3 z4 z5 x1 h; rw [bS.eq_1] at h; cases h
  | succ k1 ih1 =>
   intro z1 z2 z3 z4 z5 x1 h
   rw [bS.eq_2] at h
   refine zq fun K4 m4 => zr (zg [2, 4] 1 [2,4,5,6,7] (zd (m4 _ _ (zq fun K5 m5 => zC h (fun b6 h => ?_) (fun b6 h => ?_)))))
   ·refine zs (m5 _ _ (zq fun K7 m7 => zb 1 ?_))
    obtain ⟨r1, c8, h⟩ := zB h
    refine zr (zg [2, 4] 1 [2,4,5,6,8] (zl 182 [.ag [cb z1, ck .u64 z2, ck .u64 z3, ck .u64 z4, ck .u64 z5], vk .u64 10] (.ag (bg r1)) [(9, .ag (bg r1)), (2, vq 0), (4, vq 1), (5, vi p2), (6, vi x1), (8, .ag [cb z1, ck .u64 z2, ck .u64 z3, ck .u64 z4, ck .u64 z5])] (oH _ _ _ c8) (zg [2, 4] 1 [2,4,5,6] (zd (m7 _ _ (zr (zg [2, 4] 2 [2,4,5,6] ?_)))))))
    exact zd (XR.sub (zk [2,4,5,6]) (ih1 r1.neg r1.size.1 r1.size.2.1 r1.size.2.2.1 r1.size.2.2.2 (i64.wrap (x1 + 1)) h))
   ·exact zx 0 (hQ1 _ _ _ (j1 z1 z2 z3 z4 z5 h _ _ (zk [2,4])))
 exact XR.sub (zk [2,4,5,6]) (hL1 bf p1.neg p1.size.1 p1.size.2.1 p1.size.2.2.1 p1.size.2.2.2 (0 : Int) h)
def iR (p1 p2 : Int) : Option ba := aT (kE p1) fun r1 => aT (gK (ba.mk r1.neg (r1.size.1, r1.size.2.1, r1.size.2.2.1, r1.size.2.2.2)) p2) fun r2 => some (ba.mk r2.neg (r2.size.1, r2.size.2.1, r2.size.2.2.1, r2.size.2.2.2))
theorem nr (p1 p2 : Int) (r : ba) (h : iR p1 p2 = some r) : PC Tryz.prog 138 [vi p1, vi p2] (.ag [cb r.neg, ck .u64 r.size.1, ck .u64 r.size.2.1, ck .u64 r.size.2.2.1, ck .u64 r.size.2.2.2]) := by
 unfold iR at h
 refine zF 9 Tryz.f138 (zq fun K1 m1 => zr (zg [4] 1 [0,1,4] (zd (m1 _ _ (zq fun K2 m2 => ?_)))))
 obtain ⟨r1, c3, h⟩ := zB h
 obtain ⟨r2, c4, h⟩ := zB h
 refine zr (zg [4] 1 [1,4,5] (zl 171 [vi p1] (.ag (bg r1)) [(6, .ag (bg r1)), (1, vi p2), (4, vq 0), (5, vi p1)] (sv _ _ c3) (zg [4] 1 [4,6,7] (za (nA _ _ _ c4) (zv [4] 1 [4] [] [(4, vq 0)] [.box (bg r2)] (zd (m2 _ _ ?_)))))))
 refine ze ?_
 obtain rfl := zj h
 exact zf [.ag (bg r2)] (.ag (.cons (.rfl _ rfl) (.cons (.rfl _ rfl) (.cons (.rfl _ rfl) (.cons (.rfl _ rfl) (.cons (.rfl _ rfl) .nil))))))
def fg (p1 : ba) : Option ba := some (ba.mk (!p1.neg) (p1.size.1, p1.size.2.1, p1.size.2.2.1, p1.size.2.2.2))
abbrev xg (p1 : ba) : List CV := [cb (!p1.neg), ck .u64 p1.size.1, ck .u64 p1.size.2.1, ck .u64 p1.size.2.2.1, ck .u64 p1.size.2.2.2]
theorem iw (p1 r : ba) (h : fg p1 = some r) : PC Tryz.prog 188 [.ag [cb p1.neg, ck .u64 p1.size.1, ck .u64 p1.size.2.1, ck .u64 p1.size.2.2.1, ck .u64 p1.size.2.2.2]] (.ag [cb r.neg, ck .u64 r.size.1, ck .u64 r.size.2.1, ck .u64 r.size.2.2.1, ck .u64 r.size.2.2.2]) := by
 unfold fg at h
 refine zF 8 Tryz.f188 (zq fun K1 m1 => zr (zg [1, 2] 2 [1,2] (zd (m1 _ _ (zq fun K2 m2 => zr ?_)))))
 refine zg [1, 2] 5 [1,2] (zd (m2 _ _ (zq fun K3 m3 => zr (zv [1, 2] 2 [2] [] [(2, vq 1)] [.box (xg p1), .box (xg p1)] (zd (m3 _ _ ?_))))))
 refine ze ?_
 obtain rfl := zj h
 exact zf [.ag (xg p1)] (.ag (.cons (.rfl _ rfl) (.cons (.rfl _ rfl) (.cons (.rfl _ rfl) (.cons (.rfl _ rfl) (.cons (.rfl _ rfl) .nil))))))
def fN (p1 p2 : ba) : Option Int := aI (decide (p1.size.2.2.2 < p2.size.2.2.2)) (some (-1 : Int)) (aI (decide (p2.size.2.2.2 < p1.size.2.2.2)) (some (1 : Int)) (aI (decide (p1.size.2.2.1 < p2.size.2.2.1)) (some (-1 : Int)) (aI (decide (p2.size.2.2.1 < p1.size.2.2.1)) (some (1 : Int)) (aI (decide (p1.size.2.1 < p2.size.2.1)) (some (-1 : Int)) (aI (decide (p2.size.2.1 < p1.size.2.1)) (some (1 : Int)) (aI (decide (p1.size.1 < p2.size.1)) (some (-1 : Int)) (aI (decide (p2.size.1 < p1.size.1)) (some (1 : Int)) (some (0 : Int)))))))))
abbrev al (p1 : ba) : List PV := [.s (.bool p1.neg), .s (.int .u64 p1.size.1), .s (.int .u64 p1.size.2.1), .s (.int .u64 p1.size.2.2.1), .s (.int .u64 p1.size.2.2.2)]
abbrev Bt (p1 p2 : ba) : Fr := [(28, vk .u64 p2.size.2.2.2), (27, .one (.pv (.rp [(al p2)] 0 4))), (26, .one (.pv (.rp [(al p2)] 0 1))), (25, vi 3), (24, vk .u64 p1.size.2.2.2), (23, .one (.pv (.rp [(al p1)] 0 4))), (22, .one (.pv (.rp [(al p1)] 0 1))), (21, vi 3), (2, vR (al p1)), (3, vR (al p2)), (5, vi 3), (10, vb (decide (p1.size.2.2.2 < p2.size.2.2.2)))]
theorem od (p1 p2 : ba) (r : Int) (h : fN p1 p2 = some r) : PC Tryz.prog 189 [.ag [cb p1.neg, ck .u64 p1.size.1, ck .u64 p1.size.2.1, ck .u64 p1.size.2.2.1, ck .u64 p1.size.2.2.2], .ag [cb p2.neg, ck .u64 p2.size.1, ck .u64 p2.size.2.1, ck .u64 p2.size.2.2.1, ck .u64 p2.size.2.2.2]] (vi r) := by
 unfold fN at h
 refine zF 30 Tryz.f189 (zq fun K1 m1 => zr (zg [] 3 [2,3] (zd (m1 _ _ (zq fun K2 m2 => zq fun K3 m3 => ?_)))))
 refine zr (zg [] 1 [2,3,5] (zd (m3 _ _ (zb 0 (XW.rounds' 5 (x := cd Tryz.f189 [1,0,1,0,0]) (by kernel_rfl) fun Q1 hQ1 => XR.one (zq fun K4 m4 => ?_))))))
 refine zq fun K5 m5 => zr (zv [] 2 [2,3,5,7] [] [(2, vR (al p1)), (3, vR (al p2)), (5, vi 3), (7, vb true)] [] (zd (m5 _ _ (zc true (fun _ => ?_) (fun hx => by cases hx)))))
 refine zs (m4 _ _ (zq fun K6 m6 => zb 1 (zb 2 (zq fun K7 m7 => ?_))))
 refine zw 8 [(18, vk .u64 p2.size.2.2.2), (17, .one (.pv (.rp [(al p2)] 0 4))), (16, .one (.pv (.rp [(al p2)] 0 1))), (15, vi 3), (14, vk .u64 p1.size.2.2.2), (13, .one (.pv (.rp [(al p1)] 0 4))), (12, .one (.pv (.rp [(al p1)] 0 1))), (11, vi 3), (2, vR (al p1)), (3, vR (al p2)), (5, vi 3), (7, vb true)] ?_ ?_
 ·refine sd 8 [(al p1), (al p2)] [0 ≤ (3 : Int) ∧ (3 : Int) < 4, ([(al p1)] : List (List PV))[0]? = some (al p1), 0 ≤ (3 : Int) ∧ (3 : Int) < 4, ([(al p2)] : List (List PV))[0]? = some (al p2)] (⟨by decide, rfl, by decide, rfl, trivial⟩) ?_
  exact lU
 refine zg [] 2 [2,3,5,10] (zd (m7 _ _ (zC h (fun b8 h => ?_) (fun b8 h => ?_))))
 ·refine zq fun K9 m9 => zr (zg [] 1 [4] (zd (m9 _ _ (ze (hQ1 _ _ _ ?_)))))
  obtain rfl := zj h
  exact zf [vi (-1)] (.one (.rfl _ rfl))
 ·refine zq fun K10 m10 => ?_
  refine zw 8 (Bt p1 p2) ?_ ?_
  ·refine vI 8 [(al p1), (al p2)] (Bt p1 p2) [0 ≤ (3 : Int) ∧ (3 : Int) < 4, ([(al p1)] : List (List PV))[0]? = some (al p1), 0 ≤ (3 : Int) ∧ (3 : Int) < 4, ([(al p2)] : List (List PV))[0]? = some (al p2)] (⟨by decide, rfl, by decide, rfl, trivial⟩) ?_
   exact lU
  refine zv [] 2 [2,3,5,20] [] [(2, vR (al p1)), (3, vR (al p2)), (5, vi 3), (20, vb (decide (p2.size.2.2.2 < p1.size.2.2.2)))] [] (zd (m10 _ _ (zC h (fun b11 h => ?_) (fun b11 h => ?_))))
  ·refine zq fun K12 m12 => zr (zg [] 1 [4] (zd (m12 _ _ (ze (hQ1 _ _ _ ?_)))))
   obtain rfl := zj h
   exact zf [vi 1] (.one (.rfl _ rfl))
  ·refine zs (m6 _ _ (zr (zv [] 3 [2,3,5] [] [(2, vR (al p1)), (3, vR (al p2)), (5, vi 2)] [] (zd (XR.one (zq fun K13 m13 => zq fun K14 m14 => ?_))))))
   refine zr (zg [] 2 [2,3,5,7] (zd (m14 _ _ (zc true (fun _ => ?_) (fun hx => by cases hx)))))
   refine zs (m13 _ _ (zq fun K15 m15 => zb 1 (zb 2 (zq fun K16 m16 => ?_))))
   refine zw 8 [(18, vk .u64 p2.size.2.2.1), (17, .one (.pv (.rp [(al p2)] 0 3))), (16, .one (.pv (.rp [(al p2)] 0 1))), (15, vi 2), (14, vk .u64 p1.size.2.2.1), (13, .one (.pv (.rp [(al p1)] 0 3))), (12, .one (.pv (.rp [(al p1)] 0 1))), (11, vi 2), (2, vR (al p1)), (3, vR (al p2)), (5, vi 2), (7, vb true)] ?_ ?_
   ·refine sd 8 [(al p1), (al p2)] [0 ≤ (2 : Int) ∧ (2 : Int) < 4, ([(al p1)] : List (List PV))[0]? = some (al p1), 0 ≤ (2 : Int) ∧ (2 : Int) < 4, ([(al p2)] : List (List PV))[0]? = some (al p2)] (⟨by decide, rfl, by decide, rfl, trivial⟩) ?_
    exact lU
   refine zg [] 2 [2,3,5,10] (zd (m16 _ _ (zC h (fun b17 h => ?_) (fun b17 h => ?_))))
   ·refine zq fun K18 m18 => zr (zv [] 1 [4] [] [(4, vi (-1))] [] (zd (m18 _ _ (ze (hQ1 _ _ _ ?_)))))
    obtain rfl := zj h
    exact zf [vi (-1)] (.one (.rfl _ rfl))
   ·refine zq fun K19 m19 => ?_
    refine zw 8 [(28, vk .u64 p2.size.2.2.1), (27, .one (.pv (.rp [(al p2)] 0 3))), (26, .one (.pv (.rp [(al p2)] 0 1))), (25, vi 2), (24, vk .u64 p1.size.2.2.1), (23, .one (.pv (.rp [(al p1)] 0 3))), (22, .one (.pv (.rp [(al p1)] 0 1))), (21, vi 2), (2, vR (al p1)), (3, vR (al p2)), (5, vi 2), (10, vb (decide (p1.size.2.2.1 < p2.size.2.2.1)))] ?_ ?_
    ·refine sd 8 [(al p1), (al p2)] [0 ≤ (2 : Int) ∧ (2 : Int) < 4, ([(al p1)] : List (List PV))[0]? = some (al p1), 0 ≤ (2 : Int) ∧ (2 : Int) < 4, ([(al p2)] : List (List PV))[0]? = some (al p2)] (⟨by decide, rfl, by decide, rfl, trivial⟩) ?_
     exact lU
    refine zg [] 2 [2,3,5,20] (zd (m19 _ _ (zC h (fun b20 h => ?_) (fun b20 h => ?_))))
    ·refine zq fun K21 m21 => zr (zg [] 1 [4] (zd (m21 _ _ (ze (hQ1 _ _ _ ?_)))))
     obtain rfl := zj h
     exact zf [vi 1] (.one (.rfl _ rfl))
    ·refine zs (m15 _ _ (zr (zv [] 3 [2,3,5] [] [(2, vR (al p1)), (3, vR (al p2)), (5, vi 1)] [] (zd (XR.one (zq fun K22 m22 => zq fun K23 m23 => ?_))))))
     refine zr (zg [] 2 [2,3,5,7] (zd (m23 _ _ (zc true (fun _ => ?_) (fun hx => by cases hx)))))
     refine zs (m22 _ _ (zq fun K24 m24 => zb 1 (zb 2 (zq fun K25 m25 => ?_))))
     refine zw 8 [(18, vk .u64 p2.size.2.1), (17, .one (.pv (.rp [(al p2)] 0 2))), (16, .one (.pv (.rp [(al p2)] 0 1))), (15, vi 1), (14, vk .u64 p1.size.2.1), (13, .one (.pv (.rp [(al p1)] 0 2))), (12, .one (.pv (.rp [(al p1)] 0 1))), (11, vi 1), (2, vR (al p1)), (3, vR (al p2)), (5, vi 1), (7, vb true)] ?_ ?_
     ·refine sd 8 [(al p1), (al p2)] [0 ≤ (1 : Int) ∧ (1 : Int) < 4, ([(al p1)] : List (List PV))[0]? = some (al p1), 0 ≤ (1 : Int) ∧ (1 : Int) < 4, ([(al p2)] : List (List PV))[0]? = some (al p2)] (⟨by decide, rfl, by decide, rfl, trivial⟩) ?_
      exact lU
     refine zg [] 2 [2,3,5,10] (zd (m25 _ _ (zC h (fun b26 h => ?_) (fun b26 h => ?_))))
     ·refine zq fun K27 m27 => zr (zv [] 1 [4] [] [(4, vi (-1))] [] (zd (m27 _ _ (ze (hQ1 _ _ _ ?_)))))
      obtain rfl := zj h
      exact zf [vi (-1)] (.one (.rfl _ rfl))
     ·refine zq fun K28 m28 => ?_
      refine zw 8 [(28, vk .u64 p2.size.2.1), (27, .one (.pv (.rp [(al p2)] 0 2))), (26, .one (.pv (.rp [(al p2)] 0 1))), (25, vi 1), (24, vk .u64 p1.size.2.1), (23, .one (.pv (.rp [(al p1)] 0 2))), (22, .one (.pv (.rp [(al p1)] 0 1))), (21, vi 1), (2, vR (al p1)), (3, vR (al p2)), (5, vi 1), (10, vb (decide (p1.size.2.1 < p2.size.2.1)))] ?_ ?_
      ·refine sd 8 [(al p1), (al p2)] [0 ≤ (1 : Int) ∧ (1 : Int) < 4, ([(al p1)] : List (List PV))[0]? = some (al p1), 0 ≤ (1 : Int) ∧ (1 : Int) < 4, ([(al p2)] : List (List PV))[0]? = some (al p2)] (⟨by decide, rfl, by decide, rfl, trivial⟩) ?_
       exact lU
      refine zg [] 2 [2,3,5,20] (zd (m28 _ _ (zC h (fun b29 h => ?_) (fun b29 h => ?_))))
      ·refine zq fun K30 m30 => zr (zg [] 1 [4] (zd (m30 _ _ (ze (hQ1 _ _ _ ?_)))))
       obtain rfl := zj h
       exact zf [vi 1] (.one (.rfl _ rfl))
      ·refine zs (m24 _ _ (zr (zv [] 3 [2,3,5] [] [(2, vR (al p1)), (3, vR (al p2)), (5, vi 0)] [] (zd (XR.one (zq fun K31 m31 => zq fun K32 m32 => ?_))))))
       refine zr (zg [] 2 [2,3,5,7] (zd (m32 _ _ (zc true (fun _ => ?_) (fun hx => by cases hx)))))
       refine zs (m31 _ _ (zq fun K33 m33 => zb 1 (zb 2 (zq fun K34 m34 => ?_))))
       refine zw 8 [(18, vk .u64 p2.size.1), (17, .one (.pv (.rp [(al p2)] 0 1))), (16, .one (.pv (.rp [(al p2)] 0 1))), (15, vi 0), (14, vk .u64 p1.size.1), (13, .one (.pv (.rp [(al p1)] 0 1))), (12, .one (.pv (.rp [(al p1)] 0 1))), (11, vi 0), (2, vR (al p1)), (3, vR (al p2)), (5, vi 0), (7, vb true)] ?_ ?_
       ·refine sd 8 [(al p1), (al p2)] [0 ≤ (0 : Int) ∧ (0 : Int) < 4, ([(al p1)] : List (List PV))[0]? = some (al p1), 0 ≤ (0 : Int) ∧ (0 : Int) < 4, ([(al p2)] : List (List PV))[0]? = some (al p2)] (⟨by decide, rfl, by decide, rfl, trivial⟩) ?_
        exact lU
       refine zg [] 2 [2,3,5,10] (zd (m34 _ _ (zC h (fun b35 h => ?_) (fun b35 h => ?_))))
       ·refine zq fun K36 m36 => zr (zv [] 1 [4] [] [(4, vi (-1))] [] (zd (m36 _ _ (ze (hQ1 _ _ _ ?_)))))
        obtain rfl := zj h
        exact zf [vi (-1)] (.one (.rfl _ rfl))
       ·refine zq fun K37 m37 => ?_
        refine zw 8 [(28, vk .u64 p2.size.1), (27, .one (.pv (.rp [(al p2)] 0 1))), (26, .one (.pv (.rp [(al p2)] 0 1))), (25, vi 0), (24, vk .u64 p1.size.1), (23, .one (.pv (.rp [(al p1)] 0 1))), (22, .one (.pv (.rp [(al p1)] 0 1))), (21, vi 0), (2, vR (al p1)), (3, vR (al p2)), (5, vi 0), (10, vb (decide (p1.size.1 < p2.size.1)))] ?_ ?_
        ·refine sd 8 [(al p1), (al p2)] [0 ≤ (0 : Int) ∧ (0 : Int) < 4, ([(al p1)] : List (List PV))[0]? = some (al p1), 0 ≤ (0 : Int) ∧ (0 : Int) < 4, ([(al p2)] : List (List PV))[0]? = some (al p2)] (⟨by decide, rfl, by decide, rfl, trivial⟩) ?_
         exact lU
        refine zg [] 2 [2,3,5,20] (zd (m37 _ _ (zC h (fun b38 h => ?_) (fun b38 h => ?_))))
        ·refine zq fun K39 m39 => zr (zg [] 1 [4] (zd (m39 _ _ (ze (hQ1 _ _ _ ?_)))))
         obtain rfl := zj h
         exact zf [vi 1] (.one (.rfl _ rfl))
        ·refine zs (m33 _ _ (zr (zv [] 3 [2,3,5] [] [(2, vR (al p1)), (3, vR (al p2)), (5, vi (-1))] [] (zd (XR.one (zq fun K40 m40 => zq fun K41 m41 => ?_))))))
         refine zr (zg [] 2 [2,3,5,7] (zd (m41 _ _ (zc false (fun hx => by cases hx) (fun _ => ?_)))))
         refine zx 0 (hQ1 _ _ _ (m2 _ _ (zq fun K42 m42 => zr (zg [] 1 [4] (zd (m42 _ _ ?_))))))
         refine ze ?_
         obtain rfl := zj h
         exact zf [vi 0] (.one (.rfl _ rfl))
def eS (z1 : Bool) (z2 z3 z4 z5 : Int) (z6 : Bool) (z7 z8 z9 z10 : Int) : Option ba := fL (0 ≤ z2 ∧ 0 ≤ z7 ∧ z7 < 18446744073709551616 ∧ 0 ≤ (0 : Int) ∧ (0 : Int) ≤ 1) <| fL (0 ≤ z3 ∧ 0 ≤ z8 ∧ z8 < 18446744073709551616 ∧ 0 ≤ (if z2 < z7 + 0 then (1 : Int) else 0) ∧ (if z2 < z7 + 0 then (1 : Int) else 0) ≤ 1) <| aT (some ((z3 - z8 - (if z2 < z7 + 0 then (1 : Int) else 0)) % 18446744073709551616)) fun y1 => aT (some (if z3 < z8 + (if z2 < z7 + 0 then (1 : Int) else 0) then (1 : Int) else 0)) fun y2 => fL (0 ≤ z4 ∧ 0 ≤ z9 ∧ z9 < 18446744073709551616 ∧ 0 ≤ y2 ∧ y2 ≤ 1) <| fL (0 ≤ z5 ∧ 0 ≤ z10 ∧ z10 < 18446744073709551616 ∧ 0 ≤ (if z4 < z9 + y2 then (1 : Int) else 0) ∧ (if z4 < z9 + y2 then (1 : Int) else 0) ≤ 1) <| aT (some ((z5 - z10 - (if z4 < z9 + y2 then (1 : Int) else 0)) % 18446744073709551616)) fun y3 => aT (some (if z5 < z10 + (if z4 < z9 + y2 then (1 : Int) else 0) then (1 : Int) else 0)) fun y4 => some (ba.mk z1 (((z2 - z7 - 0) % 18446744073709551616), y1, ((z4 - z9 - y2) % 18446744073709551616), y3))
mutual
def ff : Nat → ba → ba → Option ba
 | 0, _, _ => none
 | k0 + 1, p1, p2 => aI (!(p1.neg == p2.neg)) (aT (fg (ba.mk p2.neg (p2.size.1, p2.size.2.1, p2.size.2.2.1, p2.size.2.2.2))) fun r1 => aT ((jj k0) (ba.mk p1.neg (p1.size.1, p1.size.2.1, p1.size.2.2.1, p1.size.2.2.2)) (ba.mk r1.neg (r1.size.1, r1.size.2.1, r1.size.2.2.1, r1.size.2.2.2))) fun r2 => some (ba.mk r2.neg (r2.size.1, r2.size.2.1, r2.size.2.2.1, r2.size.2.2.2))) (aT (fN (ba.mk p1.neg (p1.size.1, p1.size.2.1, p1.size.2.2.1, p1.size.2.2.2)) (ba.mk p2.neg (p2.size.1, p2.size.2.1, p2.size.2.2.1, p2.size.2.2.2))) fun r3 => aI (decide (r3 < (0 : Int))) (aT (fg (ba.mk p2.neg (p2.size.1, p2.size.2.1, p2.size.2.2.1, p2.size.2.2.2))) fun r4 => eS r4.neg r4.size.1 r4.size.2.1 r4.size.2.2.1 r4.size.2.2.2 p1.neg p1.size.1 p1.size.2.1 p1.size.2.2.1 p1.size.2.2.2) (eS p1.neg p1.size.1 p1.size.2.1 p1.size.2.2.1 p1.size.2.2.2 p2.neg p2.size.1 p2.size.2.1 p2.size.2.2.1 p2.size.2.2.2))
def jj : Nat → ba → ba → Option ba
 | 0, _, _ => none
 | k0 + 1, p1, p2 => aI (!(p1.neg == p2.neg)) (aT (fg (ba.mk p2.neg (p2.size.1, p2.size.2.1, p2.size.2.2.1, p2.size.2.2.2))) fun r1 => aT ((ff k0) (ba.mk p1.neg (p1.size.1, p1.size.2.1, p1.size.2.2.1, p1.size.2.2.2)) (ba.mk r1.neg (r1.size.1, r1.size.2.1, r1.size.2.2.1, r1.size.2.2.2))) fun r2 => some (ba.mk r2.neg (r2.size.1, r2.size.2.1, r2.size.2.2.1, r2.size.2.2.2))) (fL (0 ≤ p1.size.1 ∧ 0 ≤ p2.size.1 ∧ 0 ≤ (0 : Int) ∧ (0 : Int) ≤ 1) <| fL (0 ≤ p1.size.2.1 ∧ 0 ≤ p2.size.2.1 ∧ 0 ≤ ((p1.size.1 + p2.size.1 + 0) / 18446744073709551616) ∧ ((p1.size.1 + p2.size.1 + 0) / 18446744073709551616) ≤ 1) <| aT (some ((p1.size.2.1 + p2.size.2.1 + ((p1.size.1 + p2.size.1 + 0) / 18446744073709551616)) % 18446744073709551616)) fun y1 => aT (some ((p1.size.2.1 + p2.size.2.1 + ((p1.size.1 + p2.size.1 + 0) / 18446744073709551616)) / 18446744073709551616)) fun y2 => fL (0 ≤ p1.size.2.2.1 ∧ 0 ≤ p2.size.2.2.1 ∧ 0 ≤ y2 ∧ y2 ≤ 1) <| fL (0 ≤ p1.size.2.2.2 ∧ 0 ≤ p2.size.2.2.2 ∧ 0 ≤ ((p1.size.2.2.1 + p2.size.2.2.1 + y2) / 18446744073709551616) ∧ ((p1.size.2.2.1 + p2.size.2.2.1 + y2) / 18446744073709551616) ≤ 1) <| aT (some ((p1.size.2.2.2 + p2.size.2.2.2 + ((p1.size.2.2.1 + p2.size.2.2.1 + y2) / 18446744073709551616)) % 18446744073709551616)) fun y3 => aT (some ((p1.size.2.2.2 + p2.size.2.2.2 + ((p1.size.2.2.1 + p2.size.2.2.1 + y2) / 18446744073709551616)) / 18446744073709551616)) fun y4 => some (ba.mk p1.neg (((p1.size.1 + p2.size.1 + 0) % 18446744073709551616), y1, ((p1.size.2.2.1 + p2.size.2.2.1 + y2) % 18446744073709551616), y3)))
end
abbrev ij (z6 : Bool) (z7 z8 z9 z10 : Int) : List CV := [cb z6, ck .u64 z7, ck .u64 z8, ck .u64 z9, ck .u64 z10]
abbrev xp (z2 z7 : Int) : Fr := [(41, .one (.pt 0 0 0 1)), (40, .one (.pt 0 0 0 1)), (39, vk .u64 (if z2 < z7 + 0 then (1 : Int) else 0)), (38, vk .u64 ((z2 - z7 - 0) % 18446744073709551616)), (26, .tp [vk .u64 ((z2 - z7 - 0) % 18446744073709551616), vk .u64 (if z2 < z7 + 0 then (1 : Int) else 0)]), (37, .tp [vk .u64 ((z2 - z7 - 0) % 18446744073709551616), vk .u64 (if z2 < z7 + 0 then (1 : Int) else 0)]), (36, vk .u64 0), (35, vk .u64 z7), (34, .one (.pt 1 0 0 1)), (33, .one (.pt 1 0 0 1)), (32, vi 0), (31, vk .u64 z2), (30, .one (.pt 0 0 0 1)), (29, .one (.pt 0 0 0 1)), (28, vi 0), (27, vi 0), (2, vq 0), (3, vq 1), (4, vq 2), (5, vk .u64 0), (6, vi 0), (23, vi 0)]
abbrev uc (z1 : Bool) (z2 z3 z4 z5 z7 : Int) : List CV := [cb z1, ck .u64 ((z2 - z7 - 0) % 18446744073709551616), ck .u64 z3, ck .u64 z4, ck .u64 z5]
abbrev wC (z2 z3 z7 z8 y1 y2 : Int) : Fr := [(41, .one (.pt 0 0 0 2)), (40, .one (.pt 0 0 0 1)), (39, vk .u64 y2), (38, vk .u64 y1), (26, .tp [vk .u64 y1, vk .u64 y2]), (37, .tp [vk .u64 y1, vk .u64 y2]), (36, vk .u64 (if z2 < z7 + 0 then (1 : Int) else 0)), (35, vk .u64 z8), (34, .one (.pt 1 0 0 2)), (33, .one (.pt 1 0 0 1)), (32, vi 1), (31, vk .u64 z3), (30, .one (.pt 0 0 0 2)), (29, .one (.pt 0 0 0 1)), (28, vi 1), (27, vi 1), (2, vq 0), (3, vq 1), (4, vq 2), (5, vk .u64 (if z2 < z7 + 0 then (1 : Int) else 0)), (6, vi 1), (23, vi 1)]
abbrev th (z1 : Bool) (z2 z4 z5 z7 y1 : Int) : List CV := [cb z1, ck .u64 ((z2 - z7 - 0) % 18446744073709551616), ck .u64 y1, ck .u64 z4, ck .u64 z5]
abbrev xk (z4 z9 y2 : Int) : Fr := [(41, .one (.pt 0 0 0 3)), (40, .one (.pt 0 0 0 1)), (39, vk .u64 (if z4 < z9 + y2 then (1 : Int) else 0)), (38, vk .u64 ((z4 - z9 - y2) % 18446744073709551616)), (26, .tp [vk .u64 ((z4 - z9 - y2) % 18446744073709551616), vk .u64 (if z4 < z9 + y2 then (1 : Int) else 0)]), (37, .tp [vk .u64 ((z4 - z9 - y2) % 18446744073709551616), vk .u64 (if z4 < z9 + y2 then (1 : Int) else 0)]), (36, vk .u64 y2), (35, vk .u64 z9), (34, .one (.pt 1 0 0 3)), (33, .one (.pt 1 0 0 1)), (32, vi 2), (31, vk .u64 z4), (30, .one (.pt 0 0 0 3)), (29, .one (.pt 0 0 0 1)), (28, vi 2), (27, vi 2), (2, vq 0), (3, vq 1), (4, vq 2), (5, vk .u64 y2), (6, vi 2), (23, vi 2)]
abbrev tM (z1 : Bool) (z2 z4 z5 z7 z9 y1 y2 : Int) : List CV := [cb z1, ck .u64 ((z2 - z7 - 0) % 18446744073709551616), ck .u64 y1, ck .u64 ((z4 - z9 - y2) % 18446744073709551616), ck .u64 z5]
abbrev wm (z4 z5 z9 z10 y2 y3 y4 : Int) : Fr := [(41, .one (.pt 0 0 0 4)), (40, .one (.pt 0 0 0 1)), (39, vk .u64 y4), (38, vk .u64 y3), (26, .tp [vk .u64 y3, vk .u64 y4]), (37, .tp [vk .u64 y3, vk .u64 y4]), (36, vk .u64 (if z4 < z9 + y2 then (1 : Int) else 0)), (35, vk .u64 z10), (34, .one (.pt 1 0 0 4)), (33, .one (.pt 1 0 0 1)), (32, vi 3), (31, vk .u64 z5), (30, .one (.pt 0 0 0 4)), (29, .one (.pt 0 0 0 1)), (28, vi 3), (27, vi 3), (2, vq 0), (3, vq 1), (4, vq 2), (5, vk .u64 (if z4 < z9 + y2 then (1 : Int) else 0)), (6, vi 3), (23, vi 3)]
abbrev tE (z1 : Bool) (z2 z4 z7 z9 y1 y2 y3 : Int) : List CV := [cb z1, ck .u64 ((z2 - z7 - 0) % 18446744073709551616), ck .u64 y1, ck .u64 ((z4 - z9 - y2) % 18446744073709551616), ck .u64 y3]
abbrev un (p1 p2 : ba) : List CV := [cb p1.neg, ck .u64 ((p1.size.1 + p2.size.1 + 0) % 18446744073709551616), ck .u64 p1.size.2.1, ck .u64 p1.size.2.2.1, ck .u64 p1.size.2.2.2]
abbrev tZ (p1 p2 : ba) (y1 : Int) : List CV := [cb p1.neg, ck .u64 ((p1.size.1 + p2.size.1 + 0) % 18446744073709551616), ck .u64 y1, ck .u64 p1.size.2.2.1, ck .u64 p1.size.2.2.2]
abbrev uq (p1 p2 : ba) (y1 y2 : Int) : List CV := [cb p1.neg, ck .u64 ((p1.size.1 + p2.size.1 + 0) % 18446744073709551616), ck .u64 y1, ck .u64 ((p1.size.2.2.1 + p2.size.2.2.1 + y2) % 18446744073709551616), ck .u64 p1.size.2.2.2]
abbrev um (p1 p2 : ba) (y1 y2 y3 : Int) : List CV := [cb p1.neg, ck .u64 ((p1.size.1 + p2.size.1 + 0) % 18446744073709551616), ck .u64 y1, ck .u64 ((p1.size.2.2.1 + p2.size.2.2.1 + y2) % 18446744073709551616), ck .u64 y3]
abbrev wq (p1 p2 : ba) : Fr := [(34, .one (.pt 0 0 0 1)), (33, .one (.pt 0 0 0 1)), (32, vk .u64 ((p1.size.1 + p2.size.1 + 0) / 18446744073709551616)), (31, vk .u64 ((p1.size.1 + p2.size.1 + 0) % 18446744073709551616)), (19, .tp [vk .u64 ((p1.size.1 + p2.size.1 + 0) % 18446744073709551616), vk .u64 ((p1.size.1 + p2.size.1 + 0) / 18446744073709551616)]), (30, .tp [vk .u64 ((p1.size.1 + p2.size.1 + 0) % 18446744073709551616), vk .u64 ((p1.size.1 + p2.size.1 + 0) / 18446744073709551616)]), (29, vk .u64 0), (28, vk .u64 p2.size.1), (27, .one (.pv (.rp [(al p2)] 0 1))), (26, .one (.pv (.rp [(al p2)] 0 1))), (25, vi 0), (24, vk .u64 p1.size.1), (23, .one (.pt 0 0 0 1)), (22, .one (.pt 0 0 0 1)), (21, vi 0), (20, vi 0), (2, vq 0), (3, vR (al p2)), (4, vq 1), (5, vk .u64 0), (6, vi 0), (16, vi 0)]
abbrev xf (p1 p2 : ba) (y1 y2 : Int) : Fr := [(34, .one (.pt 0 0 0 2)), (33, .one (.pt 0 0 0 1)), (32, vk .u64 y2), (31, vk .u64 y1), (19, .tp [vk .u64 y1, vk .u64 y2]), (30, .tp [vk .u64 y1, vk .u64 y2]), (29, vk .u64 ((p1.size.1 + p2.size.1 + 0) / 18446744073709551616)), (28, vk .u64 p2.size.2.1), (27, .one (.pv (.rp [(al p2)] 0 2))), (26, .one (.pv (.rp [(al p2)] 0 1))), (25, vi 1), (24, vk .u64 p1.size.2.1), (23, .one (.pt 0 0 0 2)), (22, .one (.pt 0 0 0 1)), (21, vi 1), (20, vi 1), (2, vq 0), (3, vR (al p2)), (4, vq 1), (5, vk .u64 ((p1.size.1 + p2.size.1 + 0) / 18446744073709551616)), (6, vi 1), (16, vi 1)]
abbrev xi (p1 p2 : ba) (y2 : Int) : Fr := [(34, .one (.pt 0 0 0 3)), (33, .one (.pt 0 0 0 1)), (32, vk .u64 ((p1.size.2.2.1 + p2.size.2.2.1 + y2) / 18446744073709551616)), (31, vk .u64 ((p1.size.2.2.1 + p2.size.2.2.1 + y2) % 18446744073709551616)), (19, .tp [vk .u64 ((p1.size.2.2.1 + p2.size.2.2.1 + y2) % 18446744073709551616), vk .u64 ((p1.size.2.2.1 + p2.size.2.2.1 + y2) / 18446744073709551616)]), (30, .tp [vk .u64 ((p1.size.2.2.1 + p2.size.2.2.1 + y2) % 18446744073709551616), vk .u64 ((p1.size.2.2.1 + p2.size.2.2.1 + y2) / 18446744073709551616)]), (29, vk .u64 y2), (28, vk .u64 p2.size.2.2.1), (27, .one (.pv (.rp [(al p2)] 0 3))), (26, .one (.pv (.rp [(al p2)] 0 1))), (25, vi 2), (24, vk .u64 p1.size.2.2.1), (23, .one (.pt 0 0 0 3)), (22, .one (.pt 0 0 0 1)), (21, vi 2), (20, vi 2), (2, vq 0), (3, vR (al p2)), (4, vq 1), (5, vk .u64 y2), (6, vi 2), (16, vi 2)]
abbrev ww (p1 p2 : ba) (y2 y3 y4 : Int) : Fr := [(34, .one (.pt 0 0 0 4)), (33, .one (.pt 0 0 0 1)), (32, vk .u64 y4), (31, vk .u64 y3), (19, .tp [vk .u64 y3, vk .u64 y4]), (30, .tp [vk .u64 y3, vk .u64 y4]), (29, vk .u64 ((p1.size.2.2.1 + p2.size.2.2.1 + y2) / 18446744073709551616)), (28, vk .u64 p2.size.2.2.2), (27, .one (.pv (.rp [(al p2)] 0 4))), (26, .one (.pv (.rp [(al p2)] 0 1))), (25, vi 3), (24, vk .u64 p1.size.2.2.2), (23, .one (.pt 0 0 0 4)), (22, .one (.pt 0 0 0 1)), (21, vi 3), (20, vi 3), (2, vq 0), (3, vR (al p2)), (4, vq 1), (5, vk .u64 ((p1.size.2.2.1 + p2.size.2.2.1 + y2) / 18446744073709551616)), (6, vi 3), (16, vi 3)]
mutual
theorem lH : ∀ (k0 : Nat) (p1 p2 r : ba), ff k0 p1 p2 = some r → PC Tryz.prog 173 [.ag (bg p1), .ag (bg p2)] (.ag [cb r.neg, ck .u64 r.size.1, ck .u64 r.size.2.1, ck .u64 r.size.2.2.1, ck .u64 r.size.2.2.2])
 | 0, _, _, r, h => by rw [ff.eq_1] at h; cases h
 | k0 + 1, p1, p2, r, h => by
  rw [ff.eq_2] at h
  refine zF 44 Tryz.f173 (zq fun K1 m1 => zr (zg [2, 3, 4] 3 [2,3,4] (zd (m1 _ _ (zq fun K2 m2 => zq fun K3 m3 => ?_)))))
  refine zr (zg [2, 3, 4] 5 [2,3,4,11] (zd (m3 _ _ (zC h (fun b4 h => ?_) (fun b4 h => ?_)))))
  ·refine zq fun K5 m5 => ?_
   obtain ⟨r1, c6, h⟩ := zB h
   obtain ⟨r2, c7, h⟩ := zB h
   refine zw 3 [(14, .ag (bg r1)), (13, .ag (bg p2)), (12, .ag (bg p1)), (2, vq 0), (3, vq 1), (4, vq 2), (11, vb (!(p1.neg == p2.neg)))] ?_ ?_
   ·exact ut 2 [] [(13, .ag (bg p2)), (12, .ag (bg p1)), (2, vq 0), (3, vq 1), (4, vq 2), (11, vb (!(p1.neg == p2.neg)))] (zT (iw _ _ c6) lU)
   refine zl 183 [.ag (bg p1), .ag (bg r1)] (.ag (bg r2)) [(15, .ag (bg r2)), (14, .ag (bg r1)), (13, .ag (bg p2)), (12, .ag (bg p1)), (2, vq 0), (3, vq 1), (4, vq 2), (11, vb (!(p1.neg == p2.neg)))] (pC k0 _ _ _ c7) ?_
   refine zg [2, 3, 4] 1 [4] (zd (m5 _ _ (ze ?_)))
   obtain rfl := zj h
   exact zf [.ag (bg r2)] (.ag (.cons (.rfl _ rfl) (.cons (.rfl _ rfl) (.cons (.rfl _ rfl) (.cons (.rfl _ rfl) (.cons (.rfl _ rfl) .nil))))))
  ·refine zs (m2 _ _ (zq fun K8 m8 => ?_))
   have j1 : ∀ (z1 : Bool) (z2 z3 z4 z5 : Int) (z6 : Bool) (z7 z8 z9 z10 : Int), eS z1 z2 z3 z4 z5 z6 z7 z8 z9 z10 = some r → ∀ w0 w1, aL 44 0 [] w0 w1 [(2, vq 0), (3, vq 1), (4, vq 2)] [.box [cb z1, ck .u64 z2, ck .u64 z3, ck .u64 z4, ck .u64 z5], .box (ij z6 z7 z8 z9 z10), .box bH] → K8 w0 w1 := by
    intro z1 z2 z3 z4 z5 z6 z7 z8 z9 z10 h w0 w1 hS
    unfold eS at h
    refine m8 _ _ (XW.sub hS ?_)
    refine zq fun K13 m13 => zr (zg [2, 3, 4] 1 [2,3,4,5] (zd (m13 _ _ (zq fun K14 m14 => zq fun K15 m15 => zr ?_))))
    refine zg [2, 3, 4] 1 [2,3,4,5,23] (zd (m15 _ _ (zb 0 (XW.rounds' 5 (x := cd Tryz.f173 [1,1,1,1,0,1,0,0]) (by kernel_rfl) fun Q1 hQ1 => XR.one (zq fun K16 m16 => zr ?_)))))
    refine zv [2, 3, 4] 1 [2,3,4,5,23,24] [] [(2, vq 0), (3, vq 1), (4, vq 2), (5, vk .u64 0), (23, vi 0), (24, vb true)] [.box [cb z1, ck .u64 z2, ck .u64 z3, ck .u64 z4, ck .u64 z5], .box (ij z6 z7 z8 z9 z10), .box bH] (zd (m16 _ _ (zq fun K17 m17 => zc true (fun _ => ?_) (fun hx => by cases hx))))
    refine zs (m17 _ _ (zq fun K18 m18 => zb 1 (zq fun K19 m19 => zr (zv [2, 3, 4] 2 [2,3,4,5,6,23] [] [(2, vq 0), (3, vq 1), (4, vq 2), (5, vk .u64 0), (6, vi 0), (23, vi 0)] [.box [cb z1, ck .u64 z2, ck .u64 z3, ck .u64 z4, ck .u64 z5], .box (ij z6 z7 z8 z9 z10), .box bH] (zd ?_)))))
    refine m19 _ _ ?_
    obtain ⟨g20, h⟩ := zG h
    refine XW.drwG 17 [3] [([], []), ([], []), ([], []), ([], []), ([0], []), ([], []), ([], []), ([], []), ([1], []), ([], []), ([], []), ([], []), ([], []), ([], []), ([], []), ([], []), ([0], [0])] (xp z2 z7) [.box (uc z1 z2 z3 z4 z5 z7), .box (ij z6 z7 z8 z9 z10), .box bH] (by kernel_rfl) (by kernel_rfl) ?_ ?_
    ·refine GY.go 10 [] [(36, vk .u64 0), (35, vk .u64 z7), (34, .one (.pt 1 0 0 1)), (33, .one (.pt 1 0 0 1)), (32, vi 0), (31, vk .u64 z2), (30, .one (.pt 0 0 0 1)), (29, .one (.pt 0 0 0 1)), (28, vi 0), (27, vi 0), (2, vq 0), (3, vq 1), (4, vq 2), (5, vk .u64 0), (6, vi 0), (23, vi 0)] [0 ≤ (0 : Int) ∧ (0 : Int) < 4, 0 ≤ (0 : Int) ∧ (0 : Int) < 4] (by kernel_rfl) (⟨by decide, by decide, trivial⟩) ?_
     refine GY.ext 190 [.int .u64 z2, .int .u64 z7, .int .u64 (0 : Int)] [.int .u64 ((z2 - z7 - 0) % 18446744073709551616), .int .u64 (if z2 < z7 + 0 then (1 : Int) else 0)] [(37, .tp [vk .u64 ((z2 - z7 - 0) % 18446744073709551616), vk .u64 (if z2 < z7 + 0 then (1 : Int) else 0)]), (36, vk .u64 0), (35, vk .u64 z7), (34, .one (.pt 1 0 0 1)), (33, .one (.pt 1 0 0 1)), (32, vi 0), (31, vk .u64 z2), (30, .one (.pt 0 0 0 1)), (29, .one (.pt 0 0 0 1)), (28, vi 0), (27, vi 0), (2, vq 0), (3, vq 1), (4, vq 2), (5, vk .u64 0), (6, vi 0), (23, vi 0)] [] (by kernel_rfl) (by kernel_rfl) (nY (fn := Tryz.f190) (by kernel_rfl) (by kernel_rfl) (by kernel_rfl) (by kernel_rfl) (by kernel_rfl) g20.1 g20.2.1 g20.2.2.1 g20.2.2.2.1 g20.2.2.2.2) rfl (by kernel_rfl) (by kernel_rfl) ?_
     refine GY.go 5 [] (xp z2 z7) [0 ≤ (0 : Int) ∧ (0 : Int) < 4] (by kernel_rfl) (⟨by decide, trivial⟩) ?_
     refine GY.wr [] (xp z2 z7) [0] [] [.box (uc z1 z2 z3 z4 z5 z7), .box (ij z6 z7 z8 z9 z10), .box bH] [] (by kernel_rfl) (by kernel_rfl) trivial (by kernel_rfl) ?_
     exact GY.done (by kernel_rfl) (by kernel_rfl)
    refine zg [2, 3, 4] 1 [2,3,4,5,23] (zd (m18 _ _ (zr (zv [2, 3, 4] 2 [2,3,4,5,23] [] [(2, vq 0), (3, vq 1), (4, vq 2), (5, vk .u64 (if z2 < z7 + 0 then (1 : Int) else 0)), (23, vi 1)] [.box (uc z1 z2 z3 z4 z5 z7), .box (ij z6 z7 z8 z9 z10), .box bH] (zd (XR.one (zq fun K21 m21 => ?_)))))))
    refine zr (zg [2, 3, 4] 1 [2,3,4,5,23,24] (zd (m21 _ _ (zq fun K22 m22 => zc true (fun _ => ?_) (fun hx => by cases hx)))))
    refine zs (m22 _ _ (zq fun K23 m23 => zb 1 (zq fun K24 m24 => zr (zv [2, 3, 4] 2 [2,3,4,5,6,23] [] [(2, vq 0), (3, vq 1), (4, vq 2), (5, vk .u64 (if z2 < z7 + 0 then (1 : Int) else 0)), (6, vi 1), (23, vi 1)] [.box (uc z1 z2 z3 z4 z5 z7), .box (ij z6 z7 z8 z9 z10), .box bH] (zd ?_)))))
    refine m24 _ _ ?_
    obtain ⟨g25, h⟩ := zG h
    obtain ⟨y1, hy26, h⟩ := zB h
    obtain ⟨y2, hy27, h⟩ := zB h
    refine XW.drwG 17 [3] [([], []), ([], []), ([], []), ([], []), ([0], []), ([], []), ([], []), ([], []), ([1], []), ([], []), ([], []), ([], []), ([], []), ([], []), ([], []), ([], []), ([0], [0])] (wC z2 z3 z7 z8 y1 y2) [.box (th z1 z2 z4 z5 z7 y1), .box (ij z6 z7 z8 z9 z10), .box bH] (by kernel_rfl) (by kernel_rfl) ?_ ?_
    ·refine GY.go 10 [] [(36, vk .u64 (if z2 < z7 + 0 then (1 : Int) else 0)), (35, vk .u64 z8), (34, .one (.pt 1 0 0 2)), (33, .one (.pt 1 0 0 1)), (32, vi 1), (31, vk .u64 z3), (30, .one (.pt 0 0 0 2)), (29, .one (.pt 0 0 0 1)), (28, vi 1), (27, vi 1), (2, vq 0), (3, vq 1), (4, vq 2), (5, vk .u64 (if z2 < z7 + 0 then (1 : Int) else 0)), (6, vi 1), (23, vi 1)] [0 ≤ (1 : Int) ∧ (1 : Int) < 4, 0 ≤ (1 : Int) ∧ (1 : Int) < 4] (by kernel_rfl) (⟨by decide, by decide, trivial⟩) ?_
     refine GY.ext 190 [.int .u64 z3, .int .u64 z8, .int .u64 (if z2 < z7 + 0 then (1 : Int) else 0)] [.int .u64 ((z3 - z8 - (if z2 < z7 + 0 then (1 : Int) else 0)) % 18446744073709551616), .int .u64 (if z3 < z8 + (if z2 < z7 + 0 then (1 : Int) else 0) then (1 : Int) else 0)] [(37, .tp [vk .u64 ((z3 - z8 - (if z2 < z7 + 0 then (1 : Int) else 0)) % 18446744073709551616), vk .u64 (if z3 < z8 + (if z2 < z7 + 0 then (1 : Int) else 0) then (1 : Int) else 0)]), (36, vk .u64 (if z2 < z7 + 0 then (1 : Int) else 0)), (35, vk .u64 z8), (34, .one (.pt 1 0 0 2)), (33, .one (.pt 1 0 0 1)), (32, vi 1), (31, vk .u64 z3), (30, .one (.pt 0 0 0 2)), (29, .one (.pt 0 0 0 1)), (28, vi 1), (27, vi 1), (2, vq 0), (3, vq 1), (4, vq 2), (5, vk .u64 (if z2 < z7 + 0 then (1 : Int) else 0)), (6, vi 1), (23, vi 1)] [] (by kernel_rfl) (by kernel_rfl) (nY (fn := Tryz.f190) (by kernel_rfl) (by kernel_rfl) (by kernel_rfl) (by kernel_rfl) (by kernel_rfl) g25.1 g25.2.1 g25.2.2.1 g25.2.2.2.1 g25.2.2.2.2) rfl (by kernel_rfl) (by kernel_rfl) ?_
     refine qE 2 [] [(38, vk .u64 ((z3 - z8 - (if z2 < z7 + 0 then (1 : Int) else 0)) % 18446744073709551616)), (26, .tp [vk .u64 ((z3 - z8 - (if z2 < z7 + 0 then (1 : Int) else 0)) % 18446744073709551616), vk .u64 (if z3 < z8 + (if z2 < z7 + 0 then (1 : Int) else 0) then (1 : Int) else 0)]), (37, .tp [vk .u64 ((z3 - z8 - (if z2 < z7 + 0 then (1 : Int) else 0)) % 18446744073709551616), vk .u64 (if z3 < z8 + (if z2 < z7 + 0 then (1 : Int) else 0) then (1 : Int) else 0)]), (36, vk .u64 (if z2 < z7 + 0 then (1 : Int) else 0)), (35, vk .u64 z8), (34, .one (.pt 1 0 0 2)), (33, .one (.pt 1 0 0 1)), (32, vi 1), (31, vk .u64 z3), (30, .one (.pt 0 0 0 2)), (29, .one (.pt 0 0 0 1)), (28, vi 1), (27, vi 1), (2, vq 0), (3, vq 1), (4, vq 2), (5, vk .u64 (if z2 < z7 + 0 then (1 : Int) else 0)), (6, vi 1), (23, vi 1)] ?_
     rw [show ((z3 - z8 - (if z2 < z7 + 0 then (1 : Int) else 0)) % 18446744073709551616) = y1 from zj hy26]
     refine qE 1 [] [(39, vk .u64 (if z3 < z8 + (if z2 < z7 + 0 then (1 : Int) else 0) then (1 : Int) else 0)), (38, vk .u64 y1), (26, .tp [vk .u64 y1, vk .u64 (if z3 < z8 + (if z2 < z7 + 0 then (1 : Int) else 0) then (1 : Int) else 0)]), (37, .tp [vk .u64 y1, vk .u64 (if z3 < z8 + (if z2 < z7 + 0 then (1 : Int) else 0) then (1 : Int) else 0)]), (36, vk .u64 (if z2 < z7 + 0 then (1 : Int) else 0)), (35, vk .u64 z8), (34, .one (.pt 1 0 0 2)), (33, .one (.pt 1 0 0 1)), (32, vi 1), (31, vk .u64 z3), (30, .one (.pt 0 0 0 2)), (29, .one (.pt 0 0 0 1)), (28, vi 1), (27, vi 1), (2, vq 0), (3, vq 1), (4, vq 2), (5, vk .u64 (if z2 < z7 + 0 then (1 : Int) else 0)), (6, vi 1), (23, vi 1)] ?_
     rw [show (if z3 < z8 + (if z2 < z7 + 0 then (1 : Int) else 0) then (1 : Int) else 0) = y2 from zj hy27]
     refine GY.go 2 [] (wC z2 z3 z7 z8 y1 y2) [0 ≤ (1 : Int) ∧ (1 : Int) < 4] (by kernel_rfl) (⟨by decide, trivial⟩) ?_
     refine GY.wr [] (wC z2 z3 z7 z8 y1 y2) [0] [] [.box (th z1 z2 z4 z5 z7 y1), .box (ij z6 z7 z8 z9 z10), .box bH] [] (by kernel_rfl) (by kernel_rfl) trivial (by kernel_rfl) ?_
     exact GY.done (by kernel_rfl) (by kernel_rfl)
    refine zg [2, 3, 4] 1 [2,3,4,5,23] (zd (m23 _ _ (zr (zv [2, 3, 4] 2 [2,3,4,5,23] [] [(2, vq 0), (3, vq 1), (4, vq 2), (5, vk .u64 y2), (23, vi 2)] [.box (th z1 z2 z4 z5 z7 y1), .box (ij z6 z7 z8 z9 z10), .box bH] (zd (XR.one (zq fun K28 m28 => ?_)))))))
    refine zr (zg [2, 3, 4] 1 [2,3,4,5,23,24] (zd (m28 _ _ (zq fun K29 m29 => zc true (fun _ => ?_) (fun hx => by cases hx)))))
    refine zs (m29 _ _ (zq fun K30 m30 => zb 1 (zq fun K31 m31 => zr (zv [2, 3, 4] 2 [2,3,4,5,6,23] [] [(2, vq 0), (3, vq 1), (4, vq 2), (5, vk .u64 y2), (6, vi 2), (23, vi 2)] [.box (th z1 z2 z4 z5 z7 y1), .box (ij z6 z7 z8 z9 z10), .box bH] (zd ?_)))))
    refine m31 _ _ ?_
    obtain ⟨g32, h⟩ := zG h
    refine XW.drwG 17 [3] [([], []), ([], []), ([], []), ([], []), ([0], []), ([], []), ([], []), ([], []), ([1], []), ([], []), ([], []), ([], []), ([], []), ([], []), ([], []), ([], []), ([0], [0])] (xk z4 z9 y2) [.box (tM z1 z2 z4 z5 z7 z9 y1 y2), .box (ij z6 z7 z8 z9 z10), .box bH] (by kernel_rfl) (by kernel_rfl) ?_ ?_
    ·refine GY.go 10 [] [(36, vk .u64 y2), (35, vk .u64 z9), (34, .one (.pt 1 0 0 3)), (33, .one (.pt 1 0 0 1)), (32, vi 2), (31, vk .u64 z4), (30, .one (.pt 0 0 0 3)), (29, .one (.pt 0 0 0 1)), (28, vi 2), (27, vi 2), (2, vq 0), (3, vq 1), (4, vq 2), (5, vk .u64 y2), (6, vi 2), (23, vi 2)] [0 ≤ (2 : Int) ∧ (2 : Int) < 4, 0 ≤ (2 : Int) ∧ (2 : Int) < 4] (by kernel_rfl) (⟨by decide, by decide, trivial⟩) ?_
     refine GY.ext 190 [.int .u64 z4, .int .u64 z9, .int .u64 y2] [.int .u64 ((z4 - z9 - y2) % 18446744073709551616), .int .u64 (if z4 < z9 + y2 then (1 : Int) else 0)] [(37, .tp [vk .u64 ((z4 - z9 - y2) % 18446744073709551616), vk .u64 (if z4 < z9 + y2 then (1 : Int) else 0)]), (36, vk .u64 y2), (35, vk .u64 z9), (34, .one (.pt 1 0 0 3)), (33, .one (.pt 1 0 0 1)), (32, vi 2), (31, vk .u64 z4), (30, .one (.pt 0 0 0 3)), (29, .one (.pt 0 0 0 1)), (28, vi 2), (27, vi 2), (2, vq 0), (3, vq 1), (4, vq 2), (5, vk .u64 y2), (6, vi 2), (23, vi 2)] [] (by kernel_rfl) (by kernel_rfl) (nY (fn := Tryz.f190) (by kernel_rfl) (by kernel_rfl) (by kernel_rfl) (by kernel_rfl) (by kernel_rfl) g32.1 g32.2.1 g32.2.2.1 g32.2.2.2.1 g32.2.2.2.2) rfl (by kernel_rfl) (by kernel_rfl) ?_
     refine GY.go 5 [] (xk z4 z9 y2) [0 ≤ (2 : Int) ∧ (2 : Int) < 4] (by kernel_rfl) (⟨by decide, trivial⟩) ?_
     refine GY.wr [] (xk z4 z9 y2) [0] [] [.box (tM z1 z2 z4 z5 z7 z9 y1 y2), .box (ij z6 z7 z8 z9 z10), .box bH] [] (by kernel_rfl) (by kernel_rfl) trivial (by kernel_rfl) ?_
     exact GY.done (by kernel_rfl) (by kernel_rfl)
    refine zg [2, 3, 4] 1 [2,3,4,5,23] (zd (m30 _ _ (zr (zv [2, 3, 4] 2 [2,3,4,5,23] [] [(2, vq 0), (3, vq 1), (4, vq 2), (5, vk .u64 (if z4 < z9 + y2 then (1 : Int) else 0)), (23, vi 3)] [.box (tM z1 z2 z4 z5 z7 z9 y1 y2), .box (ij z6 z7 z8 z9 z10), .box bH] (zd (XR.one (zq fun K33 m33 => ?_)))))))
    refine zr (zg [2, 3, 4] 1 [2,3,4,5,23,24] (zd (m33 _ _ (zq fun K34 m34 => zc true (fun _ => ?_) (fun hx => by cases hx)))))
    refine zs (m34 _ _ (zq fun K35 m35 => zb 1 (zq fun K36 m36 => zr (zv [2, 3, 4] 2 [2,3,4,5,6,23] [] [(2, vq 0), (3, vq 1), (4, vq 2), (5, vk .u64 (if z4 < z9 + y2 then (1 : Int) else 0)), (6, vi 3), (23, vi 3)] [.box (tM z1 z2 z4 z5 z7 z9 y1 y2), .box (ij z6 z7 z8 z9 z10), .box bH] (zd ?_)))))
    refine m36 _ _ ?_
    obtain ⟨g37, h⟩ := zG h
    obtain ⟨y3, hy38, h⟩ := zB h
    obtain ⟨y4, hy39, h⟩ := zB h
    refine XW.drwG 17 [3] [([], []), ([], []), ([], []), ([], []), ([0], []), ([], []), ([], []), ([], []), ([1], []), ([], []), ([], []), ([], []), ([], []), ([], []), ([], []), ([], []), ([0], [0])] (wm z4 z5 z9 z10 y2 y3 y4) [.box (tE z1 z2 z4 z7 z9 y1 y2 y3), .box (ij z6 z7 z8 z9 z10), .box bH] (by kernel_rfl) (by kernel_rfl) ?_ ?_
    ·refine GY.go 10 [] [(36, vk .u64 (if z4 < z9 + y2 then (1 : Int) else 0)), (35, vk .u64 z10), (34, .one (.pt 1 0 0 4)), (33, .one (.pt 1 0 0 1)), (32, vi 3), (31, vk .u64 z5), (30, .one (.pt 0 0 0 4)), (29, .one (.pt 0 0 0 1)), (28, vi 3), (27, vi 3), (2, vq 0), (3, vq 1), (4, vq 2), (5, vk .u64 (if z4 < z9 + y2 then (1 : Int) else 0)), (6, vi 3), (23, vi 3)] [0 ≤ (3 : Int) ∧ (3 : Int) < 4, 0 ≤ (3 : Int) ∧ (3 : Int) < 4] (by kernel_rfl) (⟨by decide, by decide, trivial⟩) ?_
     refine GY.ext 190 [.int .u64 z5, .int .u64 z10, .int .u64 (if z4 < z9 + y2 then (1 : Int) else 0)] [.int .u64 ((z5 - z10 - (if z4 < z9 + y2 then (1 : Int) else 0)) % 18446744073709551616), .int .u64 (if z5 < z10 + (if z4 < z9 + y2 then (1 : Int) else 0) then (1 : Int) else 0)] [(37, .tp [vk .u64 ((z5 - z10 - (if z4 < z9 + y2 then (1 : Int) else 0)) % 18446744073709551616), vk .u64 (if z5 < z10 + (if z4 < z9 + y2 then (1 : Int) else 0) then (1 : Int) else 0)]), (36, vk .u64 (if z4 < z9 + y2 then (1 : Int) else 0)), (35, vk .u64 z10), (34, .one (.pt 1 0 0 4)), (33, .one (.pt 1 0 0 1)), (32, vi 3), (31, vk .u64 z5), (30, .one (.pt 0 0 0 4)), (29, .one (.pt 0 0 0 1)), (28, vi 3), (27, vi 3), (2, vq 0), (3, vq 1), (4, vq 2), (5, vk .u64 (if z4 < z9 + y2 then (1 : Int) else 0)), (6, vi 3), (23, vi 3)] [] (by kernel_rfl) (by kernel_rfl) (nY (fn := Tryz.f190) (by kernel_rfl) (by kernel_rfl) (by kernel_rfl) (by kernel_rfl) (by kernel_rfl) g37.1 g37.2.1 g37.2.2.1 g37.2.2.2.1 g37.2.2.2.2) rfl (by kernel_rfl) (by kernel_rfl) ?_
     refine qE 2 [] [(38, vk .u64 ((z5 - z10 - (if z4 < z9 + y2 then (1 : Int) else 0)) % 18446744073709551616)), (26, .tp [vk .u64 ((z5 - z10 - (if z4 < z9 + y2 then (1 : Int) else 0)) % 18446744073709551616), vk .u64 (if z5 < z10 + (if z4 < z9 + y2 then (1 : Int) else 0) then (1 : Int) else 0)]), (37, .tp [vk .u64 ((z5 - z10 - (if z4 < z9 + y2 then (1 : Int) else 0)) % 18446744073709551616), vk .u64 (if z5 < z10 + (if z4 < z9 + y2 then (1 : Int) else 0) then (1 : Int) else 0)]), (36, vk .u64 (if z4 < z9 + y2 then (1 : Int) else 0)), (35, vk .u64 z10), (34, .one (.pt 1 0 0 4)), (33, .one (.pt 1 0 0 1)), (32, vi 3), (31, vk .u64 z5), (30, .one (.pt 0 0 0 4)), (29, .one (.pt 0 0 0 1)), (28, vi 3), (27, vi 3), (2, vq 0), (3, vq 1), (4, vq 2), (5, vk .u64 (if z4 < z9 + y2 then (1 : Int) else 0)), (6, vi 3), (23, vi 3)] ?_
     rw [show ((z5 - z10 - (if z4 < z9 + y2 then (1 : Int) else 0)) % 18446744073709551616) = y3 from zj hy38]
     refine qE 1 [] [(39, vk .u64 (if z5 < z10 + (if z4 < z9 + y2 then (1 : Int) else 0) then (1 : Int) else 0)), (38, vk .u64 y3), (26, .tp [vk .u64 y3, vk .u64 (if z5 < z10 + (if z4 < z9 + y2 then (1 : Int) else 0) then (1 : Int) else 0)]), (37, .tp [vk .u64 y3, vk .u64 (if z5 < z10 + (if z4 < z9 + y2 then (1 : Int) else 0) then (1 : Int) else 0)]), (36, vk .u64 (if z4 < z9 + y2 then (1 : Int) else 0)), (35, vk .u64 z10), (34, .one (.pt 1 0 0 4)), (33, .one (.pt 1 0 0 1)), (32, vi 3), (31, vk .u64 z5), (30, .one (.pt 0 0 0 4)), (29, .one (.pt 0 0 0 1)), (28, vi 3), (27, vi 3), (2, vq 0), (3, vq 1), (4, vq 2), (5, vk .u64 (if z4 < z9 + y2 then (1 : Int) else 0)), (6, vi 3), (23, vi 3)] ?_
     rw [show (if z5 < z10 + (if z4 < z9 + y2 then (1 : Int) else 0) then (1 : Int) else 0) = y4 from zj hy39]
     refine GY.go 2 [] (wm z4 z5 z9 z10 y2 y3 y4) [0 ≤ (3 : Int) ∧ (3 : Int) < 4] (by kernel_rfl) (⟨by decide, trivial⟩) ?_
     refine GY.wr [] (wm z4 z5 z9 z10 y2 y3 y4) [0] [] [.box (tE z1 z2 z4 z7 z9 y1 y2 y3), .box (ij z6 z7 z8 z9 z10), .box bH] [] (by kernel_rfl) (by kernel_rfl) trivial (by kernel_rfl) ?_
     exact GY.done (by kernel_rfl) (by kernel_rfl)
    refine zg [2, 3, 4] 1 [2,3,4,5,23] (zd (m35 _ _ (zr (zv [2, 3, 4] 2 [2,3,4,5,23] [] [(2, vq 0), (3, vq 1), (4, vq 2), (5, vk .u64 y4), (23, vi 4)] [.box (tE z1 z2 z4 z7 z9 y1 y2 y3), .box (ij z6 z7 z8 z9 z10), .box bH] (zd (XR.one (zq fun K40 m40 => ?_)))))))
    refine zr (zg [2, 3, 4] 1 [2,3,4,5,23,24] (zd (m40 _ _ (zq fun K41 m41 => zc false (fun hx => by cases hx) (fun _ => ?_)))))
    refine zx 0 (hQ1 _ _ _ (m14 _ _ (zq fun K42 m42 => zr (zg [2, 3, 4] 2 [4] (zd (m42 _ _ ?_))))))
    refine ze ?_
    obtain rfl := zj h
    exact zf [.ag (tE z1 z2 z4 z7 z9 y1 y2 y3)] (.ag (.cons (.rfl _ rfl) (.cons (.rfl _ rfl) (.cons (.rfl _ rfl) (.cons (.rfl _ rfl) (.cons (.rfl _ rfl) .nil))))))
   refine zq fun K9 m9 => ?_
   obtain ⟨r3, c10, h⟩ := zB h
   refine zr (zg [2, 3, 4] 2 [2,3,4,16,17] ?_)
   refine zl 189 [.ag (bg p1), .ag (bg p2)] (vi r3) [(18, vi r3), (2, vq 0), (3, vq 1), (4, vq 2), (16, .ag (bg p1)), (17, .ag (bg p2))] (od _ _ _ c10) (zg [2, 3, 4] 1 [2,3,4,19] ?_)
   refine zd (m9 _ _ (zC h (fun b11 h => ?_) (fun b11 h => ?_)))
   ·obtain ⟨r4, c12, h⟩ := zB h
    refine zw 3 [(22, .ag (bg p1)), (21, .ag (bg r4)), (20, .ag (bg p2)), (2, vq 0), (3, vq 1), (4, vq 2), (19, vb (decide (r3 < (0 : Int))))] ?_ ?_
    ·refine BB 1 ?_
     refine DX.cal 188 [.ag (bg p2)] (.ag (bg r4)) [(21, .ag (bg r4)), (20, .ag (bg p2)), (2, vq 0), (3, vq 1), (4, vq 2), (19, vb (decide (r3 < (0 : Int))))] (by kernel_rfl) (iw _ _ c12) rfl rfl (by kernel_rfl) ?_
     exact BB 1 lU
    exact zg [2, 3, 4] 2 [2,3,4] (zd (j1 r4.neg r4.size.1 r4.size.2.1 r4.size.2.2.1 r4.size.2.2.2 p1.neg p1.size.1 p1.size.2.1 p1.size.2.2.1 p1.size.2.2.2 h _ _ (zk [2,3,4])))
   ·exact zs (j1 p1.neg p1.size.1 p1.size.2.1 p1.size.2.2.1 p1.size.2.2.2 p2.neg p2.size.1 p2.size.2.1 p2.size.2.2.1 p2.size.2.2.2 h _ _ (zk [2,3,4]))
theorem pC : ∀ (k0 : Nat) (p1 p2 r : ba), jj k0 p1 p2 = some r → PC Tryz.prog 183 [.ag (bg p1), .ag (bg p2)] (.ag [cb r.neg, ck .u64 r.size.1, ck .u64 r.size.2.1, ck .u64 r.size.2.2.1, ck .u64 r.size.2.2.2])
 | 0, _, _, r, h => by rw [jj.eq_1] at h; cases h
 | k0 + 1, p1, p2, r, h => by
  rw [jj.eq_2] at h
  refine zF 37 Tryz.f183 (zq fun K1 m1 => zr (zg [2, 4] 3 [2,3,4] (zd (m1 _ _ (zq fun K2 m2 => zq fun K3 m3 => ?_)))))
  refine zr (zu [2, 4] 5 [2,3,4,11] [(al p2)] (zd (m3 _ _ (zC h (fun b4 h => ?_) (fun b4 h => ?_)))))
  ·refine zq fun K5 m5 => ?_
   obtain ⟨r1, c6, h⟩ := zB h
   obtain ⟨r2, c7, h⟩ := zB h
   refine zw 3 [(14, .ag (bg r1)), (13, .ag (bg p2)), (12, .ag (bg p1)), (2, vq 0), (3, vR (al p2)), (4, vq 1), (11, vb (!(p1.neg == p2.neg)))] ?_ ?_
   ·refine ut 2 [(al p2)] [(13, .ag (bg p2)), (12, .ag (bg p1)), (2, vq 0), (3, vR (al p2)), (4, vq 1), (11, vb (!(p1.neg == p2.neg)))] ?_
    exact zT (iw _ _ c6) lU
   refine zl 173 [.ag (bg p1), .ag (bg r1)] (.ag (bg r2)) [(15, .ag (bg r2)), (14, .ag (bg r1)), (13, .ag (bg p2)), (12, .ag (bg p1)), (2, vq 0), (3, vR (al p2)), (4, vq 1), (11, vb (!(p1.neg == p2.neg)))] (lH k0 _ _ _ c7) ?_
   refine zg [2, 4] 1 [4] (zd (m5 _ _ (ze ?_)))
   obtain rfl := zj h
   exact zf [.ag (bg r2)] (.ag (.cons (.rfl _ rfl) (.cons (.rfl _ rfl) (.cons (.rfl _ rfl) (.cons (.rfl _ rfl) (.cons (.rfl _ rfl) .nil))))))
  ·refine zs (m2 _ _ (zq fun K8 m8 => zr (zg [2, 4] 1 [2,3,4,5] (zd (m8 _ _ (zq fun K9 m9 => ?_))))))
   refine zq fun K10 m10 => zr (zv [2, 4] 1 [2,3,4,5,16] [] [(2, vq 0), (3, vR (al p2)), (4, vq 1), (5, vk .u64 0), (16, vi 0)] [.box (bg p1), .box bH] (zd (m10 _ _ (zb 0 ?_))))
   refine XW.rounds' 5 (x := cd Tryz.f183 [1,1,1,0,1,0,0]) (by kernel_rfl) fun Q1 hQ1 => XR.one (zq fun K11 m11 => zr (zg [2, 4] 1 [2,3,4,5,16,17] (zd (m11 _ _ (zq fun K12 m12 => ?_)))))
   refine zc true (fun _ => ?_) (fun hx => by cases hx)
   refine zs (m12 _ _ (zq fun K13 m13 => zb 1 (zq fun K14 m14 => zr (zv [2, 4] 2 [2,3,4,5,6,16] [] [(2, vq 0), (3, vR (al p2)), (4, vq 1), (5, vk .u64 0), (6, vi 0), (16, vi 0)] [.box (bg p1), .box bH] (zd ?_)))))
   refine m14 _ _ ?_
   obtain ⟨g15, h⟩ := zG h
   refine XW.drwG 17 [2] [([], []), ([], []), ([], []), ([], []), ([0], []), ([], []), ([], []), ([], []), ([], []), ([], []), ([], []), ([], []), ([], []), ([], []), ([], []), ([], []), ([0], [0])] (wq p1 p2) [.box (un p1 p2), .box bH] (by kernel_rfl) (by kernel_rfl) ?_ ?_
   ·refine GY.go 10 [(al p2)] [(29, vk .u64 0), (28, vk .u64 p2.size.1), (27, .one (.pv (.rp [(al p2)] 0 1))), (26, .one (.pv (.rp [(al p2)] 0 1))), (25, vi 0), (24, vk .u64 p1.size.1), (23, .one (.pt 0 0 0 1)), (22, .one (.pt 0 0 0 1)), (21, vi 0), (20, vi 0), (2, vq 0), (3, vR (al p2)), (4, vq 1), (5, vk .u64 0), (6, vi 0), (16, vi 0)] [0 ≤ (0 : Int) ∧ (0 : Int) < 4, 0 ≤ (0 : Int) ∧ (0 : Int) < 4, ([(al p2)] : List (List PV))[0]? = some (al p2)] (by kernel_rfl) (⟨by decide, by decide, rfl, trivial⟩) ?_
    refine GY.ext 196 [.int .u64 p1.size.1, .int .u64 p2.size.1, .int .u64 (0 : Int)] [.int .u64 ((p1.size.1 + p2.size.1 + 0) % 18446744073709551616), .int .u64 ((p1.size.1 + p2.size.1 + 0) / 18446744073709551616)] [(30, .tp [vk .u64 ((p1.size.1 + p2.size.1 + 0) % 18446744073709551616), vk .u64 ((p1.size.1 + p2.size.1 + 0) / 18446744073709551616)]), (29, vk .u64 0), (28, vk .u64 p2.size.1), (27, .one (.pv (.rp [(al p2)] 0 1))), (26, .one (.pv (.rp [(al p2)] 0 1))), (25, vi 0), (24, vk .u64 p1.size.1), (23, .one (.pt 0 0 0 1)), (22, .one (.pt 0 0 0 1)), (21, vi 0), (20, vi 0), (2, vq 0), (3, vR (al p2)), (4, vq 1), (5, vk .u64 0), (6, vi 0), (16, vi 0)] [] (by kernel_rfl) (by kernel_rfl) (jF (fn := Tryz.f196) (by kernel_rfl) (by kernel_rfl) (by kernel_rfl) (by kernel_rfl) (by kernel_rfl) g15.1 g15.2.1 g15.2.2.1 g15.2.2.2) rfl (by kernel_rfl) (by kernel_rfl) ?_
    refine GY.go 5 [] (wq p1 p2) [0 ≤ (0 : Int) ∧ (0 : Int) < 4] (by kernel_rfl) (⟨by decide, trivial⟩) ?_
    refine GY.wr [] (wq p1 p2) [0] [] [.box (un p1 p2), .box bH] [] (by kernel_rfl) (by kernel_rfl) trivial (by kernel_rfl) ?_
    exact GY.done (by kernel_rfl) (by kernel_rfl)
   refine zg [2, 4] 1 [2,3,4,5,16] (zd (m13 _ _ (zr ?_)))
   refine zv [2, 4] 2 [2,3,4,5,16] [] [(2, vq 0), (3, vR (al p2)), (4, vq 1), (5, vk .u64 ((p1.size.1 + p2.size.1 + 0) / 18446744073709551616)), (16, vi 1)] [.box (un p1 p2), .box bH] ?_
   refine zd (XR.one (zq fun K16 m16 => zr (zg [2, 4] 1 [2,3,4,5,16,17] (zd (m16 _ _ (zq fun K17 m17 => ?_))))))
   refine zc true (fun _ => ?_) (fun hx => by cases hx)
   refine zs (m17 _ _ (zq fun K18 m18 => zb 1 (zq fun K19 m19 => zr ?_)))
   refine zv [2, 4] 2 [2,3,4,5,6,16] [] [(2, vq 0), (3, vR (al p2)), (4, vq 1), (5, vk .u64 ((p1.size.1 + p2.size.1 + 0) / 18446744073709551616)), (6, vi 1), (16, vi 1)] [.box (un p1 p2), .box bH] ?_
   refine zd (m19 _ _ ?_)
   obtain ⟨g20, h⟩ := zG h
   obtain ⟨y1, hy21, h⟩ := zB h
   obtain ⟨y2, hy22, h⟩ := zB h
   refine XW.drwG 17 [2] [([], []), ([], []), ([], []), ([], []), ([0], []), ([], []), ([], []), ([], []), ([], []), ([], []), ([], []), ([], []), ([], []), ([], []), ([], []), ([], []), ([0], [0])] (xf p1 p2 y1 y2) [.box (tZ p1 p2 y1), .box bH] (by kernel_rfl) (by kernel_rfl) ?_ ?_
   ·refine GY.go 10 [(al p2)] [(29, vk .u64 ((p1.size.1 + p2.size.1 + 0) / 18446744073709551616)), (28, vk .u64 p2.size.2.1), (27, .one (.pv (.rp [(al p2)] 0 2))), (26, .one (.pv (.rp [(al p2)] 0 1))), (25, vi 1), (24, vk .u64 p1.size.2.1), (23, .one (.pt 0 0 0 2)), (22, .one (.pt 0 0 0 1)), (21, vi 1), (20, vi 1), (2, vq 0), (3, vR (al p2)), (4, vq 1), (5, vk .u64 ((p1.size.1 + p2.size.1 + 0) / 18446744073709551616)), (6, vi 1), (16, vi 1)] [0 ≤ (1 : Int) ∧ (1 : Int) < 4, 0 ≤ (1 : Int) ∧ (1 : Int) < 4, ([(al p2)] : List (List PV))[0]? = some (al p2)] (by kernel_rfl) (⟨by decide, by decide, rfl, trivial⟩) ?_
    refine GY.ext 196 [.int .u64 p1.size.2.1, .int .u64 p2.size.2.1, .int .u64 ((p1.size.1 + p2.size.1 + 0) / 18446744073709551616)] [.int .u64 ((p1.size.2.1 + p2.size.2.1 + ((p1.size.1 + p2.size.1 + 0) / 18446744073709551616)) % 18446744073709551616), .int .u64 ((p1.size.2.1 + p2.size.2.1 + ((p1.size.1 + p2.size.1 + 0) / 18446744073709551616)) / 18446744073709551616)] [(30, .tp [vk .u64 ((p1.size.2.1 + p2.size.2.1 + ((p1.size.1 + p2.size.1 + 0) / 18446744073709551616)) % 18446744073709551616), vk .u64 ((p1.size.2.1 + p2.size.2.1 + ((p1.size.1 + p2.size.1 + 0) / 18446744073709551616)) / 18446744073709551616)]), (29, vk .u64 ((p1.size.1 + p2.size.1 + 0) / 18446744073709551616)), (28, vk .u64 p2.size.2.1), (27, .one (.pv (.rp [(al p2)] 0 2))), (26, .one (.pv (.rp [(al p2)] 0 1))), (25, vi 1), (24, vk .u64 p1.size.2.1), (23, .one (.pt 0 0 0 2)), (22, .one (.pt 0 0 0 1)), (21, vi 1), (20, vi 1), (2, vq 0), (3, vR (al p2)), (4, vq 1), (5, vk .u64 ((p1.size.1 + p2.size.1 + 0) / 18446744073709551616)), (6, vi 1), (16, vi 1)] [] (by kernel_rfl) (by kernel_rfl) (jF (fn := Tryz.f196) (by kernel_rfl) (by kernel_rfl) (by kernel_rfl) (by kernel_rfl) (by kernel_rfl) g20.1 g20.2.1 g20.2.2.1 g20.2.2.2) rfl (by kernel_rfl) (by kernel_rfl) ?_
    refine qE 2 [] [(31, vk .u64 ((p1.size.2.1 + p2.size.2.1 + ((p1.size.1 + p2.size.1 + 0) / 18446744073709551616)) % 18446744073709551616)), (19, .tp [vk .u64 ((p1.size.2.1 + p2.size.2.1 + ((p1.size.1 + p2.size.1 + 0) / 18446744073709551616)) % 18446744073709551616), vk .u64 ((p1.size.2.1 + p2.size.2.1 + ((p1.size.1 + p2.size.1 + 0) / 18446744073709551616)) / 18446744073709551616)]), (30, .tp [vk .u64 ((p1.size.2.1 + p2.size.2.1 + ((p1.size.1 + p2.size.1 + 0) / 18446744073709551616)) % 18446744073709551616), vk .u64 ((p1.size.2.1 + p2.size.2.1 + ((p1.size.1 + p2.size.1 + 0) / 18446744073709551616)) / 18446744073709551616)]), (29, vk .u64 ((p1.size.1 + p2.size.1 + 0) / 18446744073709551616)), (28, vk .u64 p2.size.2.1), (27, .one (.pv (.rp [[.s (.bool p2.neg), .s (.int .u64 p2.size.1), .s (.int .u64 p2.size.2.1), .s (.int .u64 p2.size.2.2.1), .s (.int .u64 p2.size.2.2.2)]] 0 2))), (26, .one (.pv (.rp [[.s (.bool p2.neg), .s (.int .u64 p2.size.1), .s (.int .u64 p2.size.2.1), .s (.int .u64 p2.size.2.2.1), .s (.int .u64 p2.size.2.2.2)]] 0 1))), (25, vi 1), (24, vk .u64 p1.size.2.1), (23, .one (.pt 0 0 0 2)), (22, .one (.pt 0 0 0 1)), (21, vi 1), (20, vi 1), (2, vq 0), (3, vR [.s (.bool p2.neg), .s (.int .u64 p2.size.1), .s (.int .u64 p2.size.2.1), .s (.int .u64 p2.size.2.2.1), .s (.int .u64 p2.size.2.2.2)]), (4, vq 1), (5, vk .u64 ((p1.size.1 + p2.size.1 + 0) / 18446744073709551616)), (6, vi 1), (16, vi 1)] ?_
    rw [show ((p1.size.2.1 + p2.size.2.1 + ((p1.size.1 + p2.size.1 + 0) / 18446744073709551616)) % 18446744073709551616) = y1 from zj hy21]
    refine qE 1 [] [(32, vk .u64 ((p1.size.2.1 + p2.size.2.1 + ((p1.size.1 + p2.size.1 + 0) / 18446744073709551616)) / 18446744073709551616)), (31, vk .u64 y1), (19, .tp [vk .u64 y1, vk .u64 ((p1.size.2.1 + p2.size.2.1 + ((p1.size.1 + p2.size.1 + 0) / 18446744073709551616)) / 18446744073709551616)]), (30, .tp [vk .u64 y1, vk .u64 ((p1.size.2.1 + p2.size.2.1 + ((p1.size.1 + p2.size.1 + 0) / 18446744073709551616)) / 18446744073709551616)]), (29, vk .u64 ((p1.size.1 + p2.size.1 + 0) / 18446744073709551616)), (28, vk .u64 p2.size.2.1), (27, .one (.pv (.rp [[.s (.bool p2.neg), .s (.int .u64 p2.size.1), .s (.int .u64 p2.size.2.1), .s (.int .u64 p2.size.2.2.1), .s (.int .u64 p2.size.2.2.2)]] 0 2))), (26, .one (.pv (.rp [[.s (.bool p2.neg), .s (.int .u64 p2.size.1), .s (.int .u64 p2.size.2.1), .s (.int .u64 p2.size.2.2.1), .s (.int .u64 p2.size.2.2.2)]] 0 1))), (25, vi 1), (24, vk .u64 p1.size.2.1), (23, .one (.pt 0 0 0 2)), (22, .one (.pt 0 0 0 1)), (21, vi 1), (20, vi 1), (2, vq 0), (3, vR [.s (.bool p2.neg), .s (.int .u64 p2.size.1), .s (.int .u64 p2.size.2.1), .s (.int .u64 p2.size.2.2.1), .s (.int .u64 p2.size.2.2.2)]), (4, vq 1), (5, vk .u64 ((p1.size.1 + p2.size.1 + 0) / 18446744073709551616)), (6, vi 1), (16, vi 1)] ?_
    rw [show ((p1.size.2.1 + p2.size.2.1 + ((p1.size.1 + p2.size.1 + 0) / 18446744073709551616)) / 18446744073709551616) = y2 from zj hy22]
    refine GY.go 2 [] (xf p1 p2 y1 y2) [0 ≤ (1 : Int) ∧ (1 : Int) < 4] (by kernel_rfl) (⟨by decide, trivial⟩) ?_
    refine GY.wr [] (xf p1 p2 y1 y2) [0] [] [.box (tZ p1 p2 y1), .box bH] [] (by kernel_rfl) (by kernel_rfl) trivial (by kernel_rfl) ?_
    exact GY.done (by kernel_rfl) (by kernel_rfl)
   refine zg [2, 4] 1 [2,3,4,5,16] (zd (m18 _ _ (zr (zv [2, 4] 2 [2,3,4,5,16] [] [(2, vq 0), (3, vR (al p2)), (4, vq 1), (5, vk .u64 y2), (16, vi 2)] [.box (tZ p1 p2 y1), .box bH] (zd (XR.one ?_))))))
   refine zq fun K23 m23 => zr (zg [2, 4] 1 [2,3,4,5,16,17] (zd (m23 _ _ (zq fun K24 m24 => zc true (fun _ => ?_) (fun hx => by cases hx)))))
   refine zs (m24 _ _ (zq fun K25 m25 => zb 1 (zq fun K26 m26 => zr ?_)))
   refine zv [2, 4] 2 [2,3,4,5,6,16] [] [(2, vq 0), (3, vR (al p2)), (4, vq 1), (5, vk .u64 y2), (6, vi 2), (16, vi 2)] [.box (tZ p1 p2 y1), .box bH] (zd (m26 _ _ ?_))
   obtain ⟨g27, h⟩ := zG h
   refine XW.drwG 17 [2] [([], []), ([], []), ([], []), ([], []), ([0], []), ([], []), ([], []), ([], []), ([], []), ([], []), ([], []), ([], []), ([], []), ([], []), ([], []), ([], []), ([0], [0])] (xi p1 p2 y2) [.box (uq p1 p2 y1 y2), .box bH] (by kernel_rfl) (by kernel_rfl) ?_ ?_
   ·refine GY.go 10 [(al p2)] [(29, vk .u64 y2), (28, vk .u64 p2.size.2.2.1), (27, .one (.pv (.rp [(al p2)] 0 3))), (26, .one (.pv (.rp [(al p2)] 0 1))), (25, vi 2), (24, vk .u64 p1.size.2.2.1), (23, .one (.pt 0 0 0 3)), (22, .one (.pt 0 0 0 1)), (21, vi 2), (20, vi 2), (2, vq 0), (3, vR (al p2)), (4, vq 1), (5, vk .u64 y2), (6, vi 2), (16, vi 2)] [0 ≤ (2 : Int) ∧ (2 : Int) < 4, 0 ≤ (2 : Int) ∧ (2 : Int) < 4, ([(al p2)] : List (List PV))[0]? = some (al p2)] (by kernel_rfl) (⟨by decide, by decide, rfl, trivial⟩) ?_
    refine GY.ext 196 [.int .u64 p1.size.2.2.1, .int .u64 p2.size.2.2.1, .int .u64 y2] [.int .u64 ((p1.size.2.2.1 + p2.size.2.2.1 + y2) % 18446744073709551616), .int .u64 ((p1.size.2.2.1 + p2.size.2.2.1 + y2) / 18446744073709551616)] [(30, .tp [vk .u64 ((p1.size.2.2.1 + p2.size.2.2.1 + y2) % 18446744073709551616), vk .u64 ((p1.size.2.2.1 + p2.size.2.2.1 + y2) / 18446744073709551616)]), (29, vk .u64 y2), (28, vk .u64 p2.size.2.2.1), (27, .one (.pv (.rp [(al p2)] 0 3))), (26, .one (.pv (.rp [(al p2)] 0 1))), (25, vi 2), (24, vk .u64 p1.size.2.2.1), (23, .one (.pt 0 0 0 3)), (22, .one (.pt 0 0 0 1)), (21, vi 2), (20, vi 2), (2, vq 0), (3, vR (al p2)), (4, vq 1), (5, vk .u64 y2), (6, vi 2), (16, vi 2)] [] (by kernel_rfl) (by kernel_rfl) (jF (fn := Tryz.f196) (by kernel_rfl) (by kernel_rfl) (by kernel_rfl) (by kernel_rfl) (by kernel_rfl) g27.1 g27.2.1 g27.2.2.1 g27.2.2.2) rfl (by kernel_rfl) (by kernel_rfl) ?_
    refine GY.go 5 [] (xi p1 p2 y2) [0 ≤ (2 : Int) ∧ (2 : Int) < 4] (by kernel_rfl) (⟨by decide, trivial⟩) ?_
    refine GY.wr [] (xi p1 p2 y2) [0] [] [.box (uq p1 p2 y1 y2), .box bH] [] (by kernel_rfl) (by kernel_rfl) trivial (by kernel_rfl) ?_
    exact GY.done (by kernel_rfl) (by kernel_rfl)
   refine zg [2, 4] 1 [2,3,4,5,16] (zd (m25 _ _ (zr ?_)))
   refine zv [2, 4] 2 [2,3,4,5,16] [] [(2, vq 0), (3, vR (al p2)), (4, vq 1), (5, vk .u64 ((p1.size.2.2.1 + p2.size.2.2.1 + y2) / 18446744073709551616)), (16, vi 3)] [.box (uq p1 p2 y1 y2), .box bH] ?_
   refine zd (XR.one (zq fun K28 m28 => zr (zg [2, 4] 1 [2,3,4,5,16,17] (zd (m28 _ _ (zq fun K29 m29 => ?_))))))
   refine zc true (fun _ => ?_) (fun hx => by cases hx)
   refine zs (m29 _ _ (zq fun K30 m30 => zb 1 (zq fun K31 m31 => zr ?_)))
   refine zv [2, 4] 2 [2,3,4,5,6,16] [] [(2, vq 0), (3, vR (al p2)), (4, vq 1), (5, vk .u64 ((p1.size.2.2.1 + p2.size.2.2.1 + y2) / 18446744073709551616)), (6, vi 3), (16, vi 3)] [.box (uq p1 p2 y1 y2), .box bH] ?_
   refine zd (m31 _ _ ?_)
   obtain ⟨g32, h⟩ := zG h
   obtain ⟨y3, hy33, h⟩ := zB h
   obtain ⟨y4, hy34, h⟩ := zB h
   refine XW.drwG 17 [2] [([], []), ([], []), ([], []), ([], []), ([0], []), ([], []), ([], []), ([], []), ([], []), ([], []), ([], []), ([], []), ([], []), ([], []), ([], []), ([], []), ([0], [0])] (ww p1 p2 y2 y3 y4) [.box (um p1 p2 y1 y2 y3), .box bH] (by kernel_rfl) (by kernel_rfl) ?_ ?_
   ·refine GY.go 10 [(al p2)] [(29, vk .u64 ((p1.size.2.2.1 + p2.size.2.2.1 + y2) / 18446744073709551616)), (28, vk .u64 p2.size.2.2.2), (27, .one (.pv (.rp [(al p2)] 0 4))), (26, .one (.pv (.rp [(al p2)] 0 1))), (25, vi 3), (24, vk .u64 p1.size.2.2.2), (23, .one (.pt 0 0 0 4)), (22, .one (.pt 0 0 0 1)), (21, vi 3), (20, vi 3), (2, vq 0), (3, vR (al p2)), (4, vq 1), (5, vk .u64 ((p1.size.2.2.1 + p2.size.2.2.1 + y2) / 18446744073709551616)), (6, vi 3), (16, vi 3)] [0 ≤ (3 : Int) ∧ (3 : Int) < 4, 0 ≤ (3 : Int) ∧ (3 : Int) < 4, ([(al p2)] : List (List PV))[0]? = some (al p2)] (by kernel_rfl) (⟨by decide, by decide, rfl, trivial⟩) ?_
    refine GY.ext 196 [.int .u64 p1.size.2.2.2, .int .u64 p2.size.2.2.2, .int .u64 ((p1.size.2.2.1 + p2.size.2.2.1 + y2) / 18446744073709551616)] [.int .u64 ((p1.size.2.2.2 + p2.size.2.2.2 + ((p1.size.2.2.1 + p2.size.2.2.1 + y2) / 18446744073709551616)) % 18446744073709551616), .int .u64 ((p1.size.2.2.2 + p2.size.2.2.2 + ((p1.size.2.2.1 + p2.size.2.2.1 + y2) / 18446744073709551616)) / 18446744073709551616)] [(30, .tp [vk .u64 ((p1.size.2.2.2 + p2.size.2.2.2 + ((p1.size.2.2.1 + p2.size.2.2.1 + y2) / 18446744073709551616)) % 18446744073709551616), vk .u64 ((p1.size.2.2.2 + p2.size.2.2.2 + ((p1.size.2.2.1 + p2.size.2.2.1 + y2) / 18446744073709551616)) / 18446744073709551616)]), (29, vk .u64 ((p1.size.2.2.1 + p2.size.2.2.1 + y2) / 18446744073709551616)), (28, vk .u64 p2.size.2.2.2), (27, .one (.pv (.rp [(al p2)] 0 4))), (26, .one (.pv (.rp [(al p2)] 0 1))), (25, vi 3), (24, vk .u64 p1.size.2.2.2), (23, .one (.pt 0 0 0 4)), (22, .one (.pt 0 0 0 1)), (21, vi 3), (20, vi 3), (2, vq 0), (3, vR (al p2)), (4, vq 1), (5, vk .u64 ((p1.size.2.2.1 + p2.size.2.2.1 + y2) / 18446744073709551616)), (6, vi 3), (16, vi 3)] [] (by kernel_rfl) (by kernel_rfl) (jF (fn := Tryz.f196) (by kernel_rfl) (by kernel_rfl) (by kernel_rfl) (by kernel_rfl) (by kernel_rfl) g32.1 g32.2.1 g32.2.2.1 g32.2.2.2) rfl (by kernel_rfl) (by kernel_rfl) ?_
    refine qE 2 [] [(31, vk .u64 ((p1.size.2.2.2 + p2.size.2.2.2 + ((p1.size.2.2.1 + p2.size.2.2.1 + y2) / 18446744073709551616)) % 18446744073709551616)), (19, .tp [vk .u64 ((p1.size.2.2.2 + p2.size.2.2.2 + ((p1.size.2.2.1 + p2.size.2.2.1 + y2) / 18446744073709551616)) % 18446744073709551616), vk .u64 ((p1.size.2.2.2 + p2.size.2.2.2 + ((p1.size.2.2.1 + p2.size.2.2.1 + y2) / 18446744073709551616)) / 18446744073709551616)]), (30, .tp [vk .u64 ((p1.size.2.2.2 + p2.size.2.2.2 + ((p1.size.2.2.1 + p2.size.2.2.1 + y2) / 18446744073709551616)) % 18446744073709551616), vk .u64 ((p1.size.2.2.2 + p2.size.2.2.2 + ((p1.size.2.2.1 + p2.size.2.2.1 + y2) / 18446744073709551616)) / 18446744073709551616)]), (29, vk .u64 ((p1.size.2.2.1 + p2.size.2.2.1 + y2) / 18446744073709551616)), (28, vk .u64 p2.size.2.2.2), (27, .one (.pv (.rp [[.s (.bool p2.neg), .s (.int .u64 p2.size.1), .s (.int .u64 p2.size.2.1), .s (.int .u64 p2.size.2.2.1), .s (.int .u64 p2.size.2.2.2)]] 0 4))), (26, .one (.pv (.rp [[.s (.bool p2.neg), .s (.int .u64 p2.size.1), .s (.int .u64 p2.size.2.1), .s (.int .u64 p2.size.2.2.1), .s (.int .u64 p2.size.2.2.2)]] 0 1))), (25, vi 3), (24, vk .u64 p1.size.2.2.2), (23, .one (.pt 0 0 0 4)), (22, .one (.pt 0 0 0 1)), (21, vi 3), (20, vi 3), (2, vq 0), (3, vR [.s (.bool p2.neg), .s (.int .u64 p2.size.1), .s (.int .u64 p2.size.2.1), .s (.int .u64 p2.size.2.2.1), .s (.int .u64 p2.size.2.2.2)]), (4, vq 1), (5, vk .u64 ((p1.size.2.2.1 + p2.size.2.2.1 + y2) / 18446744073709551616)), (6, vi 3), (16, vi 3)] ?_
    rw [show ((p1.size.2.2.2 + p2.size.2.2.2 + ((p1.size.2.2.1 + p2.size.2.2.1 + y2) / 18446744073709551616)) % 18446744073709551616) = y3 from zj hy33]
    refine qE 1 [] [(32, vk .u64 ((p1.size.2.2.2 + p2.size.2.2.2 + ((p1.size.2.2.1 + p2.size.2.2.1 + y2) / 18446744073709551616)) / 18446744073709551616)), (31, vk .u64 y3), (19, .tp [vk .u64 y3, vk .u64 ((p1.size.2.2.2 + p2.size.2.2.2 + ((p1.size.2.2.1 + p2.size.2.2.1 + y2) / 18446744073709551616)) / 18446744073709551616)]), (30, .tp [vk .u64 y3, vk .u64 ((p1.size.2.2.2 + p2.size.2.2.2 + ((p1.size.2.2.1 + p2.size.2.2.1 + y2) / 18446744073709551616)) / 18446744073709551616)]), (29, vk .u64 ((p1.size.2.2.1 + p2.size.2.2.1 + y2) / 18446744073709551616)), (28, vk .u64 p2.size.2.2.2), (27, .one (.pv (.rp [[.s (.bool p2.neg), .s (.int .u64 p2.size.1), .s (.int .u64 p2.size.2.1), .s (.int .u64 p2.size.2.2.1), .s (.int .u64 p2.size.2.2.2)]] 0 4))), (26, .one (.pv (.rp [[.s (.bool p2.neg), .s (.int .u64 p2.size.1), .s (.int .u64 p2.size.2.1), .s (.int .u64 p2.size.2.2.1), .s (.int .u64 p2.size.2.2.2)]] 0 1))), (25, vi 3), (24, vk .u64 p1.size.2.2.2), (23, .one (.pt 0 0 0 4)), (22, .one (.pt 0 0 0 1)), (21, vi 3), (20, vi 3), (2, vq 0), (3, vR [.s (.bool p2.neg), .s (.int .u64 p2.size.1), .s (.int .u64 p2.size.2.1), .s (.int .u64 p2.size.2.2.1), .s (.int .u64 p2.size.2.2.2)]), (4, vq 1), (5, vk .u64 ((p1.size.2.2.1 + p2.size.2.2.1 + y2) / 18446744073709551616)), (6, vi 3), (16, vi 3)] ?_
    rw [show ((p1.size.2.2.2 + p2.size.2.2.2 + ((p1.size.2.2.1 + p2.size.2.2.1 + y2) / 18446744073709551616)) / 18446744073709551616) = y4 from zj hy34]
    refine GY.go 2 [] (ww p1 p2 y2 y3 y4) [0 ≤ (3 : Int) ∧ (3 : Int) < 4] (by kernel_rfl) (⟨by decide, trivial⟩) ?_
    refine GY.wr [] (ww p1 p2 y2 y3 y4) [0] [] [.box (um p1 p2 y1 y2 y3), .box bH] [] (by kernel_rfl) (by kernel_rfl) trivial (by kernel_rfl) ?_
    exact GY.done (by kernel_rfl) (by kernel_rfl)
   refine zg [2, 4] 1 [2,3,4,5,16] (zd (m30 _ _ (zr ?_)))
   refine zv [2, 4] 2 [2,3,4,5,16] [] [(2, vq 0), (3, vR (al p2)), (4, vq 1), (5, vk .u64 y4), (16, vi 4)] [.box (um p1 p2 y1 y2 y3), .box bH] (zd (XR.one (zq fun K35 m35 => ?_)))
   refine zr (zg [2, 4] 1 [2,3,4,5,16,17] (zd (m35 _ _ (zq fun K36 m36 => zc false (fun hx => by cases hx) (fun _ => ?_)))))
   refine zx 0 (hQ1 _ _ _ (m9 _ _ (zq fun K37 m37 => zr (zg [2, 4] 2 [4] (zd (m37 _ _ ?_))))))
   refine ze ?_
   obtain rfl := zj h
   exact zf [.ag (um p1 p2 y1 y2 y3)] (.ag (.cons (.rfl _ rfl) (.cons (.rfl _ rfl) (.cons (.rfl _ rfl) (.cons (.rfl _ rfl) (.cons (.rfl _ rfl) .nil))))))
end
def jq (p1 : ba) : Option Bool := aT (some ((p1.size.1 == 0) && ((p1.size.2.1 == 0) && ((p1.size.2.2.1 == 0) && ((p1.size.2.2.2 == 0) && true))))) fun y1 => some y1
theorem po (p1 : ba) (r : Bool) (h : jq p1 = some r) : PC Tryz.prog 174 [.ag [cb p1.neg, ck .u64 p1.size.1, ck .u64 p1.size.2.1, ck .u64 p1.size.2.2.1, ck .u64 p1.size.2.2.2]] (vb r) := by
 unfold jq at h
 refine zF 7 Tryz.f174 (zq fun K1 m1 => zr (zg [] 2 [1] (zd (m1 _ _ (zq fun K2 m2 => ?_)))))
 obtain ⟨y1, hy3, h⟩ := zB h
 refine zr (zv [] 4 [6] [[.s (.bool p1.neg), .s (.int .u64 p1.size.1), .s (.int .u64 p1.size.2.1), .s (.int .u64 p1.size.2.2.1), .s (.int .u64 p1.size.2.2.2)]] [(6, vb ((p1.size.1 == 0) && ((p1.size.2.1 == 0) && ((p1.size.2.2.1 == 0) && ((p1.size.2.2.2 == 0) && true)))))] [] ?_)
 rw [show ((p1.size.1 == 0) && ((p1.size.2.1 == 0) && ((p1.size.2.2.1 == 0) && ((p1.size.2.2.2 == 0) && true)))) = y1 from zj hy3]
 refine zg [] 1 [2] (zd (m2 _ _ (ze ?_)))
 obtain rfl := zj h
 exact zf [vb y1] (.one (.rfl _ rfl))
def fl (p1 p2 : ba) : Option Int := aT (ff bf (ba.mk p1.neg (p1.size.1, p1.size.2.1, p1.size.2.2.1, p1.size.2.2.2)) (ba.mk p2.neg (p2.size.1, p2.size.2.1, p2.size.2.2.1, p2.size.2.2.2))) fun r1 => aT (jq (ba.mk r1.neg (r1.size.1, r1.size.2.1, r1.size.2.2.1, r1.size.2.2.2))) fun r2 => aI r2 (some (0 : Int)) (aI r1.neg (some (-1 : Int)) (some (1 : Int)))
theorem nt (p1 p2 : ba) (r : Int) (h : fl p1 p2 = some r) : PC Tryz.prog 139 [.ag (bg p1), .ag (bg p2)] (vi r) := by
 unfold fl at h
 refine zF 15 Tryz.f139 (zq fun K1 m1 => zr (zg [5] 3 [2,3] (zd (m1 _ _ (zq fun K2 m2 => zq fun K3 m3 => ?_)))))
 obtain ⟨r1, c4, h⟩ := zB h
 refine zr (zu [5] 2 [6,7] [[.s (.bool p1.neg), .s (.int .u64 p1.size.1), .s (.int .u64 p1.size.2.1), .s (.int .u64 p1.size.2.2.1), .s (.int .u64 p1.size.2.2.2)], [.s (.bool p2.neg), .s (.int .u64 p2.size.1), .s (.int .u64 p2.size.2.1), .s (.int .u64 p2.size.2.2.1), .s (.int .u64 p2.size.2.2.2)]] ?_)
 refine zl 173 [.ag (bg p1), .ag (bg p2)] (.ag (bg r1)) [(8, .ag (bg r1)), (6, .ag (bg p1)), (7, .ag (bg p2))] (lH bf _ _ _ c4) ?_
 refine zg [5] 2 [5] (zd (m3 _ _ (zb 0 (zq fun K5 m5 => ?_))))
 obtain ⟨r2, c6, h⟩ := zB h
 refine zr (zg [5] 1 [5,10] (zl 174 [.ag (bg r1)] (vb r2) [(11, vb r2), (5, vq 0), (10, .ag (bg r1))] (po _ _ c6) (zg [5] 1 [5,9] (zd (m5 _ _ (zC h (fun b7 h => ?_) (fun b7 h => ?_)))))))
 ·refine zq fun K8 m8 => zr (zg [5] 1 [4] (zd (m8 _ _ (ze ?_))))
  obtain rfl := zj h
  exact zf [vi 0] (.one (.rfl _ rfl))
 ·refine zq fun K9 m9 => zr (zv [5] 3 [12] [] [(12, vb r1.neg)] [.box (bg r1)] (zd (m9 _ _ (zC h (fun b10 h => ?_) (fun b10 h => ?_)))))
  ·refine zq fun K11 m11 => zr (zg [5] 1 [4] (zd (m11 _ _ (ze ?_))))
   obtain rfl := zj h
   exact zf [vi (-1)] (.one (.rfl _ rfl))
  ·refine zs (m2 _ _ (zq fun K12 m12 => zr (zg [5] 1 [4] (zd (m12 _ _ (ze ?_))))))
   obtain rfl := zj h
   exact zf [vi 1] (.one (.rfl _ rfl))
def gf (p1 : ByteArray) : Option Bool := some (!(p1.toList == p1.toList))
theorem lq (p1 : ByteArray) (r : Bool) (h : gf p1 = some r) : PC Tryz.prog 191 [vs p1] (vb r) := by
 unfold gf at h
 refine zF 6 Tryz.f191 (zq fun K1 m1 => zr (zg [] 1 [0] (zd (m1 _ _ (zq fun K2 m2 => zr ?_)))))
 refine zg [] 4 [2] (zd (m2 _ _ (ze ?_)))
 obtain rfl := zj h
 exact zf [vb (!(p1.toList == p1.toList))] (.one (.rfl _ rfl))
def fx (p1 p2 : ByteArray) : Option Int := aT (gf p1) fun r1 => aT (gf p2) fun r2 => aI r1 (aI r2 (some (0 : Int)) (some (-1 : Int))) (aI r2 (some (1 : Int)) (aI (Op.bytesLess p1.toList p2.toList) (some (-1 : Int)) (aI (!(Op.bytesLess p1.toList p2.toList || p1.toList == p2.toList)) (some (1 : Int)) (some (0 : Int)))))
theorem nG (p1 p2 : ByteArray) (r : Int) (h : fx p1 p2 = some r) : PC Tryz.prog 175 [vs p1, vs p2] (vi r) := by
 unfold fx at h
 refine zF 20 Tryz.f175 (zq fun K1 m1 => zr (zg [] 1 [0,1] (zd (m1 _ _ (zq fun K2 m2 => ?_)))))
 obtain ⟨r1, c3, h⟩ := zB h
 refine zr (zg [] 1 [0,1,7] (zl 191 [vs p1] (vb r1) [(8, vb r1), (0, vs p1), (1, vs p2), (7, vs p1)] (lq _ _ c3) (zg [] 1 [0,1,5] (zd (m2 _ _ (zq fun K4 m4 => ?_))))))
 obtain ⟨r2, c5, h⟩ := zB h
 refine zr (zg [] 1 [0,1,5,9] (zl 191 [vs p2] (vb r2) [(10, vb r2), (0, vs p1), (1, vs p2), (5, vb r1), (9, vs p2)] (lq _ _ c5) (zg [] 1 [0,1,5,6] (zd (m4 _ _ (zq fun K6 m6 => zq fun K7 m7 => ?_))))))
 refine zr (zg [] 1 [0,1,6,11] (zd (m7 _ _ (zC h (fun b8 h => ?_) (fun b8 h => ?_)))))
 ·refine zq fun K9 m9 => zq fun K10 m10 => zr (zv [] 1 [12] [] [(12, vb r2)] [] (zd (m10 _ _ (zC h (fun b11 h => ?_) (fun b11 h => ?_)))))
  ·refine zq fun K12 m12 => zr (zg [] 1 [4] (zd (m12 _ _ (ze ?_))))
   obtain rfl := zj h
   exact zf [vi 0] (.one (.rfl _ rfl))
  ·refine zs (m9 _ _ (zq fun K13 m13 => zr (zg [] 1 [4] (zd (m13 _ _ (ze ?_))))))
   obtain rfl := zj h
   exact zf [vi (-1)] (.one (.rfl _ rfl))
 ·refine zs (m6 _ _ (zq fun K14 m14 => zq fun K15 m15 => zr (zg [] 1 [0,1,13] (zd (m15 _ _ ?_)))))
  refine zC h (fun b16 h => ?_) (fun b16 h => ?_)
  ·refine zq fun K17 m17 => zr (zg [] 1 [4] (zd (m17 _ _ (ze ?_))))
   obtain rfl := zj h
   exact zf [vi 1] (.one (.rfl _ rfl))
  ·refine zs (m14 _ _ (zq fun K18 m18 => zq fun K19 m19 => zr (zv [] 3 [0,1,16] [] [(0, vs p1), (1, vs p2), (16, vb (Op.bytesLess p1.toList p2.toList))] [] (zd (m19 _ _ ?_)))))
   refine zC h (fun b20 h => ?_) (fun b20 h => ?_)
   ·refine zq fun K21 m21 => zr (zg [] 1 [4] (zd (m21 _ _ (ze ?_))))
    obtain rfl := zj h
    exact zf [vi (-1)] (.one (.rfl _ rfl))
   ·refine zs (m18 _ _ (zq fun K22 m22 => zq fun K23 m23 => zr (zg [] 3 [19] (zd (m23 _ _ ?_)))))
    refine zC h (fun b24 h => ?_) (fun b24 h => ?_)
    ·refine zq fun K25 m25 => zr (zv [] 1 [4] [] [(4, vi 1)] [] (zd (m25 _ _ (ze ?_))))
     obtain rfl := zj h
     exact zf [vi 1] (.one (.rfl _ rfl))
    ·refine zs (m22 _ _ (zq fun K26 m26 => zr (zg [] 1 [4] (zd (m26 _ _ (ze ?_))))))
     obtain rfl := zj h
     exact zf [vi 0] (.one (.rfl _ rfl))
def mc : Option Int := some (0 : Int)
def i5 (p1 : (List Int)) : Nat → Int → Option Int
 | 0, _ => none
 | k1 + 1, x1 => aI (decide (x1 < (p1.length : Int))) (aT (at? p1 x1) fun e1 => aI (e1 != 0) (some e1) ((i5 p1 k1) (i64.wrap (x1 + 1)))) (mc)
def jy (p1 : (List Int)) : Option Int := i5 p1 bf (0 : Int)
theorem mJ (p1 : (List Int)) (r : Int) (h : jy p1 = some r) : PC Tryz.prog 137 [vl eI p1] (vi r) := by
 unfold jy at h
 refine zF 18 Tryz.f137 (zq fun K1 m1 => zr (zg [] 1 [0] (zd (m1 _ _ (zq fun K2 m2 => zr ?_)))))
 refine zg [] 1 [0,3] (zd (m2 _ _ (zq fun K3 m3 => ?_)))
 have j1 : ∀ (_ : Unit), mc = some r → ∀ w0 w1, aL 18 0 [] w0 w1 [(3, vi 0)] [] → K3 w0 w1 := by
  intro _ h w0 w1 hS
  unfold mc at h
  refine m3 _ _ (XW.sub hS ?_)
  refine zq fun K14 m14 => zr (zg [] 2 [2] (zd (m14 _ _ (ze ?_))))
  obtain rfl := zj h
  exact zf [vi 0] (.one (.rfl _ rfl))
 refine zq fun K4 m4 => zr (zv [] 2 [3,6,7] [] [(3, vi 0), (6, vl eI p1), (7, vi ((eI.els p1).length : Int))] [] ?_)
 rw [eI.len p1]
 refine zg [] 1 [3,6,7,8] (zd (m4 _ _ (zb 0 (XW.rounds' bf (x := cd Tryz.f137 [1,1,0,1,0,0]) (by kernel_rfl) fun Q1 hQ1 => ?_))))
 have hL1 : ∀ (k1 : Nat) (x1 : Int), i5 p1 k1 x1 = some r → XR Tryz.prog 18 0 [] (cd Tryz.f137 [1,1,0,1,0,0]) Q1 k1 [(3, vi 0), (6, vl eI p1), (7, vi (p1.length : Int)), (8, vi x1)] [] := by
  intro k1
  induction k1 with
  | zero => intro x1 h; rw [i5.eq_1] at h; cases h
  | succ k1 ih1 =>
   intro x1 h
   rw [i5.eq_2] at h
   refine zq fun K5 m5 => zr (zg [] 1 [3,6,7,8,9] (zd (m5 _ _ (zq fun K6 m6 => zC h (fun b7 h => ?_) (fun b7 h => ?_)))))
   ·refine zs (m6 _ _ (zq fun K8 m8 => zb 1 (zq fun K9 m9 => ?_)))
    obtain ⟨e1, a10, h⟩ := zB h
    refine zr (zo [] 3 [3,5,6,7,8] [[pi e1]] [0 ≤ x1 ∧ x1 < ((eI.els p1).length : Int) ∧ aq 1 (eI.els p1), (eI.els p1)[x1.toNat]? = some [pi e1]] (⟨eI.inb a10, (eI.get a10), trivial⟩) (zd (m9 _ _ (zq fun K11 m11 => zr (zv [] 3 [3,5,6,7,8,14] [] [(3, vi 0), (5, vi e1), (6, vl eI p1), (7, vi (p1.length : Int)), (8, vi x1), (14, vb (e1 != 0))] [] (zd ?_))))))
    refine m11 _ _ (zC h (fun b12 h => ?_) (fun b12 h => ?_))
    ·refine zq fun K13 m13 => zr (zg [] 2 [2] (zd (m13 _ _ (ze (hQ1 _ _ _ ?_)))))
     obtain rfl := zj h
     exact zf [vi e1] (.one (.rfl _ rfl))
    ·exact zs (m8 _ _ (zr (zg [] 2 [3,6,7,8] (zd (XR.sub (zk [3,6,7,8]) (ih1 (i64.wrap (x1 + 1)) h))))))
   ·exact zx 0 (hQ1 _ _ _ (j1 () h _ _ (zk [3])))
 exact XR.sub (zk [3,6,7,8]) (hL1 bf (0 : Int) h)
def aG (p1 p2 : (List ac)) : Option Int := aI (decide ((p1.length : Int) < (p2.length : Int))) (some (-1 : Int)) (some (0 : Int))
def ax (q_value_Compare : ac → ac → Option Int) (p1 p2 : (List ac)) : Nat → Int → Option Int
 | 0, _ => none
 | k1 + 1, x1 => aI (decide (x1 < (p1.length : Int))) (aT (at? p1 x1) fun e1 => aI (decide ((p2.length : Int) ≤ x1)) (some (1 : Int)) (aT (at? p2 x1) fun e2 => aT (q_value_Compare e1 e2) fun r1 => aI (r1 != 0) (some r1) ((ax q_value_Compare p1 p2 k1) (i64.wrap (x1 + 1))))) (aG p1 p2)
def fd (q_value_rest : ac → ac → Option Int) (p1 p2 : ac) : Option Int := aT (eP p1.n p2.n) fun r9 => aT (q_value_rest p1 p2) fun r10 => aT (jy [r9, r10]) fun r11 => some r11
def gj (q_value_rest : ac → ac → Option Int) (p1 p2 : ac) (r2 r3 x1 : Bool) : Option Int := aI x1 (aT (iR p1.n (i64.wrap ((12 : Int) - p1.scale))) fun r4 => aT (iR p2.n (i64.wrap ((12 : Int) - p2.scale))) fun r5 => aT (fl (ba.mk r4.neg (r4.size.1, r4.size.2.1, r4.size.2.2.1, r4.size.2.2.2)) (ba.mk r5.neg (r5.size.1, r5.size.2.1, r5.size.2.2.1, r5.size.2.2.2))) fun r6 => aT (q_value_rest p1 p2) fun r7 => aT (jy [r6, r7]) fun r8 => some r8) (aI r2 (some (-1 : Int)) (aI r3 (some (1 : Int)) (fd q_value_rest p1 p2)))
mutual
def aC : Nat → (List ac) → (List ac) → Option Int
 | 0, _, _ => none
 | k0 + 1, p1, p2 => ax (e9 k0) p1 p2 bf (0 : Int)
def e9 : Nat → ac → ac → Option Int
 | 0, _, _ => none
 | k0 + 1, p1, p2 => aI (p1.kind != p2.kind) (aI (p1.kind == 0) (some (1 : Int)) (aI (p2.kind == 0) (some (-1 : Int)) (aT (eP p1.kind p2.kind) fun r1 => some r1))) (aI (p1.kind == 0) (some (0 : Int)) (aI (p1.kind == 3) (aT (dw p1.scale (0 : Int) (12 : Int)) fun r2 => aT (dw p2.scale (0 : Int) (12 : Int)) fun r3 => aI r2 (gj (fm k0) p1 p2 r2 r3 r3) (gj (fm k0) p1 p2 r2 r3 false)) (fd (fm k0) p1 p2)))
def fm : Nat → ac → ac → Option Int
 | 0, _, _ => none
 | k0 + 1, p1, p2 => aT (eP p1.scale p2.scale) fun r1 => aT (fx p1.s p2.s) fun r2 => aT ((aC k0) p1.items p2.items) fun r3 => aT (jy [r1, r2, r3]) fun r4 => some r4
end
abbrev vM (p1 p2 : (List ac)) (x1 : Int) : Fr := [(0, vl aa p1), (1, vl aa p2), (2, .one (.pv (.fn 88 []))), (11, vl aa p1), (12, vi (p1.length : Int)), (13, vi (i64.wrap (x1 + 1)))]
abbrev Aa (p1 p2 : ac) (r9 : Int) : Fr := [(68, .ag (aD p2)), (67, .ag (aD p1)), (66, vi r9), (65, vi p2.n), (64, .one (.pv (.rp [(ae p2)] 0 1))), (63, vi p1.n), (62, .one (.pv (.rp [(ae p1)] 0 1))), (2, vR (ae p1)), (3, vR (ae p2))]
abbrev Ac (p1 p2 : ac) (r2 r3 x1 : Bool) (r4 r5 : ba) (r6 : Int) : Fr := [(54, .ag (aD p2)), (53, .ag (aD p1)), (52, vi r6), (51, .ag (bg r5)), (50, vi (i64.wrap ((12 : Int) - p2.scale))), (49, vi p2.scale), (48, .one (.pv (.rp [(ae p2)] 0 2))), (47, vi p2.n), (46, .one (.pv (.rp [(ae p2)] 0 1))), (45, .ag (bg r4)), (44, vi (i64.wrap ((12 : Int) - p1.scale))), (43, vi p1.scale), (42, .one (.pv (.rp [(ae p1)] 0 2))), (41, vi p1.n), (40, .one (.pv (.rp [(ae p1)] 0 1))), (2, vR (ae p1)), (3, vR (ae p2)), (5, vb r2), (6, vb r3), (35, vb x1)]
abbrev Bi (p1 p2 : ac) (r1 r2 : Int) : Fr := [(18, vl aa p2.items), (17, .one (.pv (.rp [(ae p2)] 0 4))), (16, vl aa p1.items), (15, .one (.pv (.rp [(ae p1)] 0 4))), (14, vi r2), (13, vs p2.s), (12, .one (.pv (.rp [(ae p2)] 0 3))), (11, vs p1.s), (10, .one (.pv (.rp [(ae p1)] 0 3))), (9, vi r1), (8, vi p2.scale), (7, .one (.pv (.rp [(ae p2)] 0 2))), (6, vi p1.scale), (5, .one (.pv (.rp [(ae p1)] 0 2))), (2, vR (ae p1)), (3, vR (ae p2))]
mutual
theorem cW : ∀ (k0 : Nat) (p1 p2 : (List ac)) (r : Int), aC k0 p1 p2 = some r → PC Tryz.prog 176 [vl aa p1, vl aa p2, .one (.pv (.fn 88 []))] (vi r)
 | 0, _, _, r, h => by rw [aC.eq_1] at h; cases h
 | k0 + 1, p1, p2, r, h => by
  rw [aC.eq_2] at h
  refine zF 39 Tryz.f176 (zq fun K1 m1 => zr (zg [8, 9] 1 [0,1,2] (zd (m1 _ _ (zq fun K2 m2 => ?_)))))
  have j1 : ∀ (_ : Unit), aG p1 p2 = some r → ∀ w0 w1, aL 39 0 [] w0 w1 [(0, vl aa p1), (1, vl aa p2)] [] → K2 w0 w1 := by
   intro _ h w0 w1 hS
   unfold aG at h
   refine m2 _ _ (XW.sub hS ?_)
   refine zq fun K21 m21 => zq fun K22 m22 => zr (zv [8, 9] 2 [1,35] [] [(1, vl aa p2), (35, vi ((aa.els p1).length : Int))] [] ?_)
   rw [aa.len p1]
   refine zv [8, 9] 2 [35,37] [] [(35, vi (p1.length : Int)), (37, vi ((aa.els p2).length : Int))] [] ?_
   rw [aa.len p2]
   refine zg [8, 9] 1 [38] (zd (m22 _ _ (zC h (fun b23 h => ?_) (fun b23 h => ?_))))
   ·refine zq fun K24 m24 => zr (zg [8, 9] 1 [6] (zd (m24 _ _ (ze ?_))))
    obtain rfl := zj h
    exact zf [vi (-1)] (.one (.rfl _ rfl))
   ·refine zs (m21 _ _ (zq fun K25 m25 => zr (zv [8, 9] 1 [6] [] [(6, vi 0)] [] (zd (m25 _ _ (ze ?_))))))
    obtain rfl := zj h
    exact zf [vi 0] (.one (.rfl _ rfl))
  refine zq fun K3 m3 => zr (zv [8, 9] 2 [0,1,2,11,12] [] [(0, vl aa p1), (1, vl aa p2), (2, .one (.pv (.fn 88 []))), (11, vl aa p1), (12, vi ((aa.els p1).length : Int))] [] ?_)
  rw [aa.len p1]
  refine zg [8, 9] 1 [0,1,2,11,12,13] (zd (m3 _ _ (zb 0 (XW.rounds' bf (x := cd Tryz.f176 [1,0,1,0,0]) (by kernel_rfl) fun Q1 hQ1 => ?_))))
  have hL1 : ∀ (k1 : Nat) (x1 : Int), ax (e9 k0) p1 p2 k1 x1 = some r → XR Tryz.prog 39 0 [] (cd Tryz.f176 [1,0,1,0,0]) Q1 k1 [(0, vl aa p1), (1, vl aa p2), (2, .one (.pv (.fn 88 []))), (11, vl aa p1), (12, vi (p1.length : Int)), (13, vi x1)] [] := by
   intro k1
   induction k1 with
   | zero => intro x1 h; rw [ax.eq_1] at h; cases h
   | succ k1 ih1 =>
    intro x1 h
    rw [ax.eq_2] at h
    refine zq fun K4 m4 => zr (zg [8, 9] 1 [0,1,2,11,12,13,14] (zd (m4 _ _ (zq fun K5 m5 => zC h (fun b6 h => ?_) (fun b6 h => ?_)))))
    ·refine zs (m5 _ _ (zq fun K7 m7 => zb 1 (zq fun K8 m8 => ?_)))
     obtain ⟨e1, a9, h⟩ := zB h
     refine zr (zo [8, 9] 6 [0,1,2,7,8,11,12,13] [[pi e1.kind, pi e1.n, pi e1.scale, .s (.string e1.s), .ro (aa.els e1.items)]] [0 ≤ x1 ∧ x1 < ((aa.els p1).length : Int) ∧ aq 5 (aa.els p1), (aa.els p1)[x1.toNat]? = some [pi e1.kind, pi e1.n, pi e1.scale, .s (.string e1.s), .ro (aa.els e1.items)]] (⟨aa.inb a9, ((aa.get a9).trans (by cases e1; rfl)), trivial⟩) (zd (m8 _ _ (zq fun K10 m10 => zq fun K11 m11 => zr ?_))))
     refine zv [8, 9] 3 [0,1,2,7,8,11,12,13,18,20] [] [(0, vl aa p1), (1, vl aa p2), (2, .one (.pv (.fn 88 []))), (7, vi x1), (8, vq 0), (11, vl aa p1), (12, vi (p1.length : Int)), (13, vi x1), (18, vi x1), (20, vi ((aa.els p2).length : Int))] [.box [ci e1.kind, ci e1.n, ci e1.scale, cj e1.s, cl aa e1.items]] ?_
     rw [aa.len p2]
     refine zg [8, 9] 1 [0,1,2,7,8,11,12,13,21] (zd (m11 _ _ (zC h (fun b12 h => ?_) (fun b12 h => ?_))))
     ·refine zq fun K13 m13 => zr (zg [8, 9] 1 [6] (zd (m13 _ _ (ze (hQ1 _ _ _ ?_)))))
      obtain rfl := zj h
      exact zf [vi 1] (.one (.rfl _ rfl))
     ·refine zs (m10 _ _ (zq fun K14 m14 => ?_))
      obtain ⟨e2, a15, h⟩ := zB h
      refine zr ?_
      refine zp [8, 9] 6 [0,1,2,8,9,11,12,13] [[pi e2.kind, pi e2.n, pi e2.scale, .s (.string e2.s), .ro (aa.els e2.items)]] [(0, vl aa p1), (1, vl aa p2), (2, .one (.pv (.fn 88 []))), (8, vq 0), (9, vq 1), (11, vl aa p1), (12, vi (p1.length : Int)), (13, vi x1)] [.box (aD e1), .box (aD e2)] [0 ≤ x1 ∧ x1 < ((aa.els p2).length : Int) ∧ aq 5 (aa.els p2), (aa.els p2)[x1.toNat]? = some [pi e2.kind, pi e2.n, pi e2.scale, .s (.string e2.s), .ro (aa.els e2.items)]] (⟨aa.inb a15, ((aa.get a15).trans (by cases e2; rfl)), trivial⟩) ?_
      refine zd (m14 _ _ (zq fun K16 m16 => ?_))
      obtain ⟨r1, c17, h⟩ := zB h
      refine zr (zg [8, 9] 3 [0,1,2,11,12,13,26,27,28] (za (kM k0 _ _ _ c17) (zv [8, 9] 1 [0,1,2,10,11,12,13] [] [(0, vl aa p1), (1, vl aa p2), (2, .one (.pv (.fn 88 []))), (10, vi r1), (11, vl aa p1), (12, vi (p1.length : Int)), (13, vi x1)] [.box (aD e1), .box (aD e2)] (zd (m16 _ _ (zq fun K18 m18 => zr ?_))))))
      refine zg [8, 9] 2 [0,1,2,10,11,12,13,31] (zd (m18 _ _ (zC h (fun b19 h => ?_) (fun b19 h => ?_))))
      ·refine zq fun K20 m20 => zr (zg [8, 9] 2 [6] (zd (m20 _ _ (ze (hQ1 _ _ _ ?_)))))
       obtain rfl := zj h
       exact zf [vi r1] (.one (.rfl _ rfl))
      ·refine zs (m7 _ _ (zr (zv [8, 9] 2 [0,1,2,11,12,13] [] (vM p1 p2 x1) [.box (aD e1), .box (aD e2)] (zd ?_))))
       exact XR.sub (aL.trans (aL.pick (fr' := (vM p1 p2 x1)) [0,1,2,11,12,13] (by kernel_rfl)) (aL.take (fr' := (vM p1 p2 x1)) 0 (Nat.zero_le _) (by kernel_rfl) (by kernel_rfl))) (ih1 (i64.wrap (x1 + 1)) h)
    ·exact zx 0 (hQ1 _ _ _ (j1 () h _ _ (zk [0,1])))
  exact XR.sub (zk [0,1,2,11,12,13]) (hL1 bf (0 : Int) h)
theorem kM : ∀ (k0 : Nat) (p1 p2 : ac) (r : Int), e9 k0 p1 p2 = some r → PC Tryz.prog 88 [.ag (aD p1), .ag (aD p2)] (vi r)
 | 0, _, _, r, h => by rw [e9.eq_1] at h; cases h
 | k0 + 1, p1, p2, r, h => by
  rw [e9.eq_2] at h
  refine zF 72 Tryz.f88 (zq fun K1 m1 => zr (zg [] 3 [2,3] (zd (m1 _ _ (zq fun K2 m2 => zq fun K3 m3 => ?_)))))
  refine zr (zu [] 5 [2,3,11] [(ae p1), (ae p2)] (zd (m3 _ _ (zC h (fun b4 h => ?_) (fun b4 h => ?_)))))
  ·refine zq fun K5 m5 => zq fun K6 m6 => zr (zv [] 3 [2,3,14] [(ae p1)] [(2, vR (ae p1)), (3, vR (ae p2)), (14, vb (p1.kind == 0))] [] (zd (m6 _ _ (zC h (fun b7 h => ?_) (fun b7 h => ?_)))))
   ·refine zq fun K8 m8 => zr (zg [] 1 [4] (zd (m8 _ _ (ze ?_))))
    obtain rfl := zj h
    exact zf [vi 1] (.one (.rfl _ rfl))
   ·refine zs (m5 _ _ (zq fun K9 m9 => zq fun K10 m10 => zr (zu [] 3 [2,3,17] [(ae p2)] (zd (m10 _ _ ?_)))))
    refine zC h (fun b11 h => ?_) (fun b11 h => ?_)
    ·refine zq fun K12 m12 => zr (zv [] 1 [4] [] [(4, vi (-1))] [] (zd (m12 _ _ (ze ?_))))
     obtain rfl := zj h
     exact zf [vi (-1)] (.one (.rfl _ rfl))
    ·refine zs (m9 _ _ (zq fun K13 m13 => ?_))
     obtain ⟨r1, c14, h⟩ := zB h
     refine zr (zu [] 4 [19,21] [(ae p1), (ae p2)] (za (jO _ _ _ c14) (zv [] 1 [4] [] [(4, vi r1)] [] (zd (m13 _ _ (ze ?_))))))
     obtain rfl := zj h
     exact zf [vi r1] (.one (.rfl _ rfl))
  ·refine zs (m2 _ _ (zq fun K15 m15 => ?_))
   have j2 : ∀ (_ : Unit), fd (fm k0) p1 p2 = some r → ∀ w0 w1, aL 72 0 [] w0 w1 [(2, vR (ae p1)), (3, vR (ae p2))] [] → K15 w0 w1 := by
    intro _ h w0 w1 hS
    unfold fd at h
    refine m15 _ _ (XW.sub hS ?_)
    refine zq fun K40 m40 => ?_
    obtain ⟨r9, c41, h⟩ := zB h
    obtain ⟨r10, c42, h⟩ := zB h
    obtain ⟨r11, c43, h⟩ := zB h
    refine zw 7 (Aa p1 p2 r9) ?_ ?_
    ·refine zH 4 [(ae p1), (ae p2)] (zT (jO _ _ _ c41) ?_)
     refine ut 2 [(ae p1), (ae p2)] (Aa p1 p2 r9) ?_
     exact lU
    refine za (oW k0 _ _ _ c42) (zg [] 1 [70] (zl 137 [vl eI [r9, r10]] (vi r11) [(71, vi r11), (70, vl eI [r9, r10])] (mJ _ _ c43) (zg [] 1 [4] (zd (m40 _ _ (ze ?_))))))
    obtain rfl := zj h
    exact zf [vi r11] (.one (.rfl _ rfl))
   refine zq fun K16 m16 => zr (zu [] 2 [2,3,24] [(ae p1)] (zd (m16 _ _ (zb 0 (zq fun K17 m17 => zr ?_)))))
   refine zg [] 2 [2,3,24,25] (zd (m17 _ _ (zC h (fun b18 h => ?_) (fun b18 h => ?_))))
   ·refine zq fun K19 m19 => zr (zv [] 1 [4] [] [(4, vi 0)] [] (zd (m19 _ _ (ze ?_))))
    obtain rfl := zj h
    exact zf [vi 0] (.one (.rfl _ rfl))
   ·refine zq fun K20 m20 => zr (zg [] 2 [2,3,27] (zd (m20 _ _ (zC h (fun b21 h => ?_) (fun b21 h => ?_)))))
    ·refine zq fun K22 m22 => ?_
     obtain ⟨r2, c23, h⟩ := zB h
     obtain ⟨r3, c24, h⟩ := zB h
     refine zw 5 [(33, vi p2.scale), (32, .one (.pv (.rp [(ae p2)] 0 2))), (31, vb r2), (30, vi p1.scale), (29, .one (.pv (.rp [(ae p1)] 0 2))), (2, vR (ae p1)), (3, vR (ae p2)), (27, vb (p1.kind == 3))] ?_ ?_
     ·refine zH 2 [(ae p1)] ?_
      refine DX.cal 114 [vi p1.scale, vi 0, vi 12] (vb r2) [(31, vb r2), (30, vi p1.scale), (29, .one (.pv (.rp [(ae p1)] 0 2))), (2, vR (ae p1)), (3, vR (ae p2)), (27, vb (p1.kind == 3))] (by kernel_rfl) (bm _ _ _ _ c23) rfl rfl (by kernel_rfl) ?_
      exact zH 2 [(ae p2)] lU
     refine za (bm _ _ _ _ c24) (zv [] 2 [2,3,5,6] [] [(2, vR (ae p1)), (3, vR (ae p2)), (5, vb r2), (6, vb r3)] [] (zd (m22 _ _ (zb 1 (zq fun K25 m25 => ?_)))))
     have j1 : ∀ (x1 : Bool), gj (fm k0) p1 p2 r2 r3 x1 = some r → ∀ w0 w1, aL 72 0 [] w0 w1 [(2, vR (ae p1)), (3, vR (ae p2)), (5, vb r2), (6, vb r3), (35, vb x1)] [] → K25 w0 w1 := by
      intro x1 h w0 w1 hS
      unfold gj at h
      refine m25 _ _ (XW.sub hS ?_)
      refine zC h (fun b27 h => ?_) (fun b27 h => ?_)
      ·refine zq fun K28 m28 => ?_
       obtain ⟨r4, c29, h⟩ := zB h
       obtain ⟨r5, c30, h⟩ := zB h
       obtain ⟨r6, c31, h⟩ := zB h
       obtain ⟨r7, c32, h⟩ := zB h
       obtain ⟨r8, c33, h⟩ := zB h
       refine zw 15 (Ac p1 p2 r2 r3 x1 r4 r5 r6) ?_ ?_
       ·refine zH 5 [(ae p1), (ae p1)] (zT (nr _ _ _ c29) ?_)
        refine ut 5 [(ae p2), (ae p2)] [(50, vi (i64.wrap ((12 : Int) - p2.scale))), (49, vi p2.scale), (48, .one (.pv (.rp [(ae p2)] 0 2))), (47, vi p2.n), (46, .one (.pv (.rp [(ae p2)] 0 1))), (45, .ag (bg r4)), (44, vi (i64.wrap ((12 : Int) - p1.scale))), (43, vi p1.scale), (42, .one (.pv (.rp [(ae p1)] 0 2))), (41, vi p1.n), (40, .one (.pv (.rp [(ae p1)] 0 1))), (2, vR (ae p1)), (3, vR (ae p2)), (5, vb r2), (6, vb r3), (35, vb x1)] ?_
        refine zT (nr _ _ _ c30) (zT (nt _ _ _ c31) ?_)
        refine ut 2 [(ae p1), (ae p2)] (Ac p1 p2 r2 r3 x1 r4 r5 r6) ?_
        exact lU
       refine za (oW k0 _ _ _ c32) (zg [] 1 [56] (zl 137 [vl eI [r6, r7]] (vi r8) [(57, vi r8), (56, vl eI [r6, r7])] (mJ _ _ c33) (zg [] 1 [4] (zd (m28 _ _ (ze ?_))))))
       obtain rfl := zj h
       exact zf [vi r8] (.one (.rfl _ rfl))
      ·refine zq fun K34 m34 => zr (zg [] 2 [2,3,6,58] (zd (m34 _ _ (zC h (fun b35 h => ?_) (fun b35 h => ?_)))))
       ·refine zq fun K36 m36 => zr (zv [] 1 [4] [] [(4, vi (-1))] [] (zd (m36 _ _ (ze ?_))))
        obtain rfl := zj h
        exact zf [vi (-1)] (.one (.rfl _ rfl))
       ·refine zq fun K37 m37 => zr (zg [] 2 [2,3,60] (zd (m37 _ _ (zC h (fun b38 h => ?_) (fun b38 h => ?_)))))
        ·refine zq fun K39 m39 => zr (zg [] 1 [4] (zd (m39 _ _ (ze ?_))))
         obtain rfl := zj h
         exact zf [vi 1] (.one (.rfl _ rfl))
        ·exact zs (j2 () h _ _ (zk [2,3]))
     rcases zW h with ⟨b26, h⟩ | ⟨b26, h⟩
     ·exact zr (zg [] 2 [2,3,5,6,37] (zt 37 b26 (zg [] 3 [2,3,5,6,35] (zd (j1 r3 h _ _ (zk [2,3,5,6,35]))))))
     ·exact zr (zv [] 2 [2,3,5,6,37] [] [(2, vR (ae p1)), (3, vR (ae p2)), (5, vb r2), (6, vb r3), (37, vb r2)] [] (zt 37 b26 (zg [] 3 [2,3,5,6,35] (zd (j1 false h _ _ (zk [2,3,5,6,35]))))))
    ·exact zs (j2 () h _ _ (zk [2,3]))
theorem oW : ∀ (k0 : Nat) (p1 p2 : ac) (r : Int), fm k0 p1 p2 = some r → PC Tryz.prog 140 [.ag [ci p1.kind, ci p1.n, ci p1.scale, cj p1.s, cl aa p1.items], .ag [ci p2.kind, ci p2.n, ci p2.scale, cj p2.s, cl aa p2.items]] (vi r)
 | 0, _, _, r, h => by rw [fm.eq_1] at h; cases h
 | k0 + 1, p1, p2, r, h => by
  rw [fm.eq_2] at h
  refine zF 22 Tryz.f140 (zq fun K1 m1 => zr (zg [] 3 [2,3] (zd (m1 _ _ (zq fun K2 m2 => ?_)))))
  obtain ⟨r1, c3, h⟩ := zB h
  obtain ⟨r2, c4, h⟩ := zB h
  obtain ⟨r3, c5, h⟩ := zB h
  obtain ⟨r4, c6, h⟩ := zB h
  refine zw 14 (Bi p1 p2 r1 r2) ?_ ?_
  ·refine zH 4 [(ae p1), (ae p2)] ?_
   refine DX.cal 136 [vi p1.scale, vi p2.scale] (vi r1) [(9, vi r1), (8, vi p2.scale), (7, .one (.pv (.rp [(ae p2)] 0 2))), (6, vi p1.scale), (5, .one (.pv (.rp [(ae p1)] 0 2))), (2, vR (ae p1)), (3, vR (ae p2))] (by kernel_rfl) (jO _ _ _ c3) rfl rfl (by kernel_rfl) ?_
   refine zH 4 [(ae p1), (ae p2)] (zT (nG _ _ _ c4) ?_)
   refine ut 4 [(ae p1), (ae p2)] (Bi p1 p2 r1 r2) ?_
   exact lU
  refine za (cW k0 _ _ _ c5) (zv [] 1 [20] [] [(20, vl eI [r1, r2, r3])] [] (za (mJ _ _ c6) (zg [] 1 [4] (zd (m2 _ _ (ze ?_))))))
  obtain rfl := zj h
  exact zf [vi r4] (.one (.rfl _ rfl))
end
def fK (x1 : Bool) : Option Bool := some x1
def ir (p1 p2 : ac) : Option Bool := aT (e9 bf p1 p2) fun r1 => aI (r1 == 0) (aT (jE p2) fun r2 => fK r2) (fK false)
theorem pS (p1 p2 : ac) (r : Bool) (h : ir p1 p2 = some r) : PC Tryz.prog 146 [.ag (aD p1), .ag (aD p2)] (vb r) := by
 unfold ir at h
 refine zF 13 Tryz.f146 (zq fun K1 m1 => zr (zg [] 3 [2,3] (zd (m1 _ _ (zq fun K2 m2 => ?_)))))
 have j1 : ∀ (x1 : Bool), fK x1 = some r → ∀ w0 w1, aL 13 0 [] w0 w1 [(4, vb x1)] [] → K2 w0 w1 := by
  intro x1 h w0 w1 hS
  unfold fK at h
  refine m2 _ _ (XW.sub hS ?_)
  refine ze ?_
  obtain rfl := zj h
  exact zf [vb x1] (.one (.rfl _ rfl))
 obtain ⟨r1, c3, h⟩ := zB h
 rcases zW h with ⟨b4, h⟩ | ⟨b4, h⟩
 ·obtain ⟨r2, c5, h⟩ := zB h
  refine zr (zu [] 2 [3,5,6] [[pi p1.kind, pi p1.n, pi p1.scale, .s (.string p1.s), .ro (aa.els p1.items)], (ae p2)] ?_)
  refine zl 88 [.ag (aD p1), .ag (aD p2)] (vi r1) [(7, vi r1), (3, vR (ae p2)), (5, .ag (aD p1)), (6, .ag (aD p2))] (kM bf _ _ _ c3) (zg [] 2 [3,9] (zt 9 b4 (zu [] 1 [9,10] [(ae p2)] ?_)))
  exact zl 27 [.ag (aD p2)] (vb r2) [(11, vb r2), (9, vb true), (10, .ag (aD p2))] (ov _ _ c5) (zg [] 2 [4] (zd (j1 r2 h _ _ (zk [4]))))
 ·refine zr (zu [] 2 [3,5,6] [[pi p1.kind, pi p1.n, pi p1.scale, .s (.string p1.s), .ro (aa.els p1.items)], (ae p2)] ?_)
  exact zl 88 [.ag (aD p1), .ag (aD p2)] (vi r1) [(7, vi r1), (3, vR (ae p2)), (5, .ag (aD p1)), (6, .ag (aD p2))] (kM bf _ _ _ c3) (zg [] 2 [3,9] (zt 9 b4 (zg [] 4 [4] (zd (j1 false h _ _ (zk [4]))))))
def bb : Option Bool := some true
def am (p1 p2 : (List ac)) : Nat → Int → Option Bool
 | 0, _ => none
 | k1 + 1, x1 => aI (decide (x1 < (p1.length : Int))) (aT (at? p1 x1) fun e1 => aT (at? p2 x1) fun e2 => aT (ir e1 e2) fun r1 => aI (!r1) (some false) ((am p1 p2 k1) (i64.wrap (x1 + 1)))) (bb)
def aE (p1 p2 : (List ac)) : Option Bool := aI ((p1.length : Int) != (p2.length : Int)) (some false) (am p1 p2 bf (0 : Int))
abbrev Bk (p1 p2 : (List ac)) (x1 : Int) : Fr := [(1, vl aa p2), (2, .one (.pv (.fn 146 []))), (15, vl aa p1), (16, vi (p1.length : Int)), (17, vi (i64.wrap (x1 + 1)))]
abbrev AO (e1 e2 : ac) : St := [.box [ci e1.kind, ci e1.n, ci e1.scale, cj e1.s, cl aa e1.items], .box [ci e2.kind, ci e2.n, ci e2.scale, cj e2.s, cl aa e2.items]]
theorem cY (p1 p2 : (List ac)) (r : Bool) (h : aE p1 p2 = some r) : PC Tryz.prog 148 [vl aa p1, vl aa p2, .one (.pv (.fn 146 []))] (vb r) := by
 unfold aE at h
 refine zF 32 Tryz.f148 (zq fun K1 m1 => zr (zg [8, 9] 1 [0,1,2] (zd (m1 _ _ (zq fun K2 m2 => zq fun K3 m3 => ?_)))))
 refine zr (zv [8, 9] 2 [0,1,2,11] [] [(0, vl aa p1), (1, vl aa p2), (2, .one (.pv (.fn 146 []))), (11, vi ((aa.els p1).length : Int))] [] ?_)
 rw [aa.len p1]
 refine zv [8, 9] 2 [0,1,2,11,13] [] [(0, vl aa p1), (1, vl aa p2), (2, .one (.pv (.fn 146 []))), (11, vi (p1.length : Int)), (13, vi ((aa.els p2).length : Int))] [] ?_
 rw [aa.len p2]
 refine zg [8, 9] 1 [0,1,2,14] (zd (m3 _ _ (zC h (fun b4 h => ?_) (fun b4 h => ?_))))
 ·refine zq fun K5 m5 => zr (zg [8, 9] 1 [6] (zd (m5 _ _ (ze ?_))))
  obtain rfl := zj h
  exact zf [vb false] (.one (.rfl _ rfl))
 ·refine zs (m2 _ _ (zq fun K6 m6 => ?_))
  have j1 : ∀ (_ : Unit), bb = some r → ∀ w0 w1, aL 32 0 [] w0 w1 [] [] → K6 w0 w1 := by
   intro _ h w0 w1 hS
   unfold bb at h
   refine m6 _ _ (XW.sub hS ?_)
   refine zq fun K20 m20 => zr (zg [8, 9] 1 [6] (zd (m20 _ _ (ze ?_))))
   obtain rfl := zj h
   exact zf [vb true] (.one (.rfl _ rfl))
  refine zq fun K7 m7 => zr (zv [8, 9] 2 [1,2,15,16] [] [(1, vl aa p2), (2, .one (.pv (.fn 146 []))), (15, vl aa p1), (16, vi ((aa.els p1).length : Int))] [] ?_)
  rw [aa.len p1]
  refine zg [8, 9] 1 [1,2,15,16,17] (zd (m7 _ _ (zb 0 (XW.rounds' bf (x := cd Tryz.f148 [1,1,0,1,0,0]) (by kernel_rfl) fun Q1 hQ1 => ?_))))
  have hL1 : ∀ (k1 : Nat) (x1 : Int), am p1 p2 k1 x1 = some r → XR Tryz.prog 32 0 [] (cd Tryz.f148 [1,1,0,1,0,0]) Q1 k1 [(1, vl aa p2), (2, .one (.pv (.fn 146 []))), (15, vl aa p1), (16, vi (p1.length : Int)), (17, vi x1)] [] := by
   intro k1
   induction k1 with
   | zero => intro x1 h; rw [am.eq_1] at h; cases h
   | succ k1 ih1 =>
    intro x1 h
    rw [am.eq_2] at h
    refine zq fun K8 m8 => zr (zg [8, 9] 1 [1,2,15,16,17,18] (zd (m8 _ _ (zq fun K9 m9 => zC h (fun b10 h => ?_) (fun b10 h => ?_)))))
    ·refine zs (m9 _ _ (zq fun K11 m11 => zb 1 (zq fun K12 m12 => ?_)))
     obtain ⟨e1, a13, h⟩ := zB h
     refine zr (zo [8, 9] 6 [1,2,7,8,15,16,17] [[pi e1.kind, pi e1.n, pi e1.scale, .s (.string e1.s), .ro (aa.els e1.items)]] [0 ≤ x1 ∧ x1 < ((aa.els p1).length : Int) ∧ aq 5 (aa.els p1), (aa.els p1)[x1.toNat]? = some [pi e1.kind, pi e1.n, pi e1.scale, .s (.string e1.s), .ro (aa.els e1.items)]] (⟨aa.inb a13, ((aa.get a13).trans (by cases e1; rfl)), trivial⟩) (zd (m12 _ _ (zq fun K14 m14 => ?_))))
     obtain ⟨e2, a15, h⟩ := zB h
     refine zr ?_
     refine zp [8, 9] 6 [1,2,8,9,15,16,17] [[pi e2.kind, pi e2.n, pi e2.scale, .s (.string e2.s), .ro (aa.els e2.items)]] [(1, vl aa p2), (2, .one (.pv (.fn 146 []))), (8, vq 0), (9, vq 1), (15, vl aa p1), (16, vi (p1.length : Int)), (17, vi x1)] (AO e1 e2) [0 ≤ x1 ∧ x1 < ((aa.els p2).length : Int) ∧ aq 5 (aa.els p2), (aa.els p2)[x1.toNat]? = some [pi e2.kind, pi e2.n, pi e2.scale, .s (.string e2.s), .ro (aa.els e2.items)]] (⟨aa.inb a15, ((aa.get a15).trans (by cases e2; rfl)), trivial⟩) ?_
     refine zd (m14 _ _ (zq fun K16 m16 => ?_))
     obtain ⟨r1, c17, h⟩ := zB h
     refine zr (zg [8, 9] 3 [1,2,15,16,17,26,27,28] (za (pS _ _ _ c17) (zv [8, 9] 1 [1,2,15,16,17,30] [] [(1, vl aa p2), (2, .one (.pv (.fn 146 []))), (15, vl aa p1), (16, vi (p1.length : Int)), (17, vi x1), (30, vb (!r1))] (AO e1 e2) (zd (m16 _ _ (zC h (fun b18 h => ?_) (fun b18 h => ?_)))))))
     ·refine zq fun K19 m19 => zr (zg [8, 9] 1 [6] (zd (m19 _ _ (ze (hQ1 _ _ _ ?_)))))
      obtain rfl := zj h
      exact zf [vb false] (.one (.rfl _ rfl))
     ·exact zs (m11 _ _ (zr (zg [8, 9] 2 [1,2,15,16,17] (zd (XR.sub (aL.trans (aL.pick (fr' := (Bk p1 p2 x1)) [1,2,15,16,17] (by kernel_rfl)) (aL.take (fr' := (Bk p1 p2 x1)) 0 (Nat.zero_le _) (by kernel_rfl) (by kernel_rfl))) (ih1 (i64.wrap (x1 + 1)) h))))))
    ·exact zx 0 (hQ1 _ _ _ (j1 () h _ _ (zk [])))
  exact XR.sub (zk [1,2,15,16,17]) (hL1 bf (0 : Int) h)
def fG (x1 : Bool) : Option Bool := some x1
def jM (p1 p2 : ak) : Option Bool := aT (dQ p1.reps p2.reps) fun r1 => aI r1 (aT (dQ p1.defs p2.defs) fun r2 => aI r2 (aT (aE p1.values p2.values) fun r3 => fG r3) (fG false)) (fG false)
abbrev iX (p1 : ak) : List PV := [.ro (eI.els p1.reps), .ro (eI.els p1.defs), .ro (aa.els p1.values)]
abbrev wW (p1 p2 : ak) : Fr := [(2, vR (iX p1)), (3, vR (iX p2)), (5, .one (.pv (.fn 146 []))), (7, vl eI p1.reps), (9, vl eI p2.reps)]
abbrev Af (p1 p2 : ak) : Fr := [(2, vR (iX p1)), (3, vR (iX p2)), (5, .one (.pv (.fn 146 []))), (11, vb true), (13, vl eI p1.defs), (15, vl eI p2.defs)]
theorem q9 (p1 p2 : ak) (r : Bool) (h : jM p1 p2 = some r) : PC Tryz.prog 100 [.ag [cl eI p1.reps, cl eI p1.defs, cl aa p1.values], .ag [cl eI p2.reps, cl eI p2.defs, cl aa p2.values]] (vb r) := by
 unfold jM at h
 refine zF 26 Tryz.f100 (zq fun K1 m1 => zr (zg [] 3 [2,3] (zd (m1 _ _ (zq fun K2 m2 => zr ?_)))))
 refine zg [] 1 [2,3,5] (zd (m2 _ _ (zq fun K3 m3 => ?_)))
 have j1 : ∀ (x1 : Bool), fG x1 = some r → ∀ w0 w1, aL 26 0 [] w0 w1 [(4, vb x1)] [] → K3 w0 w1 := by
  intro x1 h w0 w1 hS
  unfold fG at h
  refine m3 _ _ (XW.sub hS ?_)
  refine ze ?_
  obtain rfl := zj h
  exact zf [vb x1] (.one (.rfl _ rfl))
 obtain ⟨r1, c4, h⟩ := zB h
 rcases zW h with ⟨b5, h⟩ | ⟨b5, h⟩
 ·obtain ⟨r2, c6, h⟩ := zB h
  rcases zW h with ⟨b7, h⟩ | ⟨b7, h⟩
  ·obtain ⟨r3, c8, h⟩ := zB h
   refine zr (zv [] 4 [2,3,5,7,9] [(iX p1), (iX p2)] (wW p1 p2) [] (za (dZ _ _ _ c4) (zg [] 1 [2,3,5,11] (zt 11 b5 ?_))))
   refine zv [] 4 [2,3,5,11,13,15] [(iX p1), (iX p2)] (Af p1 p2) [] (za (dZ _ _ _ c6) (zg [] 2 [2,3,5,18] (zt 18 b7 ?_)))
   exact zv [] 5 [18,20,22,23] [(iX p1), (iX p2)] [(18, vb true), (20, vl aa p1.values), (22, vl aa p2.values), (23, .one (.pv (.fn 146 [])))] [] (za (cY _ _ _ c8) (zg [] 2 [4] (zd (j1 r3 h _ _ (zk [4])))))
  ·refine zr (zv [] 4 [2,3,5,7,9] [(iX p1), (iX p2)] (wW p1 p2) [] (za (dZ _ _ _ c4) (zg [] 1 [2,3,5,11] (zt 11 b5 ?_))))
   refine zv [] 4 [2,3,5,11,13,15] [(iX p1), (iX p2)] (Af p1 p2) [] (za (dZ _ _ _ c6) (zg [] 2 [2,3,5,18] (zt 18 b7 (zv [] 8 [4] [] [(4, vb false)] [] (zd ?_)))))
   exact j1 false h _ _ (zk [4])
 ·exact zr (zv [] 4 [2,3,5,7,9] [(iX p1), (iX p2)] (wW p1 p2) [] (za (dZ _ _ _ c4) (zg [] 1 [2,3,5,11] (zt 11 b5 (zv [] 15 [4] [] [(4, vb false)] [] (zd (j1 false h _ _ (zk [4]))))))))
def cq (p1 : (List (List ac))) : Option (List (List ac)) := fL (0 ≤ (0 : Int) ∧ (0 : Int) ≤ (p1.length : Int) ∧ (p1.length : Int) ≤ (p1.length : Int) ∧ (p1.length : Int) ≤ (p1.length : Int)) <| some ((p1.drop (0 : Int).toNat).take ((p1.length : Int).toNat - (0 : Int).toNat))
theorem iC (p1 r : (List (List ac))) (h : cq p1 = some r) : PC Tryz.prog 101 [vl (eL aa) p1] (vl (eL aa) r) := by
 unfold cq at h
 refine zF 9 Tryz.f101 (zq fun K1 m1 => zr (zg [] 1 [0] (zd (m1 _ _ (zq fun K2 m2 => ?_)))))
 obtain ⟨g3, h⟩ := zG h
 refine zr (zv [] 3 [0,3,5] [] [(0, vl (eL aa) p1), (3, vl (eL aa) p1), (5, vi (((eL aa).els p1).length : Int))] [] ?_)
 rw [(eL aa).len p1]
 refine zv [] 2 [3,5,7] [] [(3, vl (eL aa) p1), (5, vi (p1.length : Int)), (7, vi (((eL aa).els p1).length : Int))] [] ?_
 rw [(eL aa).len p1]
 refine zp [] 1 [8] [] [(8, .one (.pv (.ro ((((eL aa).els p1).drop (0 : Int).toNat).take ((p1.length : Int).toNat - (0 : Int).toNat)))))] [] [(0 ≤ (0 : Int) ∧ (0 : Int) ≤ (p1.length : Int) ∧ (p1.length : Int) ≤ (p1.length : Int) ∧ (p1.length : Int) ≤ (((eL aa).els p1).length : Int)) ∧ aq 1 ((eL aa).els p1)] (⟨(eL aa).cutMOk g3, trivial⟩) ?_
 rw [show (((eL aa).els p1).drop (0 : Int).toNat).take ((p1.length : Int).toNat - (0 : Int).toNat) = (eL aa).els ((p1.drop (0 : Int).toNat).take ((p1.length : Int).toNat - (0 : Int).toNat)) from (eL aa).cut _ _ _]
 refine zg [] 1 [2] (zd (m2 _ _ (ze ?_)))
 obtain rfl := zj h
 exact zf [vl (eL aa) ((p1.drop (0 : Int).toNat).take ((p1.length : Int).toNat - (0 : Int).toNat))] (.one (.rfl _ rfl))
end Go.Proofs.YtmaemlebpjnmoaaGreatDoor
namespace Go.Proofs.YtmaemlebpjnmoaaGreatDoor
open Go.SX Go
open Go.IntKind (i64 u64 u8 i32 u32)
set_option maxRecDepth 100000
set_option maxHeartbeats 8000000
def gH (rec1 : List Int → List Int → List (List ac) → List ak → Bool → Option ((List (List ac)) × Bool)) (l3 : List (List ac)) (l7 l8 : List Int) (l9 : List ac) (z5 : List ak) (z6 : Bool) : Option ((List (List ac)) × Bool) := aT (bp l9) fun r3 => fL (l3.length + 1 ≤ 4294967296) <| rec1 l7 l8 (l3 ++ [r3]) z5 z6
def cK (rec1 : List Int → List Int → List (List ac) → List ak → Bool → Option ((List (List ac)) × Bool)) (p1 : (List ah)) (l3 : List (List ac)) : Nat → List Int → List Int → List ac → List ak → Bool → Int → Int → Option ((List (List ac)) × Bool)
 | 0, _, _, _, _, _, _, _ => none
 | k2 + 1, l4, l5, l6, z3, z4, x2, x3 => aI (decide (x3 < (p1.length : Int))) (aT (at? p1 x3) fun e3 => aT (aN bf e3 x2 (0 : Int) (0 : Int) z3 z4 l4 l5) fun r1 => fL (r1.2.2.2.1.length = l4.length) <| fL (r1.2.2.2.2.length = l5.length) <| fL (l6.length + 1 ≤ 4294967296) <| aT (dk bf e3.type) fun r2 => (cK rec1 p1 l3 k2) r1.2.2.2.1 r1.2.2.2.2 (l6 ++ [r1.1]) r1.2.1 r1.2.2.1 (i64.wrap (x2 + r2)) (i64.wrap (x3 + 1))) (gH rec1 l3 l4 l5 l6 z3 z4)
def gM (l12 : List (List ac)) : Option ((List (List ac)) × Bool) := aT (cq l12) fun r8 => some (r8, true)
def dc (p2 : (List ak)) (l12 : List (List ac)) (r5 : (List bc)) : Nat → Int → Option ((List (List ac)) × Bool)
 | 0, _ => none
 | k3 + 1, x5 => aI (decide (x5 < (r5.length : Int))) (aT (at? r5 x5) fun e4 => aT (jW e4 l12) fun r6 => aT (at? p2 x5) fun e5 => aT (jM r6 e5) fun r7 => aI (!r7) (some ([], false)) ((dc p2 l12 r5 k3) (i64.wrap (x5 + 1)))) (gM l12)
def fq (p1 : (List ah)) (p2 : (List ak)) (l12 : List (List ac)) (x4 : Bool) : Option ((List (List ac)) × Bool) := aI x4 (some ([], false)) (aT (gG p1) fun r5 => dc p2 l12 r5 bf (0 : Int))
def gN (p1 : (List ah)) (p2 : (List ak)) (l10 l11 : List Int) (l12 : List (List ac)) (z7 : List ak) (z8 : Bool) : Option ((List (List ac)) × Bool) := aI z8 (fq p1 p2 l12 true) (aT (fb p1 l12) fun r4 => fq p1 p2 l12 (r4 != 0))
def em (rec1 : List Int → List Int → List (List ac) → List ak → Bool → Option ((List (List ac)) × Bool)) (p1 : (List ah)) (p2 : (List ak)) (l1 l2 : List Int) (l3 : List (List ac)) (z1 : List ak) (z2 x1 : Bool) : Option ((List (List ac)) × Bool) := aI x1 (cK rec1 p1 l3 bf l1 l2 [] z1 z2 (0 : Int) (0 : Int)) (gN p1 p2 l1 l2 l3 z1 z2)
def bC (p1 : (List ah)) (p2 : (List ak)) : Nat → List Int → List Int → List (List ac) → List ak → Bool → Option ((List (List ac)) × Bool)
 | 0, _, _, _, _, _ => none
 | k1 + 1, l1, l2, l3, z1, z2 => aI (!z2) (aT (at? l1 (0 : Int)) fun e1 => aT (at? p2 (0 : Int)) fun e2 => em (bC p1 p2 k1) p1 p2 l1 l2 l3 z1 z2 (decide (e1 < (e2.reps.length : Int)))) (em (bC p1 p2 k1) p1 p2 l1 l2 l3 z1 z2 false)
def jn (p1 : (List ah)) (p2 : (List ak)) : Option ((List (List ac)) × Bool) := fL (0 ≤ (p2.length : Int) ∧ (p2.length : Int) ≤ (p2.length : Int) ∧ (p2.length : Int) ≤ 4294967296) <| fL (0 ≤ (p2.length : Int) ∧ (p2.length : Int) ≤ (p2.length : Int) ∧ (p2.length : Int) ≤ 4294967296) <| bC p1 p2 bf (List.replicate (p2.length : Int).toNat (0 : Int)) (List.replicate (p2.length : Int).toNat (0 : Int)) [] p2 false
abbrev p9 : St := [.dead, .dead, .dead, .dead]
abbrev wx (p2 : (List ak)) (l12 : List (List ac)) (r5 : (List bc)) (x5 : Int) : Fr := [(1, vl af p2), (7, vl (eL aa) l12), (77, vl bo r5), (78, vi (r5.length : Int)), (79, vi (i64.wrap (x5 + 1)))]
abbrev wo (l10 l11 : List Int) (l12 : List (List ac)) (z7 : List ak) (z8 : Bool) : St := [.arr 1 (eI.els l10), .arr 1 (eI.els l11), .box [cl af z7, .sl 0 1 0 l10.length, .sl 1 1 0 l11.length, cb z8], .arr 1 ((eL aa).els l12)]
theorem pc (p1 : (List ah)) (p2 : (List ak)) (r : ((List (List ac)) × Bool)) (h : jn p1 p2 = some r) : PC Tryz.prog 53 [vl ab p1, vl af p2] (.tp [vl (eL aa) r.1, vb r.2]) := by
 unfold jn at h
 refine zF 96 Tryz.f53 (zq fun K1 m1 => zr (zv [11, 13, 22] 2 [0,1] [] [(0, vl ab p1), (1, vl af p2)] [] (zd (m1 _ _ (zq fun K2 m2 => ?_)))))
 obtain ⟨g4, h⟩ := zG h
 obtain ⟨g6, h⟩ := zG h
 refine XW.sub (aL.dead 2) (XW.drwG 7 [0, 1, 2] [([], []), ([], []), ([], []), ([0, 1000], [0, 1000]), ([], []), ([], []), ([1, 1001], [1, 1001])] [(20, .one (.sl 1 1 0 ((p2.length : Int).toNat))), (19, vi (p2.length : Int)), (18, vl af p2), (17, .one (.sl 0 1 0 ((p2.length : Int).toNat))), (16, vi (p2.length : Int)), (15, vl af p2), (14, vl af p2), (0, vl ab p1), (1, vl af p2)] [.arr 1 (eI.els (List.replicate (p2.length : Int).toNat (0 : Int))), .arr 1 (eI.els (List.replicate (p2.length : Int).toNat (0 : Int)))] (by kernel_rfl) (by kernel_rfl) ?_ ?_)
 ·refine qE 3 [] [(16, vi ((af.els p2).length : Int)), (15, vl af p2), (14, vl af p2), (0, vl ab p1), (1, vl af p2)] ?_
  rw [af.len p2]
  refine GY.new false 0 [] [(17, .one (.sl 0 1 0 ((p2.length : Int).toNat))), (16, vi (p2.length : Int)), (15, vl af p2), (14, vl af p2), (0, vl ab p1), (1, vl af p2)] [0] [.arr 1 (List.replicate (p2.length : Int).toNat [pi 0]), .dead] [0 ≤ (p2.length : Int), (p2.length : Int) ≤ (p2.length : Int), (p2.length : Int) ≤ 4294967296] (by kernel_rfl) (by kernel_rfl) (⟨g4.1, g4.2.1, g4.2.2, trivial⟩) (by kernel_rfl) ?_
  rw [show List.replicate (p2.length : Int).toNat [pi 0] = eI.els (List.replicate (p2.length : Int).toNat (0 : Int)) from eI.rep _ (0 : Int)]
  refine qE 2 [] [(19, vi ((af.els p2).length : Int)), (18, vl af p2), (17, .one (.sl 0 1 0 ((p2.length : Int).toNat))), (16, vi (p2.length : Int)), (15, vl af p2), (14, vl af p2), (0, vl ab p1), (1, vl af p2)] ?_
  rw [af.len p2]
  refine GY.new false 1 [] [(20, .one (.sl 1 1 0 ((p2.length : Int).toNat))), (19, vi (p2.length : Int)), (18, vl af p2), (17, .one (.sl 0 1 0 ((p2.length : Int).toNat))), (16, vi (p2.length : Int)), (15, vl af p2), (14, vl af p2), (0, vl ab p1), (1, vl af p2)] [1] [.arr 1 (eI.els (List.replicate (p2.length : Int).toNat (0 : Int))), .arr 1 (List.replicate (p2.length : Int).toNat [pi 0])] [0 ≤ (p2.length : Int), (p2.length : Int) ≤ (p2.length : Int), (p2.length : Int) ≤ 4294967296] (by kernel_rfl) (by kernel_rfl) (⟨g6.1, g6.2.1, g6.2.2, trivial⟩) (by kernel_rfl) ?_
  rw [show List.replicate (p2.length : Int).toNat [pi 0] = eI.els (List.replicate (p2.length : Int).toNat (0 : Int)) from eI.rep _ (0 : Int)]
  exact GY.done (by kernel_rfl) (by kernel_rfl)
 refine zv [11, 13, 22] 3 [0,1,6] [] [(0, vl ab p1), (1, vl af p2), (6, vq 2)] [.arr 1 (eI.els (List.replicate (p2.length : Int).toNat (0 : Int))), .arr 1 (eI.els (List.replicate (p2.length : Int).toNat (0 : Int))), .box [cl af p2, .sl 0 1 0 ((p2.length : Int).toNat), .sl 1 1 0 ((p2.length : Int).toNat), cb false]] ?_
 refine XO.sub (aL.eq (fr' := [(0, vl ab p1), (1, vl af p2), (6, vq 2)]) (st' := [.arr 1 (eI.els (List.replicate (p2.length : Int).toNat (0 : Int))), .arr 1 (eI.els (List.replicate (p2.length : Int).toNat (0 : Int))), .box [cl af p2, .sl 0 1 0 ((List.replicate (p2.length : Int).toNat (0 : Int)).length), .sl 1 1 0 ((p2.length : Int).toNat), cb false]]) rfl (show ([.arr 1 (eI.els (List.replicate (p2.length : Int).toNat (0 : Int))), .arr 1 (eI.els (List.replicate (p2.length : Int).toNat (0 : Int))), .box [cl af p2, .sl 0 1 0 ((p2.length : Int).toNat), .sl 1 1 0 ((p2.length : Int).toNat), cb false]] : St) = [.arr 1 (eI.els (List.replicate (p2.length : Int).toNat (0 : Int))), .arr 1 (eI.els (List.replicate (p2.length : Int).toNat (0 : Int))), .box [cl af p2, .sl 0 1 0 ((List.replicate (p2.length : Int).toNat (0 : Int)).length), .sl 1 1 0 ((p2.length : Int).toNat), cb false]] from by simp only [List.length_replicate])) ?_
 refine XO.sub (aL.eq (fr' := [(0, vl ab p1), (1, vl af p2), (6, vq 2)]) (st' := [.arr 1 (eI.els (List.replicate (p2.length : Int).toNat (0 : Int))), .arr 1 (eI.els (List.replicate (p2.length : Int).toNat (0 : Int))), .box [cl af p2, .sl 0 1 0 ((List.replicate (p2.length : Int).toNat (0 : Int)).length), .sl 1 1 0 ((List.replicate (p2.length : Int).toNat (0 : Int)).length), cb false]]) rfl (show ([.arr 1 (eI.els (List.replicate (p2.length : Int).toNat (0 : Int))), .arr 1 (eI.els (List.replicate (p2.length : Int).toNat (0 : Int))), .box [cl af p2, .sl 0 1 0 ((List.replicate (p2.length : Int).toNat (0 : Int)).length), .sl 1 1 0 ((p2.length : Int).toNat), cb false]] : St) = [.arr 1 (eI.els (List.replicate (p2.length : Int).toNat (0 : Int))), .arr 1 (eI.els (List.replicate (p2.length : Int).toNat (0 : Int))), .box [cl af p2, .sl 0 1 0 ((List.replicate (p2.length : Int).toNat (0 : Int)).length), .sl 1 1 0 ((List.replicate (p2.length : Int).toNat (0 : Int)).length), cb false]] from by simp only [List.length_replicate])) ?_
 refine zd (m2 _ _ (zq fun K7 m7 => zr (zg [11, 13, 22] 1 [0,1,6,7] (zd (m7 _ _ (zq fun K8 m8 => ?_))))))
 have j3 : ∀ (l10 l11 : List Int) (l12 : List (List ac)) (z7 : List ak) (z8 : Bool), gN p1 p2 l10 l11 l12 z7 z8 = some r → ∀ w0 w1, aL 96 0 [] w0 w1 [(0, vl ab p1), (1, vl af p2), (6, vq 2), (7, .one (.sl 3 1 0 l12.length))] (wo l10 l11 l12 z7 z8) → K8 w0 w1 := by
  intro l10 l11 l12 z7 z8 h w0 w1 hS
  unfold gN at h
  refine m8 _ _ (XW.sub hS ?_)
  refine zq fun K33 m33 => zq fun K34 m34 => ?_
  have j4 : ∀ (x4 : Bool), fq p1 p2 l12 x4 = some r → ∀ w0 w1, aL 96 0 [] w0 w1 [(0, vl ab p1), (1, vl af p2), (7, vl (eL aa) l12), (75, vb x4)] p9 → K34 w0 w1 := by
   intro x4 h w0 w1 hS
   unfold fq at h
   refine m34 _ _ (XW.sub hS ?_)
   refine zC h (fun b37 h => ?_) (fun b37 h => ?_)
   ·refine zq fun K38 m38 => zr (zg [11, 13, 22] 2 [4,5] (zd (m38 _ _ (ze ?_))))
    obtain rfl := zj h
    exact zf [.one (.pv (.s (.slice none 0 0))), vb false] (.tpc (.one (.nl)) (.tpc (.one (.rfl _ rfl)) (.tp0)))
   ·refine zs (m33 _ _ (zq fun K39 m39 => ?_))
    have j5 : ∀ (_ : Unit), gM l12 = some r → ∀ w0 w1, aL 96 0 [] w0 w1 [(7, vl (eL aa) l12)] p9 → K39 w0 w1 := by
     intro _ h w0 w1 hS
     unfold gM at h
     refine m39 _ _ (XW.sub hS ?_)
     refine zq fun K54 m54 => ?_
     obtain ⟨r8, c55, h⟩ := zB h
     refine zr (zg [11, 13, 22] 1 [94] (za (iC _ _ c55) (zv [11, 13, 22] 2 [4,5] [] [(4, vl (eL aa) r8), (5, vb true)] p9 (zd (m54 _ _ (ze ?_))))))
     obtain rfl := zj h
     exact zf [vl (eL aa) r8, vb true] (.tpc (.one (.rfl _ rfl)) (.tpc (.one (.rfl _ rfl)) (.tp0)))
    refine zq fun K40 m40 => ?_
    obtain ⟨r5, c41, h⟩ := zB h
    refine zr (zg [11, 13, 22] 1 [1,7,76] (zl 42 [vl ab p1] (vl bo r5) [(77, vl bo r5), (1, vl af p2), (7, vl (eL aa) l12), (76, vl ab p1)] (lM _ _ c41) (zv [11, 13, 22] 1 [1,7,77,78] [] [(1, vl af p2), (7, vl (eL aa) l12), (77, vl bo r5), (78, vi ((bo.els r5).length : Int))] [.dead, .dead, .dead, .dead] ?_)))
    rw [bo.len r5]
    refine zg [11, 13, 22] 1 [1,7,77,78,79] (zd (m40 _ _ (zb 4 (XW.rounds' bf (x := cd Tryz.f53 [1,1,1,1,1,0,1,0,0]) (by kernel_rfl) fun Q3 hQ3 => ?_))))
    have hL3 : ∀ (k3 : Nat) (x5 : Int), dc p2 l12 r5 k3 x5 = some r → XR Tryz.prog 96 0 [] (cd Tryz.f53 [1,1,1,1,1,0,1,0,0]) Q3 k3 [(1, vl af p2), (7, vl (eL aa) l12), (77, vl bo r5), (78, vi (r5.length : Int)), (79, vi x5)] p9 := by
     intro k3
     induction k3 with
     | zero => intro x5 h; rw [dc.eq_1] at h; cases h
     | succ k3 ih3 =>
      intro x5 h
      rw [dc.eq_2] at h
      refine zq fun K42 m42 => zr (zg [11, 13, 22] 1 [1,7,77,78,79,80] (zd (m42 _ _ (zq fun K43 m43 => zC h (fun b44 h => ?_) (fun b44 h => ?_)))))
      ·refine zs (m43 _ _ (zq fun K45 m45 => zb 5 (zq fun K46 m46 => ?_)))
       obtain ⟨e4, a47, h⟩ := zB h
       refine zr (zo [11, 13, 22] 6 [1,7,12,13,77,78,79] [(bw e4)] [0 ≤ x5 ∧ x5 < ((bo.els r5).length : Int) ∧ aq 8 (bo.els r5), (bo.els r5)[x5.toNat]? = some (bw e4)] (⟨bo.inb a47, (bo.get a47), trivial⟩) (zd ?_))
       refine m46 _ _ (zq fun K48 m48 => ?_)
       obtain ⟨r6, c49, h⟩ := zB h
       obtain ⟨e5, a50, h⟩ := zB h
       obtain ⟨r7, c51, h⟩ := zB h
       refine zw 7 [(90, .ag (nB e5)), (89, .one (.pv (.rp (af.els p2) x5.toNat 0))), (88, vi x5), (87, vl af p2), (86, .ag (nB r6)), (85, vl (eL aa) l12), (84, .ag (qn e4)), (1, vl af p2), (7, vl (eL aa) l12), (12, vi x5), (13, vq 4), (77, vl bo r5), (78, vi (r5.length : Int)), (79, vi x5)] ?_ ?_
       ·refine ut 2 [] [(85, vl (eL aa) l12), (84, .ag (qn e4)), (1, vl af p2), (7, vl (eL aa) l12), (12, vi x5), (13, vq 4), (77, vl bo r5), (78, vi (r5.length : Int)), (79, vi x5)] (zT (nk _ _ _ c49) ?_)
        exact sd 4 [[.ro (eI.els e5.reps), .ro (eI.els e5.defs), .ro (aa.els e5.values)]] [0 ≤ x5 ∧ x5 < ((af.els p2).length : Int) ∧ aq 3 (af.els p2), (af.els p2)[x5.toNat]? = some [.ro (eI.els e5.reps), .ro (eI.els e5.defs), .ro (aa.els e5.values)]] (⟨af.inb a50, (af.get a50), trivial⟩) lU
       refine zl 100 [.ag (nB r6), .ag (nB e5)] (vb r7) [(91, vb r7), (90, .ag (nB e5)), (89, .one (.pv (.rp (af.els p2) x5.toNat 0))), (88, vi x5), (87, vl af p2), (86, .ag (nB r6)), (85, vl (eL aa) l12), (84, .ag (qn e4)), (1, vl af p2), (7, vl (eL aa) l12), (12, vi x5), (13, vq 4), (77, vl bo r5), (78, vi (r5.length : Int)), (79, vi x5)] (q9 _ _ _ c51) ?_
       refine zg [11, 13, 22] 1 [1,7,77,78,79,92] (zd (m48 _ _ (zC h (fun b52 h => ?_) (fun b52 h => ?_))))
       ·refine zq fun K53 m53 => zr (zg [11, 13, 22] 2 [4,5] (zd (m53 _ _ (ze (hQ3 _ _ _ ?_)))))
        obtain rfl := zj h
        exact zf [.one (.pv (.s (.slice none 0 0))), vb false] (.tpc (.one (.nl)) (.tpc (.one (.rfl _ rfl)) (.tp0)))
       ·refine zs (m45 _ _ (zr (zv [11, 13, 22] 2 [1,7,77,78,79] [] (wx p2 l12 r5 x5) [.dead, .dead, .dead, .dead, .box (qn e4)] (zd ?_))))
        exact XR.sub (aL.trans (aL.pick (fr' := (wx p2 l12 r5 x5)) [1,7,77,78,79] (by kernel_rfl)) (aL.take (fr' := (wx p2 l12 r5 x5)) 4 (Nat.zero_le _) (by kernel_rfl) (by kernel_rfl))) (ih3 (i64.wrap (x5 + 1)) h)
      ·exact zx 4 (hQ3 _ _ _ (j5 () h _ _ (zk [7])))
    exact XR.sub (zk [1,7,77,78,79]) (hL3 bf (0 : Int) h)
  rcases zW h with ⟨b35, h⟩ | ⟨b35, h⟩
  ·refine zr (zg [11, 13, 22] 5 [0,1,7,70] (zt 70 b35 (zv [11, 13, 22] 5 [0,1,7,75] [] [(0, vl ab p1), (1, vl af p2), (7, .one (.sl 3 1 0 l12.length)), (75, vb true)] (wo l10 l11 l12 z7 z8) (zd ?_))))
   exact j4 true h _ _ (aL.trans (aL.kill (fr' := [(0, vl ab p1), (1, vl af p2), (7, vl (eL aa) l12), (75, vb true)]) 3 (Nat.zero_le _) (by kernel_rfl) ⟨.one (.rfl _ rfl), .one (.rfl _ rfl), .one (iS (eL aa) l12 rfl rfl rfl), .one (.rfl _ rfl), trivial⟩) (aL.trans (aL.pick (fr' := [(0, vl ab p1), (1, vl af p2), (7, vl (eL aa) l12), (75, vb true)]) [0,1,7,75] (by kernel_rfl)) (aL.only (fr' := [(0, vl ab p1), (1, vl af p2), (7, vl (eL aa) l12), (75, vb true)]) (st' := p9) [] 4 (by kernel_rfl) (by kernel_rfl) (by kernel_rfl) (by kernel_rfl))))
  ·obtain ⟨r4, c36, h⟩ := zB h
   refine zr (zg [11, 13, 22] 5 [0,1,7,70] (zt 70 b35 (zv [11, 13, 22] 2 [0,1,7,70,71,72] [] [(0, vl ab p1), (1, vl af p2), (7, .one (.sl 3 1 0 l12.length)), (70, vb false), (71, vl ab p1), (72, .one (.sl 3 1 0 l12.length))] (wo l10 l11 l12 z7 z8) ?_)))
   refine XO.sub (aL.kill (fr' := [(0, vl ab p1), (1, vl af p2), (7, vl (eL aa) l12), (70, vb false), (71, vl ab p1), (72, vl (eL aa) l12)]) 3 (Nat.zero_le _) (by kernel_rfl) ⟨.one (.rfl _ rfl), .one (.rfl _ rfl), .one (iS (eL aa) l12 rfl rfl rfl), .one (.rfl _ rfl), .one (.rfl _ rfl), .one (iS (eL aa) l12 rfl rfl rfl), trivial⟩) (za (lg _ _ _ c36) (zg [11, 13, 22] 2 [0,1,7,75] (zd ?_)))
   exact j4 (r4 != 0) h _ _ (aL.trans (aL.pick (fr' := [(0, vl ab p1), (1, vl af p2), (7, vl (eL aa) l12), (75, vb (r4 != 0))]) [0,1,7,75] (by kernel_rfl)) (aL.only (fr' := [(0, vl ab p1), (1, vl af p2), (7, vl (eL aa) l12), (75, vb (r4 != 0))]) (st' := p9) [] 4 (by kernel_rfl) (by kernel_rfl) (by kernel_rfl) (by kernel_rfl)))
 refine zb 0 (XW.sub (aL.list (t := 7) (sz := 1) rfl) (XW.rounds' bf (x := cd Tryz.f53 [1,1,1,0,0,0]) (by kernel_rfl) fun Q1 hQ1 => ?_))
 have hL1 : ∀ (k1 : Nat) (l1 l2 : List Int) (l3 : List (List ac)) (z1 : List ak) (z2 : Bool), bC p1 p2 k1 l1 l2 l3 z1 z2 = some r → XR Tryz.prog 96 0 [] (cd Tryz.f53 [1,1,1,0,0,0]) Q1 k1 [(0, vl ab p1), (1, vl af p2), (6, vq 2), (7, .one (.sl 3 1 0 l3.length))] [.arr 1 (eI.els l1), .arr 1 (eI.els l2), .box [cl af z1, .sl 0 1 0 l1.length, .sl 1 1 0 l2.length, cb z2], .arr 1 ((eL aa).els l3)] := by
  intro k1
  induction k1 with
  | zero => intro l1 l2 l3 z1 z2 h; rw [bC.eq_1] at h; cases h
  | succ k1 ih1 =>
   intro l1 l2 l3 z1 z2 h
   rw [bC.eq_2] at h
   refine zq fun K9 m9 => zq fun K10 m10 => ?_
   have j1 : ∀ (x1 : Bool), em (bC p1 p2 k1) p1 p2 l1 l2 l3 z1 z2 x1 = some r → ∀ w0 w1, aL 96 0 [] w0 w1 [(0, vl ab p1), (1, vl af p2), (6, vq 2), (7, .one (.sl 3 1 0 l3.length)), (41, vb x1)] [.arr 1 (eI.els l1), .arr 1 (eI.els l2), .box [cl af z1, .sl 0 1 0 l1.length, .sl 1 1 0 l2.length, cb z2], .arr 1 ((eL aa).els l3)] → K10 w0 w1 := by
    intro x1 h w0 w1 hS
    unfold em at h
    refine m10 _ _ (XW.sub hS ?_)
    refine zC h (fun b14 h => ?_) (fun b14 h => ?_)
    ·refine zs (m9 _ _ (zb 1 (zq fun K15 m15 => zr (zg [11, 13, 22] 1 [0,1,6,7,8] (zd (m15 _ _ ?_))))))
     refine zq fun K16 m16 => zr (zg [11, 13, 22] 1 [0,1,6,7,8,9] (zd (m16 _ _ (zq fun K17 m17 => ?_))))
     have j2 : ∀ (l7 l8 : List Int) (l9 : List ac) (z5 : List ak) (z6 : Bool), gH (bC p1 p2 k1) l3 l7 l8 l9 z5 z6 = some r → ∀ w0 w1, aL 96 0 [] w0 w1 [(0, vl ab p1), (1, vl af p2), (6, vq 2), (7, .one (.sl 3 1 0 l3.length)), (8, .one (.sl 4 5 0 l9.length))] [.arr 1 (eI.els l7), .arr 1 (eI.els l8), .box [cl af z5, .sl 0 1 0 l7.length, .sl 1 1 0 l8.length, cb z6], .arr 1 ((eL aa).els l3), .arr 5 (aa.els l9)] → K17 w0 w1 := by
      intro l7 l8 l9 z5 z6 h w0 w1 hS
      unfold gH at h
      refine m17 _ _ (XW.sub hS ?_)
      obtain ⟨r3, c31, h⟩ := zB h
      obtain ⟨g32, h⟩ := zG h
      refine zr (zv [11, 13, 22] 2 [0,1,6,61,62] [] [(0, vl ab p1), (1, vl af p2), (6, vq 2), (61, .one (.sl 3 1 0 l3.length)), (62, .one (.sl 4 5 0 l9.length))] [.arr 1 (eI.els l7), .arr 1 (eI.els l8), .box [cl af z5, .sl 0 1 0 l7.length, .sl 1 1 0 l8.length, cb z6], .arr 1 ((eL aa).els l3), .arr 5 (aa.els l9)] ?_)
      refine XO.sub (aL.kill (fr' := [(0, vl ab p1), (1, vl af p2), (6, vq 2), (61, .one (.sl 3 1 0 l3.length)), (62, vl aa l9)]) 4 (Nat.zero_le _) (by kernel_rfl) ⟨.one (.rfl _ rfl), .one (.rfl _ rfl), .one (.rfl _ rfl), .one (.rfl _ rfl), .one (iS aa l9 rfl rfl rfl), trivial⟩) (za (cN _ _ c31) ?_)
      refine zp [11, 13, 22] 2 [0,1,6,65] [] [(0, vl ab p1), (1, vl af p2), (6, vq 2), (65, .one (.sl 3 1 0 (l3.length + ((eL aa).els [r3]).length)))] [.arr 1 (eI.els l7), .arr 1 (eI.els l8), .box [cl af z5, .sl 0 1 0 l7.length, .sl 1 1 0 l8.length, cb z6], .arr 1 ((eL aa).els l3 ++ (eL aa).els [r3]), .dead] [aq 1 ((eL aa).els [r3]), l3.length = ((eL aa).els l3).length, l3.length + ((eL aa).els [r3]).length ≤ 4294967296] (⟨(eL aa).ok _, ((eL aa).len l3).symm, g32, trivial⟩) ?_
      rw [show l3.length + ((eL aa).els [r3]).length = (l3 ++ [r3]).length from (eL aa).lapp _ _]
      rw [show (eL aa).els l3 ++ (eL aa).els [r3] = (eL aa).els (l3 ++ [r3]) from (eL aa).app2 _ _]
      exact zg [11, 13, 22] 1 [0,1,6,7] (zd (XR.sub (aL.trans (aL.pick (fr' := [(0, vl ab p1), (1, vl af p2), (6, vq 2), (7, .one (.sl 3 1 0 ((l3 ++ [r3]).length)))]) [0,1,6,7] (by kernel_rfl)) (aL.take (fr' := [(0, vl ab p1), (1, vl af p2), (6, vq 2), (7, .one (.sl 3 1 0 ((l3 ++ [r3]).length)))]) 4 (Nat.zero_le _) (by kernel_rfl) (by kernel_rfl))) (ih1 l7 l8 (l3 ++ [r3]) z5 z6 h)))
     refine zq fun K18 m18 => zr (zv [11, 13, 22] 2 [0,1,6,7,8,9,42,43] [] [(0, vl ab p1), (1, vl af p2), (6, vq 2), (7, .one (.sl 3 1 0 l3.length)), (8, .one (.pv (.s (.slice none 0 0)))), (9, vi 0), (42, vl ab p1), (43, vi ((ab.els p1).length : Int))] [.arr 1 (eI.els l1), .arr 1 (eI.els l2), .box [cl af z1, .sl 0 1 0 l1.length, .sl 1 1 0 l2.length, cb z2], .arr 1 ((eL aa).els l3)] ?_)
     rw [ab.len p1]
     refine zv [11, 13, 22] 1 [0,1,6,7,8,9,42,43,44] [] [(0, vl ab p1), (1, vl af p2), (6, vq 2), (7, .one (.sl 3 1 0 l3.length)), (8, .one (.pv (.s (.slice none 0 0)))), (9, vi 0), (42, vl ab p1), (43, vi (p1.length : Int)), (44, vi 0)] [.arr 1 (eI.els l1), .arr 1 (eI.els l2), .box [cl af z1, .sl 0 1 0 l1.length, .sl 1 1 0 l2.length, cb z2], .arr 1 ((eL aa).els l3)] (zd (m18 _ _ (zb 2 (XW.sub (aL.list (t := 8) (sz := 5) rfl) (XW.rounds' bf (x := cd Tryz.f53 [1,1,1,0,0,0,1,0,1,1,0,1,0,0]) (by kernel_rfl) fun Q2 hQ2 => ?_)))))
     have hL2 : ∀ (k2 : Nat) (l4 l5 : List Int) (l6 : List ac) (z3 : List ak) (z4 : Bool) (x2 x3 : Int), cK (bC p1 p2 k1) p1 l3 k2 l4 l5 l6 z3 z4 x2 x3 = some r → XR Tryz.prog 96 0 [] (cd Tryz.f53 [1,1,1,0,0,0,1,0,1,1,0,1,0,0]) Q2 k2 [(0, vl ab p1), (1, vl af p2), (6, vq 2), (7, .one (.sl 3 1 0 l3.length)), (8, .one (.sl 4 5 0 l6.length)), (9, vi x2), (42, vl ab p1), (43, vi (p1.length : Int)), (44, vi x3)] [.arr 1 (eI.els l4), .arr 1 (eI.els l5), .box [cl af z3, .sl 0 1 0 l4.length, .sl 1 1 0 l5.length, cb z4], .arr 1 ((eL aa).els l3), .arr 5 (aa.els l6)] := by
      intro k2
      induction k2 with
      | zero => intro l4 l5 l6 z3 z4 x2 x3 h; rw [cK.eq_1] at h; cases h
      | succ k2 ih2 =>
       intro l4 l5 l6 z3 z4 x2 x3 h
       rw [cK.eq_2] at h
       refine zq fun K19 m19 => zr (zg [11, 13, 22] 1 [0,1,6,7,8,9,42,43,44,45] (zd (m19 _ _ (zq fun K20 m20 => zC h (fun b21 h => ?_) (fun b21 h => ?_)))))
       ·refine zs (m20 _ _ (zq fun K22 m22 => zb 3 (zq fun K23 m23 => ?_)))
        obtain ⟨e3, a24, h⟩ := zB h
        refine zr (zo [11, 13, 22] 4 [0,1,6,7,8,9,11,42,43,44] [(aJ e3)] [0 ≤ x3 ∧ x3 < ((ab.els p1).length : Int) ∧ aq 6 (ab.els p1), (ab.els p1)[x3.toNat]? = some (aJ e3)] (⟨ab.inb a24, ((ab.get a24).trans (by rcases e3 with ⟨_, _, _, ⟨_, _, _⟩⟩; rfl)), trivial⟩) (zd (m23 _ _ (zq fun K25 m25 => ?_))))
        obtain ⟨r1, c26, h⟩ := zB h
        obtain ⟨g27, h⟩ := zG h
        obtain ⟨g28, h⟩ := zG h
        obtain ⟨g29, h⟩ := zG h
        refine zr ?_
        refine zv [11, 13, 22] 4 [0,1,6,7,9,11,42,43,44,48,49,50,51] [] [(0, vl ab p1), (1, vl af p2), (6, vq 2), (7, .one (.sl 3 1 0 l3.length)), (9, vi x2), (11, vq 5), (42, vl ab p1), (43, vi (p1.length : Int)), (44, vi x3), (48, .one (.sl 4 5 0 l6.length)), (49, vq 2), (50, .ag (aS e3)), (51, vi x2)] [.arr 1 (eI.els l4), .arr 1 (eI.els l5), .box [cl af z3, .sl 0 1 0 l4.length, .sl 1 1 0 l5.length, cb z4], .arr 1 ((eL aa).els l3), .arr 5 (aa.els l6), .box (aS e3)] ?_
        refine XO.calm 97 [vq 0, .ag (aS e3), vi x2, vi 0, vi 0] [.box [cl af z3, .sl 1 1 0 l4.length, .sl 2 1 0 l5.length, cb z4], .arr 1 (eI.els l4), .arr 1 (eI.els l5)] [.box [cl af r1.2.1, .sl 1 1 0 l4.length, .sl 2 1 0 l5.length, cb r1.2.2.1], .arr 1 (eI.els r1.2.2.2.1), .arr 1 (eI.els r1.2.2.2.2)] (.ag [ci r1.1.kind, ci r1.1.n, ci r1.1.scale, cj r1.1.s, cl aa r1.1.items]) [2, 0, 1] [(52, .ag [ci r1.1.kind, ci r1.1.n, ci r1.1.scale, cj r1.1.s, cl aa r1.1.items]), (0, vl ab p1), (1, vl af p2), (6, vq 2), (7, .one (.sl 3 1 0 l3.length)), (9, vi x2), (11, vq 5), (42, vl ab p1), (43, vi (p1.length : Int)), (44, vi x3), (48, .one (.sl 4 5 0 l6.length)), (49, vq 2), (50, .ag (aS e3)), (51, vi x2)] [.arr 1 (eI.els r1.2.2.2.1), .arr 1 (eI.els r1.2.2.2.2), .box [cl af r1.2.1, .sl 0 1 0 l4.length, .sl 1 1 0 l5.length, cb r1.2.2.1], .arr 1 ((eL aa).els l3), .arr 5 (aa.els l6), .box (aS e3)] (by kernel_rfl) (fU bf _ _ _ _ _ _ _ _ _ c26) (by kernel_rfl) (by kernel_rfl) (by kernel_rfl) (by kernel_rfl) ?_
        refine XO.sub (aL.eq (fr' := [(52, .ag [ci r1.1.kind, ci r1.1.n, ci r1.1.scale, cj r1.1.s, cl aa r1.1.items]), (0, vl ab p1), (1, vl af p2), (6, vq 2), (7, .one (.sl 3 1 0 l3.length)), (9, vi x2), (11, vq 5), (42, vl ab p1), (43, vi (p1.length : Int)), (44, vi x3), (48, .one (.sl 4 5 0 l6.length)), (49, vq 2), (50, .ag [ci e3.id, cj e3.name, cb e3.need, ci e3.type.kind, ci e3.type.scale, cl ab e3.type.fields]), (51, vi x2)]) (st' := [.arr 1 (eI.els r1.2.2.2.1), .arr 1 (eI.els r1.2.2.2.2), .box [cl af r1.2.1, .sl 0 1 0 r1.2.2.2.1.length, .sl 1 1 0 l5.length, cb r1.2.2.1], .arr 1 ((eL aa).els l3), .arr 5 (aa.els l6), .box [ci e3.id, cj e3.name, cb e3.need, ci e3.type.kind, ci e3.type.scale, cl ab e3.type.fields]]) rfl (by rw [g27])) ?_
        refine XO.sub (aL.eq (fr' := [(52, .ag [ci r1.1.kind, ci r1.1.n, ci r1.1.scale, cj r1.1.s, cl aa r1.1.items]), (0, vl ab p1), (1, vl af p2), (6, vq 2), (7, .one (.sl 3 1 0 l3.length)), (9, vi x2), (11, vq 5), (42, vl ab p1), (43, vi (p1.length : Int)), (44, vi x3), (48, .one (.sl 4 5 0 l6.length)), (49, vq 2), (50, .ag [ci e3.id, cj e3.name, cb e3.need, ci e3.type.kind, ci e3.type.scale, cl ab e3.type.fields]), (51, vi x2)]) (st' := [.arr 1 (eI.els r1.2.2.2.1), .arr 1 (eI.els r1.2.2.2.2), .box [cl af r1.2.1, .sl 0 1 0 r1.2.2.2.1.length, .sl 1 1 0 r1.2.2.2.2.length, cb r1.2.2.1], .arr 1 ((eL aa).els l3), .arr 5 (aa.els l6), .box [ci e3.id, cj e3.name, cb e3.need, ci e3.type.kind, ci e3.type.scale, cl ab e3.type.fields]]) rfl (by rw [g28])) ?_
        refine zv [11, 13, 22] 1 [0,1,6,7,9,11,42,43,44,48,53] [] [(0, vl ab p1), (1, vl af p2), (6, vq 2), (7, .one (.sl 3 1 0 l3.length)), (9, vi x2), (11, vq 5), (42, vl ab p1), (43, vi (p1.length : Int)), (44, vi x3), (48, .one (.sl 4 5 0 l6.length)), (53, .one (.pv (.ro [[pi r1.1.kind, pi r1.1.n, pi r1.1.scale, .s (.string r1.1.s), .ro (aa.els r1.1.items)]])))] [.arr 1 (eI.els r1.2.2.2.1), .arr 1 (eI.els r1.2.2.2.2), .box [cl af r1.2.1, .sl 0 1 0 r1.2.2.2.1.length, .sl 1 1 0 r1.2.2.2.2.length, cb r1.2.2.1], .arr 1 ((eL aa).els l3), .arr 5 (aa.els l6), .box [ci e3.id, cj e3.name, cb e3.need, ci e3.type.kind, ci e3.type.scale, cl ab e3.type.fields]] ?_
        rw [show ([[pi r1.1.kind, pi r1.1.n, pi r1.1.scale, .s (.string r1.1.s), .ro (aa.els r1.1.items)]] : List (List PV)) = aa.els [r1.1] from by rcases r1 with ⟨⟨_, _, _, _, _⟩, _, _, _, _⟩; rfl]
        refine zp [11, 13, 22] 1 [0,1,6,7,9,11,42,43,44,54] [] [(0, vl ab p1), (1, vl af p2), (6, vq 2), (7, .one (.sl 3 1 0 l3.length)), (9, vi x2), (11, vq 5), (42, vl ab p1), (43, vi (p1.length : Int)), (44, vi x3), (54, .one (.sl 4 5 0 (l6.length + (aa.els [r1.1]).length)))] [.arr 1 (eI.els r1.2.2.2.1), .arr 1 (eI.els r1.2.2.2.2), .box [cl af r1.2.1, .sl 0 1 0 r1.2.2.2.1.length, .sl 1 1 0 r1.2.2.2.2.length, cb r1.2.2.1], .arr 1 ((eL aa).els l3), .arr 5 (aa.els l6 ++ aa.els [r1.1]), .box [ci e3.id, cj e3.name, cb e3.need, ci e3.type.kind, ci e3.type.scale, cl ab e3.type.fields]] [aq 5 (aa.els [r1.1]), l6.length = (aa.els l6).length, l6.length + (aa.els [r1.1]).length ≤ 4294967296] (⟨aa.ok _, (aa.len l6).symm, g29, trivial⟩) ?_
        rw [show l6.length + (aa.els [r1.1]).length = (l6 ++ [r1.1]).length from aa.lapp _ _]
        rw [show aa.els l6 ++ aa.els [r1.1] = aa.els (l6 ++ [r1.1]) from aa.app2 _ _]
        refine zg [11, 13, 22] 1 [0,1,6,7,8,9,11,42,43,44] (zd (m25 _ _ ?_))
        obtain ⟨r2, c30, h⟩ := zB h
        refine zr (zg [11, 13, 22] 3 [0,1,6,7,8,42,43,44,55,57] (zl 98 [.ag [ci e3.type.kind, ci e3.type.scale, cl ab e3.type.fields]] (vi r2) [(58, vi r2), (0, vl ab p1), (1, vl af p2), (6, vq 2), (7, .one (.sl 3 1 0 l3.length)), (8, .one (.sl 4 5 0 ((l6 ++ [r1.1]).length))), (42, vl ab p1), (43, vi (p1.length : Int)), (44, vi x3), (55, vi x2), (57, .ag [ci e3.type.kind, ci e3.type.scale, cl ab e3.type.fields])] (jl bf _ _ c30) (zg [11, 13, 22] 2 [0,1,6,7,8,9,42,43,44] (zd (m22 _ _ (zr (zg [11, 13, 22] 2 [0,1,6,7,8,9,42,43,44] ?_)))))))
        refine zd ?_
        exact XR.sub (aL.trans (aL.pick (fr' := [(0, vl ab p1), (1, vl af p2), (6, vq 2), (7, .one (.sl 3 1 0 l3.length)), (8, .one (.sl 4 5 0 ((l6 ++ [r1.1]).length))), (9, vi (i64.wrap (x2 + r2))), (42, vl ab p1), (43, vi (p1.length : Int)), (44, vi (i64.wrap (x3 + 1)))]) [0,1,6,7,8,9,42,43,44] (by kernel_rfl)) (aL.take (fr' := [(0, vl ab p1), (1, vl af p2), (6, vq 2), (7, .one (.sl 3 1 0 l3.length)), (8, .one (.sl 4 5 0 ((l6 ++ [r1.1]).length))), (9, vi (i64.wrap (x2 + r2))), (42, vl ab p1), (43, vi (p1.length : Int)), (44, vi (i64.wrap (x3 + 1)))]) 5 (Nat.zero_le _) (by kernel_rfl) (by kernel_rfl))) (ih2 r1.2.2.2.1 r1.2.2.2.2 (l6 ++ [r1.1]) r1.2.1 r1.2.2.1 (i64.wrap (x2 + r2)) (i64.wrap (x3 + 1)) h)
       ·exact zx 2 (hQ2 _ _ _ (j2 l4 l5 l6 z3 z4 h _ _ (zk [0,1,6,7,8])))
     exact XR.sub (zk [0,1,6,7,8,9,42,43,44]) (hL2 bf l1 l2 [] z1 z2 (0 : Int) (0 : Int) h)
    ·exact zx 0 (hQ1 _ _ _ (j3 l1 l2 l3 z1 z2 h _ _ (zk [0,1,6,7])))
   rcases zW h with ⟨b11, h⟩ | ⟨b11, h⟩
   ·obtain ⟨e1, a12, h⟩ := zB h
    obtain ⟨e2, a13, h⟩ := zB h
    refine zw 17 [(39, vi (e2.reps.length : Int)), (38, vl eI e2.reps), (37, .one (.pv (.rp (af.els p2) ((0 : Int).toNat) 0))), (36, .one (.pv (.rp (af.els p2) ((0 : Int).toNat) 0))), (35, vl af p2), (34, vi e1), (33, .one (.pt 0 1 (0 + (0 : Int).toNat) 0)), (32, .one (.sl 0 1 0 l1.length)), (31, .one (.pt 2 0 0 1)), (30, vq 2), (29, vq 2), (28, vb true), (27, vb (!z2)), (26, vb z2), (25, .one (.pt 2 0 0 3)), (24, vq 2), (23, vq 2), (0, vl ab p1), (1, vl af p2), (6, vq 2), (7, .one (.sl 3 1 0 l3.length))] ?_ ?_
    ·refine ut 6 [] [(28, vb (!z2)), (27, vb (!z2)), (26, vb z2), (25, .one (.pt 2 0 0 3)), (24, vq 2), (23, vq 2), (0, vl ab p1), (1, vl af p2), (6, vq 2), (7, .one (.sl 3 1 0 l3.length))] ?_
     refine DX.eq (fr1 := [(28, vb true), (27, vb (!z2)), (26, vb z2), (25, .one (.pt 2 0 0 3)), (24, vq 2), (23, vq 2), (0, vl ab p1), (1, vl af p2), (6, vq 2), (7, .one (.sl 3 1 0 l3.length))]) (by rw [b11]) ?_
     refine vI 11 [[pi e1], [.ro (eI.els e2.reps), .ro (eI.els e2.defs), .ro (aa.els e2.values)]] [(39, vi ((eI.els e2.reps).length : Int)), (38, vl eI e2.reps), (37, .one (.pv (.rp (af.els p2) ((0 : Int).toNat) 0))), (36, .one (.pv (.rp (af.els p2) ((0 : Int).toNat) 0))), (35, vl af p2), (34, vi e1), (33, .one (.pt 0 1 (0 + (0 : Int).toNat) 0)), (32, .one (.sl 0 1 0 l1.length)), (31, .one (.pt 2 0 0 1)), (30, vq 2), (29, vq 2), (28, vb true), (27, vb (!z2)), (26, vb z2), (25, .one (.pt 2 0 0 3)), (24, vq 2), (23, vq 2), (0, vl ab p1), (1, vl af p2), (6, vq 2), (7, .one (.sl 3 1 0 l3.length))] [0 ≤ (0 : Int) ∧ (0 : Int) < ((l1.length : Nat) : Int), (eI.els l1)[(0 + (0 : Int).toNat)]? = some [pi e1], 0 ≤ (0 : Int) ∧ (0 : Int) < ((af.els p2).length : Int) ∧ aq 3 (af.els p2), (af.els p2)[(0 : Int).toNat]? = some [.ro (eI.els e2.reps), .ro (eI.els e2.defs), .ro (aa.els e2.values)]] (⟨oo.inb' a12, (eI.get0 a12), af.inb a13, (af.get a13), trivial⟩) ?_
     rw [eI.len e2.reps]
     exact lU
    exact zg [11, 13, 22] 2 [0,1,6,7,41] (zd (j1 (decide (e1 < (e2.reps.length : Int))) h _ _ (zk [0,1,6,7,41])))
   ·refine zw 17 [(39, .tp []), (38, .tp []), (37, .tp []), (36, .tp []), (35, .tp []), (34, .tp []), (33, .tp []), (32, .tp []), (31, .tp []), (30, .tp []), (29, .tp []), (28, vb false), (27, vb (!z2)), (26, vb z2), (25, .one (.pt 2 0 0 3)), (24, vq 2), (23, vq 2), (0, vl ab p1), (1, vl af p2), (6, vq 2), (7, .one (.sl 3 1 0 l3.length))] ?_ ?_
    ·refine ut 6 [] [(28, vb (!z2)), (27, vb (!z2)), (26, vb z2), (25, .one (.pt 2 0 0 3)), (24, vq 2), (23, vq 2), (0, vl ab p1), (1, vl af p2), (6, vq 2), (7, .one (.sl 3 1 0 l3.length))] ?_
     exact DX.eq (fr1 := [(28, vb false), (27, vb (!z2)), (26, vb z2), (25, .one (.pt 2 0 0 3)), (24, vq 2), (23, vq 2), (0, vl ab p1), (1, vl af p2), (6, vq 2), (7, .one (.sl 3 1 0 l3.length))]) (by rw [b11]) (BB 11 lU)
    exact zg [11, 13, 22] 2 [0,1,6,7,41] (zd (j1 false h _ _ (zk [0,1,6,7,41])))
 exact XR.sub (zk [0,1,6,7]) (hL1 bf (List.replicate (p2.length : Int).toNat (0 : Int)) (List.replicate (p2.length : Int).toNat (0 : Int)) [] p2 false h)
def gU (p1 : (List ah)) (p2 : (List ak)) : Option ((List (List ac)) × Int) := aT (cX p1) fun r1 => aI (r1 != 0) (some ([], r1)) (aT (gG p1) fun r2 => aI ((p2.length : Int) != (r2.length : Int)) (some ([], (1 : Int))) (aT (jn p1 p2) fun r3 => aI (!r3.2) (some ([], (1 : Int))) (some (r3.1, (0 : Int)))))
theorem pE (p1 : (List ah)) (p2 : (List ak)) (r : ((List (List ac)) × Int)) (h : gU p1 p2 = some r) : PC Tryz.prog 17 [vl ab p1, vl af p2] (.tp [vl (eL aa) r.1, vi r.2]) := by
 unfold gU at h
 refine zF 29 Tryz.f17 (zq fun K1 m1 => zr (zg [] 2 [0,1] (zd (m1 _ _ (zq fun K2 m2 => zq fun K3 m3 => ?_)))))
 obtain ⟨r1, c4, h⟩ := zB h
 refine zr (zg [] 1 [0,1,9] (zl 52 [vl ab p1] (vi r1) [(10, vi r1), (0, vl ab p1), (1, vl af p2), (9, vl ab p1)] (kU _ _ c4) (zg [] 1 [0,1,6] (zd (m3 _ _ (zq fun K5 m5 => zr ?_))))))
 refine zg [] 2 [0,1,6,12] (zd (m5 _ _ (zC h (fun b6 h => ?_) (fun b6 h => ?_))))
 ·refine zq fun K7 m7 => zr (zv [] 3 [4,5] [] [(4, .one (.pv (.s (.slice none 0 0)))), (5, vi r1)] [] (zd (m7 _ _ (ze ?_))))
  obtain rfl := zj h
  exact zf [.one (.pv (.s (.slice none 0 0))), vi r1] (.tpc (.one (.nl)) (.tpc (.one (.rfl _ rfl)) (.tp0)))
 ·refine zs (m2 _ _ (zq fun K8 m8 => zq fun K9 m9 => ?_))
  obtain ⟨r2, c10, h⟩ := zB h
  refine zr (zv [] 2 [0,1,15] [] [(0, vl ab p1), (1, vl af p2), (15, vi ((af.els p2).length : Int))] [] ?_)
  rw [af.len p2]
  refine zg [] 1 [0,1,15,16] (za (lM _ _ c10) (zv [] 1 [0,1,15,18] [] [(0, vl ab p1), (1, vl af p2), (15, vi (p2.length : Int)), (18, vi ((bo.els r2).length : Int))] [] ?_))
  rw [bo.len r2]
  refine zg [] 1 [0,1,19] (zd (m9 _ _ (zC h (fun b11 h => ?_) (fun b11 h => ?_))))
  ·refine zq fun K12 m12 => zr (zg [] 2 [4,5] (zd (m12 _ _ (ze ?_))))
   obtain rfl := zj h
   exact zf [.one (.pv (.s (.slice none 0 0))), vi 1] (.tpc (.one (.nl)) (.tpc (.one (.rfl _ rfl)) (.tp0)))
  ·refine zs (m8 _ _ (zq fun K13 m13 => ?_))
   obtain ⟨r3, c14, h⟩ := zB h
   refine zr (zv [] 2 [21,22] [] [(21, vl ab p1), (22, vl af p2)] [] (za (pc _ _ _ c14) (zg [] 5 [7,8] (zd (m13 _ _ (zq fun K15 m15 => zq fun K16 m16 => ?_))))))
   refine zr (zv [] 2 [7,27] [] [(7, vl (eL aa) r3.1), (27, vb (!r3.2))] [] (zd (m16 _ _ (zC h (fun b17 h => ?_) (fun b17 h => ?_)))))
   ·refine zq fun K18 m18 => zr (zg [] 2 [4,5] (zd (m18 _ _ (ze ?_))))
    obtain rfl := zj h
    exact zf [.one (.pv (.s (.slice none 0 0))), vi 1] (.tpc (.one (.nl)) (.tpc (.one (.rfl _ rfl)) (.tp0)))
   ·refine zs (m15 _ _ (zq fun K19 m19 => zr (zg [] 3 [4,5] (zd (m19 _ _ (ze ?_))))))
    obtain rfl := zj h
    exact zf [vl (eL aa) r3.1, vi 0] (.tpc (.one (.rfl _ rfl)) (.tpc (.one (.rfl _ rfl)) (.tp0)))
def el (p1 p2 : Int) : Option Int := aI (decide (p1 < p2)) (some (-1 : Int)) (aI (decide (p2 < p1)) (some (1 : Int)) (some (0 : Int)))
theorem eV (p1 p2 r : Int) (h : el p1 p2 = some r) : PC Tryz.prog 34 [vi p1, vi p2] (vi r) := by
 unfold el at h
 refine zF 11 Tryz.f34 (zq fun K1 m1 => zr (zg [] 1 [0,1] (zd (m1 _ _ (zq fun K2 m2 => zq fun K3 m3 => ?_)))))
 refine zr (zg [] 3 [0,1,7] (zd (m3 _ _ (zC h (fun b4 h => ?_) (fun b4 h => ?_)))))
 ·refine zq fun K5 m5 => zr (zv [] 1 [4] [] [(4, vi (-1))] [] (zd (m5 _ _ (ze ?_))))
  obtain rfl := zj h
  exact zf [vi (-1)] (.one (.rfl _ rfl))
 ·refine zs (m2 _ _ (zq fun K6 m6 => zq fun K7 m7 => zr (zg [] 3 [10] (zd (m7 _ _ ?_)))))
  refine zC h (fun b8 h => ?_) (fun b8 h => ?_)
  ·refine zq fun K9 m9 => zr (zg [] 1 [4] (zd (m9 _ _ (ze ?_))))
   obtain rfl := zj h
   exact zf [vi 1] (.one (.rfl _ rfl))
  ·refine zs (m6 _ _ (zq fun K10 m10 => zr (zv [] 1 [4] [] [(4, vi 0)] [] (zd (m10 _ _ (ze ?_))))))
   obtain rfl := zj h
   exact zf [vi 0] (.one (.rfl _ rfl))
def iF (rec1 : List Int → Int → Option gR) (l1 : List Int) (x1 x2 : Int) : Option gR := fL (l1.length + 1 ≤ 4294967296) <| rec1 (l1 ++ [x2]) (i64.wrap (x1.tdiv (10 : Int)))
def li (p1 : Int) (l2 : List Int) : Option gR := some (gR.mk (decide (p1 < (0 : Int))) l2)
def dg (p1 : Int) : Nat → List Int → Int → Option gR
 | 0, _, _ => none
 | k1 + 1, l1, x1 => aI (x1 != 0) (aI (decide ((x1.tmod (10 : Int)) < (0 : Int))) (iF (dg p1 k1) l1 x1 (i64.wrap (0 - (x1.tmod (10 : Int))))) (iF (dg p1 k1) l1 x1 (x1.tmod (10 : Int)))) (li p1 l1)
def l0 (p1 : Int) : Option gR := dg p1 bf [] p1
abbrev tL : List CV := [cb false, .pv (.s (.slice none 0 0))]
theorem sq (p1 : Int) (r : gR) (h : l0 p1 = some r) : PC Tryz.prog 123 [vi p1] (.ag [cb r.below, cl eI r.d]) := by
 unfold l0 at h
 refine zF 25 Tryz.f123 (zq fun K1 m1 => zr (zg [2] 1 [0,2] (zd (m1 _ _ (zq fun K2 m2 => zr ?_)))))
 refine zg [2] 1 [0,2,3] (zd (m2 _ _ (zq fun K3 m3 => ?_)))
 have j2 : ∀ (l2 : List Int), li p1 l2 = some r → ∀ w0 w1, aL 25 0 [] w0 w1 [(0, vi p1), (2, vq 0), (3, .one (.sl 1 1 0 l2.length))] [.box tL, .arr 1 (eI.els l2)] → K3 w0 w1 := by
  intro l2 h w0 w1 hS
  unfold li at h
  refine m3 _ _ (XW.sub hS ?_)
  refine zq fun K14 m14 => zr (zg [2] 5 [2] (zd (m14 _ _ (ze ?_))))
  obtain rfl := zj h
  exact zf [.ag [cb (decide (p1 < (0 : Int))), .sl 1 1 0 l2.length]] (.ag (.cons (.rfl _ rfl) (.cons (iS eI l2 rfl rfl rfl) .nil)))
 refine zq fun K4 m4 => zr (zv [2] 2 [0,2,3,4] [] [(0, vi p1), (2, vq 0), (3, .one (.pv (.s (.slice none 0 0)))), (4, vi p1)] [.box [cb false, .pv (.s (.slice none 0 0))]] (zd (m4 _ _ (zb 0 (XW.sub (aL.list (t := 3) (sz := 1) rfl) (XW.rounds' bf (x := cd Tryz.f123 [1,1,0,1,0,0]) (by kernel_rfl) fun Q1 hQ1 => ?_))))))
 have hL1 : ∀ (k1 : Nat) (l1 : List Int) (x1 : Int), dg p1 k1 l1 x1 = some r → XR Tryz.prog 25 0 [] (cd Tryz.f123 [1,1,0,1,0,0]) Q1 k1 [(0, vi p1), (2, vq 0), (3, .one (.sl 1 1 0 l1.length)), (4, vi x1)] [.box tL, .arr 1 (eI.els l1)] := by
  intro k1
  induction k1 with
  | zero => intro l1 x1 h; rw [dg.eq_1] at h; cases h
  | succ k1 ih1 =>
   intro l1 x1 h
   rw [dg.eq_2] at h
   refine zq fun K5 m5 => zq fun K6 m6 => zr (zg [2] 2 [0,2,3,4,8] (zd (m6 _ _ (zC h (fun b7 h => ?_) (fun b7 h => ?_)))))
   ·refine zs (m5 _ _ (zq fun K8 m8 => zb 1 (zq fun K9 m9 => zr (zo [2] 3 [0,2,3,4,5] [] [(10 : Int) ≠ 0] (⟨by decide, trivial⟩) (zd ?_)))))
    refine m9 _ _ (zq fun K10 m10 => ?_)
    have j1 : ∀ (x2 : Int), iF (dg p1 k1) l1 x1 x2 = some r → ∀ w0 w1, aL 25 0 [] w0 w1 [(0, vi p1), (2, vq 0), (3, .one (.sl 1 1 0 l1.length)), (4, vi x1), (5, vi x2)] [.box tL, .arr 1 (eI.els l1)] → K10 w0 w1 := by
     intro x2 h w0 w1 hS
     unfold iF at h
     refine m10 _ _ (XW.sub hS ?_)
     obtain ⟨g13, h⟩ := zG h
     refine zr (zp [2] 4 [0,2,4,20] [] [(0, vi p1), (2, vq 0), (4, vi x1), (20, .one (.sl 1 1 0 (l1.length + (eI.els [x2]).length)))] [.box [cb false, .pv (.s (.slice none 0 0))], .arr 1 (eI.els l1 ++ eI.els [x2])] [aq 1 (eI.els [x2]), l1.length = (eI.els l1).length, l1.length + (eI.els [x2]).length ≤ 4294967296] (⟨eI.ok _, (eI.len l1).symm, g13, trivial⟩) ?_)
     rw [show l1.length + (eI.els [x2]).length = (l1 ++ [x2]).length from eI.lapp _ _]
     rw [show eI.els l1 ++ eI.els [x2] = eI.els (l1 ++ [x2]) from eI.app2 _ _]
     exact zg [2] 1 [0,2,3,4] (zd (m8 _ _ (zr (zo [2] 3 [0,2,3,4] [] [(10 : Int) ≠ 0] (⟨by decide, trivial⟩) (zd (XR.sub (zk [0,2,3,4]) (ih1 (l1 ++ [x2]) (i64.wrap (x1.tdiv (10 : Int))) h)))))))
    refine zq fun K11 m11 => zr (zv [2] 2 [0,2,3,4,5,14] [] [(0, vi p1), (2, vq 0), (3, .one (.sl 1 1 0 l1.length)), (4, vi x1), (5, vi (x1.tmod (10 : Int))), (14, vb (decide ((x1.tmod (10 : Int)) < (0 : Int))))] [.box tL, .arr 1 (eI.els l1)] (zd (m11 _ _ (zC h (fun b12 h => ?_) (fun b12 h => ?_)))))
    ·exact zr (zg [2] 3 [0,2,3,4,5] (zd (j1 (i64.wrap (0 - (x1.tmod (10 : Int)))) h _ _ (zk [0,2,3,4,5]))))
    ·exact zs (j1 (x1.tmod (10 : Int)) h _ _ (zk [0,2,3,4,5]))
   ·exact zx 0 (hQ1 _ _ _ (j2 l1 h _ _ (zk [0,2,3])))
 exact XR.sub (zk [0,2,3,4]) (hL1 bf [] p1 h)
def n9 (p1 : gR) (p2 : Int) : Option gR := aI ((p1.d.length : Int) == 0) (some p1) (fL (0 ≤ p2 ∧ p2 ≤ p2 ∧ p2 ≤ 4294967296) <| fL ((List.replicate p2.toNat (0 : Int)).length + p1.d.length ≤ 4294967296) <| some (gR.mk p1.below ((List.replicate p2.toNat (0 : Int)) ++ p1.d)))
abbrev iZ (p1 : gR) : List PV := [.s (.bool p1.below), .ro (eI.els p1.d)]
theorem vw (p1 : gR) (p2 : Int) (r : gR) (h : n9 p1 p2 = some r) : PC Tryz.prog 122 [.ag [cb p1.below, cl eI p1.d], vi p2] (.ag [cb r.below, cl eI r.d]) := by
 unfold n9 at h
 refine zF 18 Tryz.f122 (zq fun K1 m1 => zr (zg [4] 2 [1,2,4] (zd (m1 _ _ (zq fun K2 m2 => zq fun K3 m3 => ?_)))))
 refine zr (zv [4] 3 [1,2,4,7] [[.s (.bool p1.below), .ro (eI.els p1.d)]] [(1, vi p2), (2, vR [.s (.bool p1.below), .ro (eI.els p1.d)]), (4, vq 0), (7, vi ((eI.els p1.d).length : Int))] [.box [cb false, .pv (.s (.slice none 0 0))]] ?_)
 rw [eI.len p1.d]
 refine zg [4] 1 [1,2,4,8] (zd (m3 _ _ (zC h (fun b4 h => ?_) (fun b4 h => ?_))))
 ·refine zq fun K5 m5 => zr (zu [4] 2 [4] [(iZ p1)] (zd (m5 _ _ (ze ?_))))
  obtain rfl := zj h
  exact zf [.ag [cb p1.below, cl eI p1.d]] (.ag (.cons (.rfl _ rfl) (.cons (.rfl _ rfl) .nil)))
 ·refine zs (m2 _ _ (zq fun K6 m6 => ?_))
  obtain ⟨g8, h⟩ := zG h
  obtain ⟨g9, h⟩ := zG h
  refine XW.sub (aL.dead 1) ?_
  refine XW.drwG 7 [1, 2] [([], []), ([], []), ([], []), ([1, 1001], [1, 1001]), ([], []), ([], []), ([1, 1001], [1, 1001])] [(16, .one (.sl 1 1 0 (((List.replicate p2.toNat (0 : Int)) ++ p1.d).length))), (15, vl eI p1.d), (14, .one (.pv (.rp [(iZ p1)] 0 1))), (13, .j), (12, vi p2), (11, vb p1.below), (10, vR (iZ p1)), (1, vi p2), (2, vR (iZ p1)), (4, vq 0), (8, vb ((p1.d.length : Int) == 0))] [.box [cb false, .pv (.s (.slice none 0 0))], .arr 1 (eI.els ((List.replicate p2.toNat (0 : Int)) ++ p1.d))] (by kernel_rfl) (by kernel_rfl) ?_ ?_
  ·refine qE 3 [(iZ p1)] [(12, vi p2), (11, vb p1.below), (10, vR (iZ p1)), (1, vi p2), (2, vR (iZ p1)), (4, vq 0), (8, vb ((p1.d.length : Int) == 0))] ?_
   refine GY.new false 1 [] [(13, .one (.sl 1 1 0 p2.toNat)), (12, vi p2), (11, vb p1.below), (10, vR [.s (.bool p1.below), .ro (eI.els p1.d)]), (1, vi p2), (2, vR [.s (.bool p1.below), .ro (eI.els p1.d)]), (4, vq 0), (8, vb ((p1.d.length : Int) == 0))] [1] [.box [cb false, .pv (.s (.slice none 0 0))], .arr 1 (List.replicate p2.toNat [pi 0])] [0 ≤ p2, p2 ≤ p2, p2 ≤ 4294967296] (by kernel_rfl) (by kernel_rfl) (⟨g8.1, g8.2.1, g8.2.2, trivial⟩) (by kernel_rfl) ?_
   rw [show List.replicate p2.toNat [pi 0] = eI.els (List.replicate p2.toNat (0 : Int)) from eI.rep _ (0 : Int)]
   refine qE 2 [(iZ p1)] [(15, vl eI p1.d), (14, .one (.pv (.rp [(iZ p1)] 0 1))), (13, .one (.sl 1 1 0 p2.toNat)), (12, vi p2), (11, vb p1.below), (10, vR (iZ p1)), (1, vi p2), (2, vR (iZ p1)), (4, vq 0), (8, vb ((p1.d.length : Int) == 0))] ?_
   refine GY.wr [] [(16, .one (.sl 1 1 0 (p2.toNat + (eI.els p1.d).length))), (15, vl eI p1.d), (14, .one (.pv (.rp [[.s (.bool p1.below), .ro (eI.els p1.d)]] 0 1))), (13, .j), (12, vi p2), (11, vb p1.below), (10, vR [.s (.bool p1.below), .ro (eI.els p1.d)]), (1, vi p2), (2, vR [.s (.bool p1.below), .ro (eI.els p1.d)]), (4, vq 0), (8, vb ((p1.d.length : Int) == 0))] [1] [1] [.box [cb false, .pv (.s (.slice none 0 0))], .arr 1 (eI.els (List.replicate p2.toNat (0 : Int)) ++ eI.els p1.d)] [aq 1 (eI.els p1.d), p2.toNat = (eI.els (List.replicate p2.toNat (0 : Int))).length, p2.toNat + (eI.els p1.d).length ≤ 4294967296] (by kernel_rfl) (by kernel_rfl) (⟨eI.ok _, (by simp [oo.len]), (by simp [oo.len] at * <;> omega), trivial⟩) (by kernel_rfl) ?_
   rw [show p2.toNat + (eI.els p1.d).length = ((List.replicate p2.toNat (0 : Int)) ++ p1.d).length from (by simp [oo.len] <;> omega)]
   rw [show eI.els (List.replicate p2.toNat (0 : Int)) ++ eI.els p1.d = eI.els ((List.replicate p2.toNat (0 : Int)) ++ p1.d) from eI.app2 _ _]
   exact GY.done (by kernel_rfl) (by kernel_rfl)
  refine zv [4] 2 [4] [] [(4, vq 0)] [.box [cb p1.below, .sl 1 1 0 (((List.replicate p2.toNat (0 : Int)) ++ p1.d).length)], .arr 1 (eI.els ((List.replicate p2.toNat (0 : Int)) ++ p1.d))] (zd (m6 _ _ (ze ?_)))
  obtain rfl := zj h
  exact zf [.ag [cb p1.below, .sl 1 1 0 (((List.replicate p2.toNat (0 : Int)) ++ p1.d).length)]] (.ag (.cons (.rfl _ rfl) (.cons (iS eI ((List.replicate p2.toNat (0 : Int)) ++ p1.d) rfl rfl rfl) .nil)))
def jD (p1 : ac) : Option gR := aT (l0 p1.n) fun r1 => aT (n9 r1 (i64.wrap ((12 : Int) - p1.scale))) fun r2 => some r2
theorem ot (p1 : ac) (r : gR) (h : jD p1 = some r) : PC Tryz.prog 75 [.ag [ci p1.kind, ci p1.n, ci p1.scale, cj p1.s, cl aa p1.items]] (.ag [cb r.below, cl eI r.d]) := by
 unfold jD at h
 refine zF 10 Tryz.f75 (zq fun K1 m1 => zr (zg [2] 2 [1,2] (zd (m1 _ _ (zq fun K2 m2 => ?_)))))
 obtain ⟨r1, c3, h⟩ := zB h
 obtain ⟨r2, c4, h⟩ := zB h
 refine zw 6 [(8, vi (i64.wrap ((12 : Int) - p1.scale))), (7, vi p1.scale), (6, .one (.pv (.rp [(ae p1)] 0 2))), (5, .ag [cb r1.below, cl eI r1.d]), (4, vi p1.n), (3, .one (.pv (.rp [(ae p1)] 0 1))), (1, vR (ae p1)), (2, vq 0)] ?_ ?_
 ·refine zH 2 [(ae p1)] (DX.cal 123 [vi p1.n] (.ag [cb r1.below, cl eI r1.d]) [(5, .ag [cb r1.below, cl eI r1.d]), (4, vi p1.n), (3, .one (.pv (.rp [(ae p1)] 0 1))), (1, vR (ae p1)), (2, vq 0)] (by kernel_rfl) (sq _ _ c3) rfl rfl (by kernel_rfl) ?_)
  exact zH 3 [(ae p1)] lU
 refine za (vw _ _ _ c4) (zv [2] 1 [2] [] [(2, vq 0)] [.box [cb r2.below, cl eI r2.d]] (zd (m2 _ _ (ze ?_))))
 obtain rfl := zj h
 exact zf [.ag [cb r2.below, cl eI r2.d]] (.ag (.cons (.rfl _ rfl) (.cons (.rfl _ rfl) .nil)))
def mP : Option Int := some (0 : Int)
def fO (p1 p2 : (List Int)) : Nat → Int → Option Int
 | 0, _ => none
 | k1 + 1, x1 => aI (decide ((0 : Int) ≤ x1)) (aT (at? p1 x1) fun e1 => aT (at? p2 x1) fun e2 => aI (e1 != e2) (some (i64.wrap (e1 - e2))) ((fO p1 p2 k1) (i64.wrap (x1 - 1)))) (mP)
def mn (p1 p2 : (List Int)) : Option Int := aI ((p1.length : Int) != (p2.length : Int)) (some (i64.wrap ((p1.length : Int) - (p2.length : Int)))) (fO p1 p2 bf (i64.wrap ((p1.length : Int) - (1 : Int))))
abbrev Ao (p1 p2 : (List Int)) (x1 e1 e2 : Int) : Fr := [(39, vi e2), (38, .one (.pv (.rp (eI.els p2) x1.toNat 0))), (37, vi x1), (36, vl eI p2), (35, vi e1), (34, .one (.pv (.rp (eI.els p1) x1.toNat 0))), (33, vi x1), (32, vl eI p1), (0, vl eI p1), (1, vl eI p2), (5, vi x1), (31, vb (e1 != e2))]
theorem uP (p1 p2 : (List Int)) (r : Int) (h : mn p1 p2 = some r) : PC Tryz.prog 121 [vl eI p1, vl eI p2] (vi r) := by
 unfold mn at h
 refine zF 41 Tryz.f121 (zq fun K1 m1 => zr (zg [] 1 [0,1] (zd (m1 _ _ (zq fun K2 m2 => zq fun K3 m3 => ?_)))))
 refine zr (zv [] 2 [0,1,7] [] [(0, vl eI p1), (1, vl eI p2), (7, vi ((eI.els p1).length : Int))] [] ?_)
 rw [eI.len p1]
 refine zv [] 2 [0,1,7,9] [] [(0, vl eI p1), (1, vl eI p2), (7, vi (p1.length : Int)), (9, vi ((eI.els p2).length : Int))] [] ?_
 rw [eI.len p2]
 refine zg [] 1 [0,1,10] (zd (m3 _ _ (zC h (fun b4 h => ?_) (fun b4 h => ?_))))
 ·refine zq fun K5 m5 => zr (zv [] 2 [1,12] [] [(1, vl eI p2), (12, vi ((eI.els p1).length : Int))] [] ?_)
  rw [eI.len p1]
  refine zv [] 2 [12,14] [] [(12, vi (p1.length : Int)), (14, vi ((eI.els p2).length : Int))] [] ?_
  rw [eI.len p2]
  refine zg [] 2 [4] (zd (m5 _ _ (ze ?_)))
  obtain rfl := zj h
  exact zf [vi (i64.wrap ((p1.length : Int) - (p2.length : Int)))] (.one (.rfl _ rfl))
 ·refine zs (m2 _ _ (zq fun K6 m6 => ?_))
  have j1 : ∀ (_ : Unit), mP = some r → ∀ w0 w1, aL 41 0 [] w0 w1 [] [] → K6 w0 w1 := by
   intro _ h w0 w1 hS
   unfold mP at h
   refine m6 _ _ (XW.sub hS ?_)
   refine zq fun K17 m17 => zr (zg [] 1 [4] (zd (m17 _ _ (ze ?_))))
   obtain rfl := zj h
   exact zf [vi 0] (.one (.rfl _ rfl))
  refine zq fun K7 m7 => zr (zv [] 2 [0,1,17] [] [(0, vl eI p1), (1, vl eI p2), (17, vi ((eI.els p1).length : Int))] [] ?_)
  rw [eI.len p1]
  refine zg [] 2 [0,1,5] (zd (m7 _ _ (zb 0 (XW.rounds' bf (x := cd Tryz.f121 [1,1,0,1,0,0]) (by kernel_rfl) fun Q1 hQ1 => ?_))))
  have hL1 : ∀ (k1 : Nat) (x1 : Int), fO p1 p2 k1 x1 = some r → XR Tryz.prog 41 0 [] (cd Tryz.f121 [1,1,0,1,0,0]) Q1 k1 [(0, vl eI p1), (1, vl eI p2), (5, vi x1)] [] := by
   intro k1
   induction k1 with
   | zero => intro x1 h; rw [fO.eq_1] at h; cases h
   | succ k1 ih1 =>
    intro x1 h
    rw [fO.eq_2] at h
    refine zq fun K8 m8 => zq fun K9 m9 => zr (zg [] 2 [0,1,5,20] (zd (m9 _ _ (zC h (fun b10 h => ?_) (fun b10 h => ?_)))))
    ·refine zs (m8 _ _ (zq fun K11 m11 => zb 1 (zq fun K12 m12 => ?_)))
     obtain ⟨e1, a13, h⟩ := zB h
     obtain ⟨e2, a14, h⟩ := zB h
     refine zw 8 [(30, vi e2), (29, .one (.pv (.rp (eI.els p2) x1.toNat 0))), (28, vi x1), (27, vl eI p2), (26, vi e1), (25, .one (.pv (.rp (eI.els p1) x1.toNat 0))), (24, vi x1), (23, vl eI p1), (0, vl eI p1), (1, vl eI p2), (5, vi x1), (20, vb (decide ((0 : Int) ≤ x1)))] ?_ ?_
     ·exact sd 8 [[pi e1], [pi e2]] [0 ≤ x1 ∧ x1 < ((eI.els p1).length : Int) ∧ aq 1 (eI.els p1), (eI.els p1)[x1.toNat]? = some [pi e1], 0 ≤ x1 ∧ x1 < ((eI.els p2).length : Int) ∧ aq 1 (eI.els p2), (eI.els p2)[x1.toNat]? = some [pi e2]] (⟨eI.inb a13, (eI.get a13), eI.inb a14, (eI.get a14), trivial⟩) lU
     refine zg [] 1 [0,1,5,31] (zd (m12 _ _ (zC h (fun b15 h => ?_) (fun b15 h => ?_))))
     ·refine zq fun K16 m16 => zw 8 (Ao p1 p2 x1 e1 e2) ?_ ?_
      ·exact vI 8 [[pi e1], [pi e2]] (Ao p1 p2 x1 e1 e2) [0 ≤ x1 ∧ x1 < ((eI.els p1).length : Int) ∧ aq 1 (eI.els p1), (eI.els p1)[x1.toNat]? = some [pi e1], 0 ≤ x1 ∧ x1 < ((eI.els p2).length : Int) ∧ aq 1 (eI.els p2), (eI.els p2)[x1.toNat]? = some [pi e2]] (⟨eI.inb a13, (eI.get a13), eI.inb a14, (eI.get a14), trivial⟩) lU
      refine zv [] 2 [4] [] [(4, vi (i64.wrap (e1 - e2)))] [] (zd (m16 _ _ (ze (hQ1 _ _ _ ?_))))
      obtain rfl := zj h
      exact zf [vi (i64.wrap (e1 - e2))] (.one (.rfl _ rfl))
     ·exact zs (m11 _ _ (zr (zg [] 3 [0,1,5] (zd (XR.sub (zk [0,1,5]) (ih1 (i64.wrap (x1 - 1)) h))))))
    ·exact zx 0 (hQ1 _ _ _ (j1 () h _ _ (zk [])))
  exact XR.sub (zk [0,1,5]) (hL1 bf (i64.wrap ((p1.length : Int) - (1 : Int))) h)
def f7 (x1 : Int) : Option Int := aI (decide (x1 < (0 : Int))) (some (-1 : Int)) (aI (decide ((0 : Int) < x1)) (some (1 : Int)) (some (0 : Int)))
def gg (p1 p2 : gR) : Option Int := aI (!(p1.below == p2.below)) (aI p1.below (some (-1 : Int)) (some (1 : Int))) (aT (mn p1.d p2.d) fun r1 => aI p1.below (f7 (i64.wrap (0 - r1))) (f7 r1))
theorem oz (p1 p2 : gR) (r : Int) (h : gg p1 p2 = some r) : PC Tryz.prog 74 [.ag [cb p1.below, cl eI p1.d], .ag [cb p2.below, cl eI p2.d]] (vi r) := by
 unfold gg at h
 refine zF 26 Tryz.f74 (zq fun K1 m1 => zr (zg [] 3 [2,3] (zd (m1 _ _ (zq fun K2 m2 => zq fun K3 m3 => ?_)))))
 refine zr (zu [] 5 [2,3,10] [(iZ p1), [.s (.bool p2.below), .ro (eI.els p2.d)]] (zd (m3 _ _ (zC h (fun b4 h => ?_) (fun b4 h => ?_)))))
 ·refine zq fun K5 m5 => zq fun K6 m6 => zr (zv [] 2 [12] [(iZ p1)] [(12, vb p1.below)] [] (zd (m6 _ _ (zC h (fun b7 h => ?_) (fun b7 h => ?_)))))
  ·refine zq fun K8 m8 => zr (zg [] 1 [4] (zd (m8 _ _ (ze ?_))))
   obtain rfl := zj h
   exact zf [vi (-1)] (.one (.rfl _ rfl))
  ·refine zs (m5 _ _ (zq fun K9 m9 => zr (zg [] 1 [4] (zd (m9 _ _ (ze ?_))))))
   obtain rfl := zj h
   exact zf [vi 1] (.one (.rfl _ rfl))
 ·refine zs (m2 _ _ (zq fun K10 m10 => ?_))
  obtain ⟨r1, c11, h⟩ := zB h
  refine zr (zu [] 4 [2,14,16] [(iZ p1), [.s (.bool p2.below), .ro (eI.els p2.d)]] (za (uP _ _ _ c11) (zv [] 1 [2,5] [] [(2, vR (iZ p1)), (5, vi r1)] [] (zd (m10 _ _ (zq fun K12 m12 => ?_))))))
  have j1 : ∀ (x1 : Int), f7 x1 = some r → ∀ w0 w1, aL 26 0 [] w0 w1 [(5, vi x1)] [] → K12 w0 w1 := by
   intro x1 h w0 w1 hS
   unfold f7 at h
   refine m12 _ _ (XW.sub hS ?_)
   refine zq fun K15 m15 => zq fun K16 m16 => zr (zg [] 2 [5,23] (zd (m16 _ _ (zC h (fun b17 h => ?_) (fun b17 h => ?_)))))
   ·refine zq fun K18 m18 => zr (zg [] 1 [4] (zd (m18 _ _ (ze ?_))))
    obtain rfl := zj h
    exact zf [vi (-1)] (.one (.rfl _ rfl))
   ·refine zs (m15 _ _ (zq fun K19 m19 => zq fun K20 m20 => zr (zv [] 2 [25] [] [(25, vb (decide ((0 : Int) < x1)))] [] (zd (m20 _ _ ?_)))))
    refine zC h (fun b21 h => ?_) (fun b21 h => ?_)
    ·refine zq fun K22 m22 => zr (zg [] 1 [4] (zd (m22 _ _ (ze ?_))))
     obtain rfl := zj h
     exact zf [vi 1] (.one (.rfl _ rfl))
    ·refine zs (m19 _ _ (zq fun K23 m23 => zr (zg [] 1 [4] (zd (m23 _ _ (ze ?_))))))
     obtain rfl := zj h
     exact zf [vi 0] (.one (.rfl _ rfl))
  refine zq fun K13 m13 => zr (zu [] 2 [5,19] [(iZ p1)] (zd (m13 _ _ (zC h (fun b14 h => ?_) (fun b14 h => ?_)))))
  ·exact zr (zg [] 3 [5] (zd (j1 (i64.wrap (0 - r1)) h _ _ (zk [5]))))
  ·exact zs (j1 r1 h _ _ (zk [5]))
def i4 (p1 p2 : ac) : Option Int := aT (dB p1.scale (0 : Int) (12 : Int)) fun r1 => aT (dB p2.scale (0 : Int) (12 : Int)) fun r2 => aI (!(r1 == r2)) (aI r1 (some (-1 : Int)) (some (1 : Int))) (aI r1 (aT (jD p1) fun r3 => aT (jD p2) fun r4 => aT (gg r3 r4) fun r5 => aI (r5 != 0) (some r5) (aT (el p1.scale p2.scale) fun r6 => some r6)) (aI (p1.n != p2.n) (aT (el p1.n p2.n) fun r7 => some r7) (aT (el p1.scale p2.scale) fun r8 => some r8)))
abbrev Au (p1 p2 : ac) (r1 : Bool) (r3 : gR) : Fr := [(21, .ag (aD p2)), (20, .ag [cb r3.below, cl eI r3.d]), (19, .ag (aD p1)), (2, vR (ae p1)), (3, vR (ae p2)), (18, vb r1)]
theorem qI (p1 p2 : ac) (r : Int) (h : i4 p1 p2 = some r) : PC Tryz.prog 35 [.ag (aD p1), .ag (aD p2)] (vi r) := by
 unfold i4 at h
 refine zF 47 Tryz.f35 (zq fun K1 m1 => zr (zg [] 3 [2,3] (zd (m1 _ _ (zq fun K2 m2 => ?_)))))
 obtain ⟨r1, c3, h⟩ := zB h
 obtain ⟨r2, c4, h⟩ := zB h
 refine zw 5 [(12, vi p2.scale), (11, .one (.pv (.rp [(ae p2)] 0 2))), (10, vb r1), (9, vi p1.scale), (8, .one (.pv (.rp [(ae p1)] 0 2))), (2, vR (ae p1)), (3, vR (ae p2))] ?_ ?_
 ·refine zH 2 [(ae p1)] (DX.cal 73 [vi p1.scale, vi 0, vi 12] (vb r1) [(10, vb r1), (9, vi p1.scale), (8, .one (.pv (.rp [(ae p1)] 0 2))), (2, vR (ae p1)), (3, vR (ae p2))] (by kernel_rfl) (cm _ _ _ _ c3) rfl rfl (by kernel_rfl) ?_)
  exact zH 2 [(ae p2)] lU
 refine za (cm _ _ _ _ c4) (zv [] 2 [2,3,5,6] [] [(2, vR (ae p1)), (3, vR (ae p2)), (5, vb r1), (6, vb r2)] [] (zd (m2 _ _ (zq fun K5 m5 => zq fun K6 m6 => zr (zg [] 3 [2,3,5,16] ?_)))))
 refine zd (m6 _ _ (zC h (fun b7 h => ?_) (fun b7 h => ?_)))
 ·refine zq fun K8 m8 => zq fun K9 m9 => zr (zg [] 1 [17] (zd (m9 _ _ (zC h (fun b10 h => ?_) (fun b10 h => ?_)))))
  ·refine zq fun K11 m11 => zr (zv [] 1 [4] [] [(4, vi (-1))] [] (zd (m11 _ _ (ze ?_))))
   obtain rfl := zj h
   exact zf [vi (-1)] (.one (.rfl _ rfl))
  ·refine zs (m8 _ _ (zq fun K12 m12 => zr (zg [] 1 [4] (zd (m12 _ _ (ze ?_))))))
   obtain rfl := zj h
   exact zf [vi 1] (.one (.rfl _ rfl))
 ·refine zs (m5 _ _ (zq fun K13 m13 => zq fun K14 m14 => zr (zv [] 1 [2,3,18] [] [(2, vR (ae p1)), (3, vR (ae p2)), (18, vb r1)] [] (zd (m14 _ _ ?_)))))
  refine zC h (fun b15 h => ?_) (fun b15 h => ?_)
  ·refine zq fun K16 m16 => zq fun K17 m17 => ?_
   obtain ⟨r3, c18, h⟩ := zB h
   obtain ⟨r4, c19, h⟩ := zB h
   obtain ⟨r5, c20, h⟩ := zB h
   refine zw 3 (Au p1 p2 r1 r3) ?_ ?_
   ·refine zH 1 [(ae p1)] (zT (ot _ _ c18) ?_)
    exact ut 1 [(ae p2)] (Au p1 p2 r1 r3) lU
   refine za (ot _ _ c19) (za (oz _ _ _ c20) (zv [] 1 [2,3,7] [] [(2, vR (ae p1)), (3, vR (ae p2)), (7, vi r5)] [] (zd (m17 _ _ (zq fun K21 m21 => zr (zg [] 2 [2,3,7,25] ?_))))))
   refine zd (m21 _ _ (zC h (fun b22 h => ?_) (fun b22 h => ?_)))
   ·refine zq fun K23 m23 => zr (zg [] 2 [4] (zd (m23 _ _ (ze ?_))))
    obtain rfl := zj h
    exact zf [vi r5] (.one (.rfl _ rfl))
   ·refine zs (m16 _ _ (zq fun K24 m24 => ?_))
    obtain ⟨r6, c25, h⟩ := zB h
    refine zr (zv [] 4 [28,30] [(ae p1), (ae p2)] [(28, vi p1.scale), (30, vi p2.scale)] [] (za (eV _ _ _ c25) (zg [] 1 [4] (zd (m24 _ _ (ze ?_))))))
    obtain rfl := zj h
    exact zf [vi r6] (.one (.rfl _ rfl))
  ·refine zs (m13 _ _ (zq fun K26 m26 => zq fun K27 m27 => zr (zu [] 5 [2,3,36] [(ae p1), (ae p2)] (zd (m27 _ _ ?_)))))
   refine zC h (fun b28 h => ?_) (fun b28 h => ?_)
   ·refine zq fun K29 m29 => ?_
    obtain ⟨r7, c30, h⟩ := zB h
    refine zr (zv [] 4 [38,40] [(ae p1), (ae p2)] [(38, vi p1.n), (40, vi p2.n)] [] (za (eV _ _ _ c30) (zg [] 1 [4] (zd (m29 _ _ (ze ?_))))))
    obtain rfl := zj h
    exact zf [vi r7] (.one (.rfl _ rfl))
   ·refine zs (m26 _ _ (zq fun K31 m31 => ?_))
    obtain ⟨r8, c32, h⟩ := zB h
    refine zr (zv [] 4 [43,45] [(ae p1), (ae p2)] [(43, vi p1.scale), (45, vi p2.scale)] [] (za (eV _ _ _ c32) (zg [] 1 [4] (zd (m31 _ _ (ze ?_))))))
    obtain rfl := zj h
    exact zf [vi r8] (.one (.rfl _ rfl))
def kv (p1 p2 : ByteArray) : Option Int := aT (el (p1.size : Int) (p2.size : Int)) fun r2 => some r2
def hO (rec1 : Int → Option Int) (p1 p2 : ByteArray) (x1 : Int) (x2 : Bool) : Option Int := aI x2 (fL (0 ≤ x1 ∧ x1 < (p1.size : Int)) <| fL (0 ≤ x1 ∧ x1 < (p2.size : Int)) <| aT (some (((p1.data.toList.getD x1.toNat 0).toNat : Int) != ((p2.data.toList.getD x1.toNat 0).toNat : Int))) fun y1 => aI y1 (fL (0 ≤ x1 ∧ x1 < (p1.size : Int)) <| fL (0 ≤ x1 ∧ x1 < (p2.size : Int)) <| aT (el (i64.wrap ((p1.data.toList.getD x1.toNat 0).toNat : Int)) (i64.wrap ((p2.data.toList.getD x1.toNat 0).toNat : Int))) fun r1 => some r1) (rec1 (i64.wrap (x1 + 1)))) (kv p1 p2)
def dU (p1 p2 : ByteArray) : Nat → Int → Option Int
 | 0, _ => none
 | k1 + 1, x1 => aI (decide (x1 < (p1.size : Int))) (hO (dU p1 p2 k1) p1 p2 x1 (decide (x1 < (p2.size : Int)))) (hO (dU p1 p2 k1) p1 p2 x1 false)
def mL (p1 p2 : ByteArray) : Option Int := dU p1 p2 bf (0 : Int)
theorem tP (p1 p2 : ByteArray) (r : Int) (h : mL p1 p2 = some r) : PC Tryz.prog 36 [vs p1, vs p2] (vi r) := by
 unfold mL at h
 refine zF 39 Tryz.f36 (zq fun K1 m1 => zr (zg [] 1 [0,1] (zd (m1 _ _ (zq fun K2 m2 => ?_)))))
 have j2 : ∀ (_ : Unit), kv p1 p2 = some r → ∀ w0 w1, aL 39 0 [] w0 w1 [(0, vs p1), (1, vs p2)] [] → K2 w0 w1 := by
  intro _ h w0 w1 hS
  unfold kv at h
  refine m2 _ _ (XW.sub hS ?_)
  refine zq fun K18 m18 => ?_
  obtain ⟨r2, c19, h⟩ := zB h
  refine zr (zg [] 4 [35,37] (za (eV _ _ _ c19) (zv [] 1 [4] [] [(4, vi r2)] [] (zd (m18 _ _ (ze ?_))))))
  obtain rfl := zj h
  exact zf [vi r2] (.one (.rfl _ rfl))
 refine zq fun K3 m3 => zr (zg [] 1 [0,1,5] (zd (m3 _ _ (zb 0 (XW.rounds' bf (x := cd Tryz.f36 [1,0,1,0,0]) (by kernel_rfl) fun Q1 hQ1 => ?_)))))
 have hL1 : ∀ (k1 : Nat) (x1 : Int), dU p1 p2 k1 x1 = some r → XR Tryz.prog 39 0 [] (cd Tryz.f36 [1,0,1,0,0]) Q1 k1 [(0, vs p1), (1, vs p2), (5, vi x1)] [] := by
  intro k1
  induction k1 with
  | zero => intro x1 h; rw [dU.eq_1] at h; cases h
  | succ k1 ih1 =>
   intro x1 h
   rw [dU.eq_2] at h
   refine zq fun K4 m4 => zq fun K5 m5 => ?_
   have j1 : ∀ (x2 : Bool), hO (dU p1 p2 k1) p1 p2 x1 x2 = some r → ∀ w0 w1, aL 39 0 [] w0 w1 [(0, vs p1), (1, vs p2), (5, vi x1), (15, vb x2)] [] → K5 w0 w1 := by
    intro x2 h w0 w1 hS
    unfold hO at h
    refine m5 _ _ (XW.sub hS ?_)
    refine zC h (fun b7 h => ?_) (fun b7 h => ?_)
    ·refine zs (m4 _ _ (zq fun K8 m8 => zb 1 (zq fun K9 m9 => ?_)))
     obtain ⟨g10, h⟩ := zG h
     obtain ⟨g11, h⟩ := zG h
     obtain ⟨y1, hy12, h⟩ := zB h
     refine zw 6 [(23, vk .u8 ((p2.data.toList.getD x1.toNat 0).toNat : Int)), (22, vi x1), (21, vs p2), (20, vk .u8 ((p1.data.toList.getD x1.toNat 0).toNat : Int)), (19, vi x1), (18, vs p1), (0, vs p1), (1, vs p2), (5, vi x1), (15, vb x2)] ?_ ?_
     ·exact sd 6 [] [0 ≤ x1 ∧ x1 < (p1.size : Int), 0 ≤ x1 ∧ x1 < (p2.size : Int)] (⟨g10, g11, trivial⟩) lU
     refine zv [] 1 [0,1,5,24] [] [(0, vs p1), (1, vs p2), (5, vi x1), (24, vb (((p1.data.toList.getD x1.toNat 0).toNat : Int) != ((p2.data.toList.getD x1.toNat 0).toNat : Int)))] [] ?_
     rw [show (((p1.data.toList.getD x1.toNat 0).toNat : Int) != ((p2.data.toList.getD x1.toNat 0).toNat : Int)) = y1 from zj hy12]
     refine zd (m9 _ _ (zC h (fun b13 h => ?_) (fun b13 h => ?_)))
     ·refine zq fun K14 m14 => ?_
      obtain ⟨g15, h⟩ := zG h
      obtain ⟨g16, h⟩ := zG h
      obtain ⟨r1, c17, h⟩ := zB h
      refine zw 8 [(32, vi (i64.wrap ((p2.data.toList.getD x1.toNat 0).toNat : Int))), (31, vk .u8 ((p2.data.toList.getD x1.toNat 0).toNat : Int)), (30, vi x1), (29, vs p2), (28, vi (i64.wrap ((p1.data.toList.getD x1.toNat 0).toNat : Int))), (27, vk .u8 ((p1.data.toList.getD x1.toNat 0).toNat : Int)), (26, vi x1), (25, vs p1), (0, vs p1), (1, vs p2), (5, vi x1), (24, vb y1)] ?_ ?_
      ·exact sd 8 [] [0 ≤ x1 ∧ x1 < (p1.size : Int), 0 ≤ x1 ∧ x1 < (p2.size : Int)] (⟨g15, g16, trivial⟩) lU
      refine za (eV _ _ _ c17) (zg [] 1 [4] (zd (m14 _ _ (ze (hQ1 _ _ _ ?_)))))
      obtain rfl := zj h
      exact zf [vi r1] (.one (.rfl _ rfl))
     ·exact zs (m8 _ _ (zr (zv [] 3 [0,1,5] [] [(0, vs p1), (1, vs p2), (5, vi (i64.wrap (x1 + 1)))] [] (zd (XR.sub (zk [0,1,5]) (ih1 (i64.wrap (x1 + 1)) h))))))
    ·exact zx 0 (hQ1 _ _ _ (j2 () h _ _ (zk [0,1])))
   rcases zW h with ⟨b6, h⟩ | ⟨b6, h⟩
   ·exact zr (zg [] 5 [0,1,5,10] (zt 10 b6 (zg [] 5 [0,1,5,15] (zd (j1 (decide (x1 < (p2.size : Int))) h _ _ (zk [0,1,5,15]))))))
   ·exact zr (zv [] 5 [0,1,5,10] [] [(0, vs p1), (1, vs p2), (5, vi x1), (10, vb (decide (x1 < (p1.size : Int))))] [] (zt 10 b6 (zg [] 5 [0,1,5,15] (zd (j1 false h _ _ (zk [0,1,5,15]))))))
 exact XR.sub (zk [0,1,5]) (hL1 bf (0 : Int) h)
def jk (p1 p2 : ac) : Option Int := aT (el (p1.items.length : Int) (p2.items.length : Int)) fun r7 => some r7
def fE (rec1 : Int → Option Int) (q_ref1_Compare : ac → ac → Option Int) (p1 p2 : ac) (x2 : Int) (x3 : Bool) : Option Int := aI x3 (aT (at? p1.items x2) fun e1 => aT (at? p2.items x2) fun e2 => aT (q_ref1_Compare e1 e2) fun r6 => aI (r6 != 0) (some r6) (rec1 (i64.wrap (x2 + 1)))) (jk p1 p2)
def dj (q_ref1_Compare : ac → ac → Option Int) (p1 p2 : ac) : Nat → Int → Option Int
 | 0, _ => none
 | k1 + 1, x2 => aI (decide (x2 < (p1.items.length : Int))) (fE (dj q_ref1_Compare p1 p2 k1) q_ref1_Compare p1 p2 x2 (decide (x2 < (p2.items.length : Int)))) (fE (dj q_ref1_Compare p1 p2 k1) q_ref1_Compare p1 p2 x2 false)
def gW (q_ref1_Compare : ac → ac → Option Int) (p1 p2 : ac) (x1 : Bool) : Option Int := aI x1 (aT (el p1.n p2.n) fun r3 => some r3) (aI (p1.scale != p2.scale) (aT (el p1.scale p2.scale) fun r4 => some r4) (aT (mL p1.s p2.s) fun r5 => aI (r5 != 0) (some r5) (dj q_ref1_Compare p1 p2 bf (0 : Int))))
def fB (q_ref1_Compare : ac → ac → Option Int) (p1 p2 : ac) : Option Int := aI (p1.n != p2.n) (gW q_ref1_Compare p1 p2 (p1.kind != 3)) (gW q_ref1_Compare p1 p2 false)
def cu : Nat → ac → ac → Option Int
 | 0, _, _ => none
 | k0 + 1, p1, p2 => aI (!((p1.kind == 0) == (p2.kind == 0))) (aI (p1.kind == 0) (some (1 : Int)) (some (-1 : Int))) (aI (p1.kind == 0) (some (0 : Int)) (aI (p1.kind != p2.kind) (aT (el p1.kind p2.kind) fun r1 => some r1) (aI (p1.kind == 3) (aT (i4 p1 p2) fun r2 => aI (r2 != 0) (some r2) (fB (cu k0) p1 p2)) (fB (cu k0) p1 p2))))
theorem nu : ∀ (k0 : Nat) (p1 p2 : ac) (r : Int), cu k0 p1 p2 = some r → PC Tryz.prog 12 [.ag (aD p1), .ag (aD p2)] (vi r)
 | 0, _, _, r, h => by rw [cu.eq_1] at h; cases h
 | k0 + 1, p1, p2, r, h => by
  rw [cu.eq_2] at h
  refine zF 109 Tryz.f12 (zq fun K1 m1 => zr (zg [] 3 [2,3] (zd (m1 _ _ (zq fun K2 m2 => zq fun K3 m3 => ?_)))))
  refine zr (zu [] 7 [2,3,15] [(ae p1), (ae p2)] (zd (m3 _ _ (zC h (fun b4 h => ?_) (fun b4 h => ?_)))))
  ·refine zq fun K5 m5 => zq fun K6 m6 => zr (zv [] 3 [18] [(ae p1)] [(18, vb (p1.kind == 0))] [] (zd (m6 _ _ (zC h (fun b7 h => ?_) (fun b7 h => ?_)))))
   ·refine zq fun K8 m8 => zr (zg [] 1 [4] (zd (m8 _ _ (ze ?_))))
    obtain rfl := zj h
    exact zf [vi 1] (.one (.rfl _ rfl))
   ·refine zs (m5 _ _ (zq fun K9 m9 => zr (zg [] 1 [4] (zd (m9 _ _ (ze ?_))))))
    obtain rfl := zj h
    exact zf [vi (-1)] (.one (.rfl _ rfl))
  ·refine zs (m2 _ _ (zq fun K10 m10 => zq fun K11 m11 => zr (zu [] 3 [2,3,21] [(ae p1)] (zd (m11 _ _ ?_)))))
   refine zC h (fun b12 h => ?_) (fun b12 h => ?_)
   ·refine zq fun K13 m13 => zr (zg [] 1 [4] (zd (m13 _ _ (ze ?_))))
    obtain rfl := zj h
    exact zf [vi 0] (.one (.rfl _ rfl))
   ·refine zs (m10 _ _ (zq fun K14 m14 => zq fun K15 m15 => zr (zv [] 5 [2,3,26] [(ae p1), (ae p2)] [(2, vR (ae p1)), (3, vR (ae p2)), (26, vb (p1.kind != p2.kind))] [] (zd (m15 _ _ ?_)))))
    refine zC h (fun b16 h => ?_) (fun b16 h => ?_)
    ·refine zq fun K17 m17 => ?_
     obtain ⟨r1, c18, h⟩ := zB h
     refine zr (zu [] 4 [28,30] [(ae p1), (ae p2)] (za (eV _ _ _ c18) (zv [] 1 [4] [] [(4, vi r1)] [] (zd (m17 _ _ (ze ?_))))))
     obtain rfl := zj h
     exact zf [vi r1] (.one (.rfl _ rfl))
    ·refine zs (m14 _ _ (zq fun K19 m19 => ?_))
     have j1 : ∀ (_ : Unit), fB (cu k0) p1 p2 = some r → ∀ w0 w1, aL 109 0 [] w0 w1 [(2, vR (ae p1)), (3, vR (ae p2))] [] → K19 w0 w1 := by
      intro _ h w0 w1 hS
      unfold fB at h
      refine m19 _ _ (XW.sub hS ?_)
      refine zq fun K27 m27 => zq fun K28 m28 => ?_
      have j2 : ∀ (x1 : Bool), gW (cu k0) p1 p2 x1 = some r → ∀ w0 w1, aL 109 0 [] w0 w1 [(2, vR (ae p1)), (3, vR (ae p2)), (50, vb x1)] [] → K28 w0 w1 := by
       intro x1 h w0 w1 hS
       unfold gW at h
       refine m28 _ _ (XW.sub hS ?_)
       refine zC h (fun b30 h => ?_) (fun b30 h => ?_)
       ·refine zq fun K31 m31 => ?_
        obtain ⟨r3, c32, h⟩ := zB h
        refine zr (zu [] 4 [52,54] [(ae p1), (ae p2)] (za (eV _ _ _ c32) (zv [] 1 [4] [] [(4, vi r3)] [] (zd (m31 _ _ (ze ?_))))))
        obtain rfl := zj h
        exact zf [vi r3] (.one (.rfl _ rfl))
       ·refine zs (m27 _ _ (zq fun K33 m33 => zq fun K34 m34 => zr (zu [] 5 [2,3,60] [(ae p1), (ae p2)] (zd (m34 _ _ ?_)))))
        refine zC h (fun b35 h => ?_) (fun b35 h => ?_)
        ·refine zq fun K36 m36 => ?_
         obtain ⟨r4, c37, h⟩ := zB h
         refine zr (zu [] 4 [62,64] [(ae p1), (ae p2)] (zl 34 [vi p1.scale, vi p2.scale] (vi r4) [(65, vi r4), (62, vi p1.scale), (64, vi p2.scale)] (eV _ _ _ c37) (zg [] 1 [4] (zd (m36 _ _ (ze ?_))))))
         obtain rfl := zj h
         exact zf [vi r4] (.one (.rfl _ rfl))
        ·refine zs (m33 _ _ (zq fun K38 m38 => zq fun K39 m39 => ?_))
         obtain ⟨r5, c40, h⟩ := zB h
         refine zr (zu [] 4 [2,3,67,69] [(ae p1), (ae p2)] (zl 36 [vs p1.s, vs p2.s] (vi r5) [(70, vi r5), (2, vR (ae p1)), (3, vR (ae p2)), (67, vs p1.s), (69, vs p2.s)] (tP _ _ _ c40) (zg [] 1 [2,3,6] (zd (m39 _ _ (zq fun K41 m41 => zr ?_))))))
         refine zg [] 2 [2,3,6,72] (zd (m41 _ _ (zC h (fun b42 h => ?_) (fun b42 h => ?_))))
         ·refine zq fun K43 m43 => zr (zv [] 2 [4] [] [(4, vi r5)] [] (zd (m43 _ _ (ze ?_))))
          obtain rfl := zj h
          exact zf [vi r5] (.one (.rfl _ rfl))
         ·refine zs (m38 _ _ (zq fun K44 m44 => ?_))
          have j4 : ∀ (_ : Unit), jk p1 p2 = some r → ∀ w0 w1, aL 109 0 [] w0 w1 [(2, vR (ae p1)), (3, vR (ae p2))] [] → K44 w0 w1 := by
           intro _ h w0 w1 hS
           unfold jk at h
           refine m44 _ _ (XW.sub hS ?_)
           refine zq fun K58 m58 => ?_
           obtain ⟨r7, c59, h⟩ := zB h
           refine zr (zv [] 3 [3,104] [[pi p1.kind, pi p1.n, pi p1.scale, .s (.string p1.s), .ro (aa.els p1.items)]] [(3, vR [pi p2.kind, pi p2.n, pi p2.scale, .s (.string p2.s), .ro (aa.els p2.items)]), (104, vi ((aa.els p1.items).length : Int))] [] ?_)
           rw [aa.len p1.items]
           refine zv [] 3 [104,107] [[pi p2.kind, pi p2.n, pi p2.scale, .s (.string p2.s), .ro (aa.els p2.items)]] [(104, vi (p1.items.length : Int)), (107, vi ((aa.els p2.items).length : Int))] [] ?_
           rw [aa.len p2.items]
           refine za (eV _ _ _ c59) (zg [] 1 [4] (zd (m58 _ _ (ze ?_))))
           obtain rfl := zj h
           exact zf [vi r7] (.one (.rfl _ rfl))
          refine zq fun K45 m45 => zr (zg [] 1 [2,3,7] (zd (m45 _ _ (zb 0 (XW.rounds' bf (x := cd Tryz.f12 [1,1,1,1,1,1,1,1,0,1,0,0]) (by kernel_rfl) fun Q1 hQ1 => ?_)))))
          have hL1 : ∀ (k1 : Nat) (x2 : Int), dj (cu k0) p1 p2 k1 x2 = some r → XR Tryz.prog 109 0 [] (cd Tryz.f12 [1,1,1,1,1,1,1,1,0,1,0,0]) Q1 k1 [(2, vR (ae p1)), (3, vR (ae p2)), (7, vi x2)] [] := by
           intro k1
           induction k1 with
           | zero => intro x2 h; rw [dj.eq_1] at h; cases h
           | succ k1 ih1 =>
            intro x2 h
            rw [dj.eq_2] at h
            refine zq fun K46 m46 => zq fun K47 m47 => ?_
            have j3 : ∀ (x3 : Bool), fE (dj (cu k0) p1 p2 k1) (cu k0) p1 p2 x2 x3 = some r → ∀ w0 w1, aL 109 0 [] w0 w1 [(2, vR (ae p1)), (3, vR (ae p2)), (7, vi x2), (85, vb x3)] [] → K47 w0 w1 := by
             intro x3 h w0 w1 hS
             unfold fE at h
             refine m47 _ _ (XW.sub hS ?_)
             refine zC h (fun b49 h => ?_) (fun b49 h => ?_)
             ·refine zs (m46 _ _ (zq fun K50 m50 => zb 1 (zq fun K51 m51 => ?_)))
              obtain ⟨e1, a52, h⟩ := zB h
              obtain ⟨e2, a53, h⟩ := zB h
              obtain ⟨r6, c54, h⟩ := zB h
              refine zw 10 [(97, .ag [ci e2.kind, ci e2.n, ci e2.scale, cj e2.s, cl aa e2.items]), (96, .one (.pv (.rp (aa.els p2.items) x2.toNat 0))), (95, vi x2), (94, vl aa p2.items), (93, .one (.pv (.rp [(ae p2)] 0 4))), (92, .ag [ci e1.kind, ci e1.n, ci e1.scale, cj e1.s, cl aa e1.items]), (91, .one (.pv (.rp (aa.els p1.items) x2.toNat 0))), (90, vi x2), (89, vl aa p1.items), (88, .one (.pv (.rp [(ae p1)] 0 4))), (2, vR (ae p1)), (3, vR (ae p2)), (7, vi x2), (85, vb x3)] ?_ ?_
              ·refine sd 10 [(ae p1), [pi e1.kind, pi e1.n, pi e1.scale, .s (.string e1.s), .ro (aa.els e1.items)], (ae p2), [pi e2.kind, pi e2.n, pi e2.scale, .s (.string e2.s), .ro (aa.els e2.items)]] [([(ae p1)] : List (List PV))[0]? = some (ae p1), 0 ≤ x2 ∧ x2 < ((aa.els p1.items).length : Int) ∧ aq 5 (aa.els p1.items), (aa.els p1.items)[x2.toNat]? = some [pi e1.kind, pi e1.n, pi e1.scale, .s (.string e1.s), .ro (aa.els e1.items)], ([(ae p2)] : List (List PV))[0]? = some (ae p2), 0 ≤ x2 ∧ x2 < ((aa.els p2.items).length : Int) ∧ aq 5 (aa.els p2.items), (aa.els p2.items)[x2.toNat]? = some [pi e2.kind, pi e2.n, pi e2.scale, .s (.string e2.s), .ro (aa.els e2.items)]] (⟨rfl, aa.inb a52, ((aa.get a52).trans (by cases e1; rfl)), rfl, aa.inb a53, ((aa.get a53).trans (by cases e2; rfl)), trivial⟩) ?_
               exact lU
              refine za (nu k0 _ _ _ c54) (zg [] 1 [2,3,7,8] (zd (m51 _ _ (zq fun K55 m55 => zr (zv [] 2 [2,3,7,8,100] [] [(2, vR (ae p1)), (3, vR (ae p2)), (7, vi x2), (8, vi r6), (100, vb (r6 != 0))] [] (zd ?_))))))
              refine m55 _ _ (zC h (fun b56 h => ?_) (fun b56 h => ?_))
              ·refine zq fun K57 m57 => zr (zg [] 2 [4] (zd (m57 _ _ (ze (hQ1 _ _ _ ?_)))))
               obtain rfl := zj h
               exact zf [vi r6] (.one (.rfl _ rfl))
              ·exact zs (m50 _ _ (zr (zg [] 3 [2,3,7] (zd (XR.sub (zk [2,3,7]) (ih1 (i64.wrap (x2 + 1)) h))))))
             ·exact zx 0 (hQ1 _ _ _ (j4 () h _ _ (zk [2,3])))
            rcases zW h with ⟨b48, h⟩ | ⟨b48, h⟩
            ·refine zr (zv [] 4 [2,3,7,74,77] [[pi p1.kind, pi p1.n, pi p1.scale, .s (.string p1.s), .ro (aa.els p1.items)]] [(2, vR [pi p1.kind, pi p1.n, pi p1.scale, .s (.string p1.s), .ro (aa.els p1.items)]), (3, vR [pi p2.kind, pi p2.n, pi p2.scale, .s (.string p2.s), .ro (aa.els p2.items)]), (7, vi x2), (74, vi x2), (77, vi ((aa.els p1.items).length : Int))] [] ?_)
             rw [aa.len p1.items]
             refine zg [] 2 [2,3,7,79] (zt 79 b48 (zv [] 4 [2,3,7,79,80,83] [[pi p2.kind, pi p2.n, pi p2.scale, .s (.string p2.s), .ro (aa.els p2.items)]] [(2, vR [pi p1.kind, pi p1.n, pi p1.scale, .s (.string p1.s), .ro (aa.els p1.items)]), (3, vR [pi p2.kind, pi p2.n, pi p2.scale, .s (.string p2.s), .ro (aa.els p2.items)]), (7, vi x2), (79, vb true), (80, vi x2), (83, vi ((aa.els p2.items).length : Int))] [] ?_))
             rw [aa.len p2.items]
             exact zg [] 2 [2,3,7,85] (zd (j3 (decide (x2 < (p2.items.length : Int))) h _ _ (zk [2,3,7,85])))
            ·refine zr (zv [] 4 [2,3,7,74,77] [[pi p1.kind, pi p1.n, pi p1.scale, .s (.string p1.s), .ro (aa.els p1.items)]] [(2, vR [pi p1.kind, pi p1.n, pi p1.scale, .s (.string p1.s), .ro (aa.els p1.items)]), (3, vR [pi p2.kind, pi p2.n, pi p2.scale, .s (.string p2.s), .ro (aa.els p2.items)]), (7, vi x2), (74, vi x2), (77, vi ((aa.els p1.items).length : Int))] [] ?_)
             rw [aa.len p1.items]
             exact zg [] 2 [2,3,7,79] (zt 79 b48 (zg [] 6 [2,3,7,85] (zd (j3 false h _ _ (zk [2,3,7,85])))))
          exact XR.sub (zk [2,3,7]) (hL1 bf (0 : Int) h)
      rcases zW h with ⟨b29, h⟩ | ⟨b29, h⟩
      ·exact zr (zu [] 6 [2,3,46] [(ae p1), (ae p2)] (zt 46 b29 (zu [] 4 [2,3,50] [(ae p1)] (zd (j2 (p1.kind != 3) h _ _ (zk [2,3,50]))))))
      ·exact zr (zv [] 6 [2,3,46] [(ae p1), (ae p2)] [(2, vR (ae p1)), (3, vR (ae p2)), (46, vb (p1.n != p2.n))] [] (zt 46 b29 (zg [] 4 [2,3,50] (zd (j2 false h _ _ (zk [2,3,50]))))))
     refine zq fun K20 m20 => zr (zu [] 3 [2,3,34] [(ae p1)] (zd (m20 _ _ (zC h (fun b21 h => ?_) (fun b21 h => ?_)))))
     ·refine zq fun K22 m22 => ?_
      obtain ⟨r2, c23, h⟩ := zB h
      refine zr (zu [] 2 [2,3,35,36] [(ae p1), (ae p2)] ?_)
      refine zl 35 [.ag (aD p1), .ag (aD p2)] (vi r2) [(37, vi r2), (2, vR (ae p1)), (3, vR (ae p2)), (35, .ag (aD p1)), (36, .ag (aD p2))] (qI _ _ _ c23) (zg [] 1 [2,3,5] ?_)
      refine zd (m22 _ _ (zq fun K24 m24 => zr (zg [] 2 [2,3,5,39] (zd (m24 _ _ (zC h (fun b25 h => ?_) (fun b25 h => ?_)))))))
      ·refine zq fun K26 m26 => zr (zv [] 2 [4] [] [(4, vi r2)] [] (zd (m26 _ _ (ze ?_))))
       obtain rfl := zj h
       exact zf [vi r2] (.one (.rfl _ rfl))
      ·exact zs (j1 () h _ _ (zk [2,3]))
     ·exact zs (j1 () h _ _ (zk [2,3]))
def gv (p1 p2 : (List ac)) : Option Int := aT (cu bf (ac.mk (6 : Int) (0 : Int) (0 : Int) ByteArray.empty p1) (ac.mk (6 : Int) (0 : Int) (0 : Int) ByteArray.empty p2)) fun r1 => some r1
theorem oU (p1 p2 : (List ac)) (r : Int) (h : gv p1 p2 = some r) : PC Tryz.prog 60 [vl aa p1, vl aa p2] (vi r) := by
 unfold gv at h
 refine zF 10 Tryz.f60 (zq fun K1 m1 => zr (zg [] 1 [0,1] (zd (m1 _ _ (zq fun K2 m2 => ?_)))))
 obtain ⟨r1, c3, h⟩ := zB h
 refine zr (zg [] 4 [6,8] (zl 12 [.ag [ci 6, ci 0, ci 0, cj ByteArray.empty, cl aa p1], .ag [ci 6, ci 0, ci 0, cj ByteArray.empty, cl aa p2]] (vi r1) [(9, vi r1), (6, .ag [ci 6, ci 0, ci 0, cj ByteArray.empty, cl aa p1]), (8, .ag [ci 6, ci 0, ci 0, cj ByteArray.empty, cl aa p2])] (nu bf _ _ _ c3) (zg [] 1 [4] (zd (m2 _ _ (ze ?_))))))
 obtain rfl := zj h
 exact zf [vi r1] (.one (.rfl _ rfl))
def jI (rec1 : Int → Option Bool) (x1 : Int) (x2 : Bool) : Option Bool := aI x2 (some false) (rec1 (i64.wrap (x1 + 1)))
def mM : Option Bool := some true
def eB (p1 p2 : (List (List ac))) : Nat → Int → Option Bool
 | 0, _ => none
 | k1 + 1, x1 => aI (decide (x1 < (p1.length : Int))) (aT (at? p1 x1) fun e1 => aT (at? p2 x1) fun e2 => aI ((e1.length : Int) != (e2.length : Int)) (jI (eB p1 p2 k1) x1 true) (aT (gv e1 e2) fun r1 => jI (eB p1 p2 k1) x1 (r1 != 0))) (mM)
def mr (p1 p2 : (List (List ac))) : Option Bool := aI ((p1.length : Int) != (p2.length : Int)) (some false) (eB p1 p2 bf (0 : Int))
theorem vB (p1 p2 : (List (List ac))) (r : Bool) (h : mr p1 p2 = some r) : PC Tryz.prog 19 [vl (eL aa) p1, vl (eL aa) p2] (vb r) := by
 unfold mr at h
 refine zF 40 Tryz.f19 (zq fun K1 m1 => zr (zg [] 1 [0,1] (zd (m1 _ _ (zq fun K2 m2 => zq fun K3 m3 => ?_)))))
 refine zr (zv [] 2 [0,1,7] [] [(0, vl (eL aa) p1), (1, vl (eL aa) p2), (7, vi (((eL aa).els p1).length : Int))] [] ?_)
 rw [(eL aa).len p1]
 refine zv [] 2 [0,1,7,9] [] [(0, vl (eL aa) p1), (1, vl (eL aa) p2), (7, vi (p1.length : Int)), (9, vi (((eL aa).els p2).length : Int))] [] ?_
 rw [(eL aa).len p2]
 refine zg [] 1 [0,1,10] (zd (m3 _ _ (zC h (fun b4 h => ?_) (fun b4 h => ?_))))
 ·refine zq fun K5 m5 => zr (zg [] 1 [4] (zd (m5 _ _ (ze ?_))))
  obtain rfl := zj h
  exact zf [vb false] (.one (.rfl _ rfl))
 ·refine zs (m2 _ _ (zq fun K6 m6 => ?_))
  have j2 : ∀ (_ : Unit), mM = some r → ∀ w0 w1, aL 40 0 [] w0 w1 [] [] → K6 w0 w1 := by
   intro _ h w0 w1 hS
   unfold mM at h
   refine m6 _ _ (XW.sub hS ?_)
   refine zq fun K20 m20 => zr (zg [] 1 [4] (zd (m20 _ _ (ze ?_))))
   obtain rfl := zj h
   exact zf [vb true] (.one (.rfl _ rfl))
  refine zq fun K7 m7 => zr (zv [] 2 [0,1,12] [] [(0, vl (eL aa) p1), (1, vl (eL aa) p2), (12, vi (((eL aa).els p1).length : Int))] [] ?_)
  rw [(eL aa).len p1]
  refine zg [] 1 [0,1,12,13] (zd (m7 _ _ (zb 0 (XW.rounds' bf (x := cd Tryz.f19 [1,1,0,1,0,0]) (by kernel_rfl) fun Q1 hQ1 => ?_))))
  have hL1 : ∀ (k1 : Nat) (x1 : Int), eB p1 p2 k1 x1 = some r → XR Tryz.prog 40 0 [] (cd Tryz.f19 [1,1,0,1,0,0]) Q1 k1 [(0, vl (eL aa) p1), (1, vl (eL aa) p2), (12, vi (p1.length : Int)), (13, vi x1)] [] := by
   intro k1
   induction k1 with
   | zero => intro x1 h; rw [eB.eq_1] at h; cases h
   | succ k1 ih1 =>
    intro x1 h
    rw [eB.eq_2] at h
    refine zq fun K8 m8 => zr (zg [] 1 [0,1,12,13,14] (zd (m8 _ _ (zq fun K9 m9 => zC h (fun b10 h => ?_) (fun b10 h => ?_)))))
    ·refine zs (m9 _ _ (zq fun K11 m11 => zb 1 (zq fun K12 m12 => zr (zg [] 2 [0,1,5,12,13] (zd ?_)))))
     refine m12 _ _ (zq fun K13 m13 => ?_)
     have j1 : ∀ (x2 : Bool), jI (eB p1 p2 k1) x1 x2 = some r → ∀ w0 w1, aL 40 0 [] w0 w1 [(0, vl (eL aa) p1), (1, vl (eL aa) p2), (12, vi (p1.length : Int)), (13, vi x1), (38, vb x2)] [] → K13 w0 w1 := by
      intro x2 h w0 w1 hS
      unfold jI at h
      refine m13 _ _ (XW.sub hS ?_)
      refine zC h (fun b18 h => ?_) (fun b18 h => ?_)
      ·refine zq fun K19 m19 => zr (zg [] 1 [4] (zd (m19 _ _ (ze (hQ1 _ _ _ ?_)))))
       obtain rfl := zj h
       exact zf [vb false] (.one (.rfl _ rfl))
      ·exact zs (m11 _ _ (zr (zg [] 2 [0,1,12,13] (zd (XR.sub (zk [0,1,12,13]) (ih1 (i64.wrap (x1 + 1)) h))))))
     obtain ⟨e1, a14, h⟩ := zB h
     obtain ⟨e2, a15, h⟩ := zB h
     rcases zW h with ⟨b16, h⟩ | ⟨b16, h⟩
     ·refine zw 20 [(35, .tp []), (34, .tp []), (33, .tp []), (32, .tp []), (31, .tp []), (30, .tp []), (29, .tp []), (28, .tp []), (27, vb true), (26, vb ((e1.length : Int) != (e2.length : Int))), (25, vi (e2.length : Int)), (24, vl aa e2), (23, .one (.pv (.rp ((eL aa).els p2) x1.toNat 0))), (22, vi x1), (21, vl (eL aa) p2), (20, vi (e1.length : Int)), (19, vl aa e1), (18, .one (.pv (.rp ((eL aa).els p1) x1.toNat 0))), (17, vi x1), (16, vl (eL aa) p1), (0, vl (eL aa) p1), (1, vl (eL aa) p2), (5, vi x1), (12, vi (p1.length : Int)), (13, vi x1)] ?_ ?_
      ·refine vI 5 [[.ro (aa.els e1)]] [(20, vi ((aa.els e1).length : Int)), (19, vl aa e1), (18, .one (.pv (.rp ((eL aa).els p1) x1.toNat 0))), (17, vi x1), (16, vl (eL aa) p1), (0, vl (eL aa) p1), (1, vl (eL aa) p2), (5, vi x1), (12, vi (p1.length : Int)), (13, vi x1)] [0 ≤ x1 ∧ x1 < (((eL aa).els p1).length : Int) ∧ aq 1 ((eL aa).els p1), ((eL aa).els p1)[x1.toNat]? = some [.ro (aa.els e1)]] (⟨(eL aa).inb a14, ((eL aa).get a14), trivial⟩) ?_
       rw [aa.len e1]
       refine vI 5 [[.ro (aa.els e2)]] [(25, vi ((aa.els e2).length : Int)), (24, vl aa e2), (23, .one (.pv (.rp ((eL aa).els p2) x1.toNat 0))), (22, vi x1), (21, vl (eL aa) p2), (20, vi (e1.length : Int)), (19, vl aa e1), (18, .one (.pv (.rp ((eL aa).els p1) x1.toNat 0))), (17, vi x1), (16, vl (eL aa) p1), (0, vl (eL aa) p1), (1, vl (eL aa) p2), (5, vi x1), (12, vi (p1.length : Int)), (13, vi x1)] [0 ≤ x1 ∧ x1 < (((eL aa).els p2).length : Int) ∧ aq 1 ((eL aa).els p2), ((eL aa).els p2)[x1.toNat]? = some [.ro (aa.els e2)]] (⟨(eL aa).inb a15, ((eL aa).get a15), trivial⟩) ?_
       rw [aa.len e2]
       refine ut 2 [] [(27, vb ((e1.length : Int) != (e2.length : Int))), (26, vb ((e1.length : Int) != (e2.length : Int))), (25, vi (e2.length : Int)), (24, vl aa e2), (23, .one (.pv (.rp ((eL aa).els p2) x1.toNat 0))), (22, vi x1), (21, vl (eL aa) p2), (20, vi (e1.length : Int)), (19, vl aa e1), (18, .one (.pv (.rp ((eL aa).els p1) x1.toNat 0))), (17, vi x1), (16, vl (eL aa) p1), (0, vl (eL aa) p1), (1, vl (eL aa) p2), (5, vi x1), (12, vi (p1.length : Int)), (13, vi x1)] ?_
       exact DX.eq (fr1 := [(27, vb true), (26, vb ((e1.length : Int) != (e2.length : Int))), (25, vi (e2.length : Int)), (24, vl aa e2), (23, .one (.pv (.rp ((eL aa).els p2) x1.toNat 0))), (22, vi x1), (21, vl (eL aa) p2), (20, vi (e1.length : Int)), (19, vl aa e1), (18, .one (.pv (.rp ((eL aa).els p1) x1.toNat 0))), (17, vi x1), (16, vl (eL aa) p1), (0, vl (eL aa) p1), (1, vl (eL aa) p2), (5, vi x1), (12, vi (p1.length : Int)), (13, vi x1)]) (by rw [b16]) (BB 8 lU)
      exact zv [] 3 [0,1,12,13,38] [] [(0, vl (eL aa) p1), (1, vl (eL aa) p2), (12, vi (p1.length : Int)), (13, vi x1), (38, vb true)] [] (zd (j1 true h _ _ (zk [0,1,12,13,38])))
     ·obtain ⟨r1, c17, h⟩ := zB h
      refine zw 20 [(35, vl aa e2), (34, .one (.pv (.rp ((eL aa).els p2) x1.toNat 0))), (33, vi x1), (32, vl (eL aa) p2), (31, vl aa e1), (30, .one (.pv (.rp ((eL aa).els p1) x1.toNat 0))), (29, vi x1), (28, vl (eL aa) p1), (27, vb false), (26, vb ((e1.length : Int) != (e2.length : Int))), (25, vi (e2.length : Int)), (24, vl aa e2), (23, .one (.pv (.rp ((eL aa).els p2) x1.toNat 0))), (22, vi x1), (21, vl (eL aa) p2), (20, vi (e1.length : Int)), (19, vl aa e1), (18, .one (.pv (.rp ((eL aa).els p1) x1.toNat 0))), (17, vi x1), (16, vl (eL aa) p1), (0, vl (eL aa) p1), (1, vl (eL aa) p2), (5, vi x1), (12, vi (p1.length : Int)), (13, vi x1)] ?_ ?_
      ·refine vI 5 [[.ro (aa.els e1)]] [(20, vi ((aa.els e1).length : Int)), (19, vl aa e1), (18, .one (.pv (.rp ((eL aa).els p1) x1.toNat 0))), (17, vi x1), (16, vl (eL aa) p1), (0, vl (eL aa) p1), (1, vl (eL aa) p2), (5, vi x1), (12, vi (p1.length : Int)), (13, vi x1)] [0 ≤ x1 ∧ x1 < (((eL aa).els p1).length : Int) ∧ aq 1 ((eL aa).els p1), ((eL aa).els p1)[x1.toNat]? = some [.ro (aa.els e1)]] (⟨(eL aa).inb a14, ((eL aa).get a14), trivial⟩) ?_
       rw [aa.len e1]
       refine vI 5 [[.ro (aa.els e2)]] [(25, vi ((aa.els e2).length : Int)), (24, vl aa e2), (23, .one (.pv (.rp ((eL aa).els p2) x1.toNat 0))), (22, vi x1), (21, vl (eL aa) p2), (20, vi (e1.length : Int)), (19, vl aa e1), (18, .one (.pv (.rp ((eL aa).els p1) x1.toNat 0))), (17, vi x1), (16, vl (eL aa) p1), (0, vl (eL aa) p1), (1, vl (eL aa) p2), (5, vi x1), (12, vi (p1.length : Int)), (13, vi x1)] [0 ≤ x1 ∧ x1 < (((eL aa).els p2).length : Int) ∧ aq 1 ((eL aa).els p2), ((eL aa).els p2)[x1.toNat]? = some [.ro (aa.els e2)]] (⟨(eL aa).inb a15, ((eL aa).get a15), trivial⟩) ?_
       rw [aa.len e2]
       refine ut 2 [] [(27, vb ((e1.length : Int) != (e2.length : Int))), (26, vb ((e1.length : Int) != (e2.length : Int))), (25, vi (e2.length : Int)), (24, vl aa e2), (23, .one (.pv (.rp ((eL aa).els p2) x1.toNat 0))), (22, vi x1), (21, vl (eL aa) p2), (20, vi (e1.length : Int)), (19, vl aa e1), (18, .one (.pv (.rp ((eL aa).els p1) x1.toNat 0))), (17, vi x1), (16, vl (eL aa) p1), (0, vl (eL aa) p1), (1, vl (eL aa) p2), (5, vi x1), (12, vi (p1.length : Int)), (13, vi x1)] ?_
       refine DX.eq (fr1 := [(27, vb false), (26, vb ((e1.length : Int) != (e2.length : Int))), (25, vi (e2.length : Int)), (24, vl aa e2), (23, .one (.pv (.rp ((eL aa).els p2) x1.toNat 0))), (22, vi x1), (21, vl (eL aa) p2), (20, vi (e1.length : Int)), (19, vl aa e1), (18, .one (.pv (.rp ((eL aa).els p1) x1.toNat 0))), (17, vi x1), (16, vl (eL aa) p1), (0, vl (eL aa) p1), (1, vl (eL aa) p2), (5, vi x1), (12, vi (p1.length : Int)), (13, vi x1)]) (by rw [b16]) ?_
       exact sd 8 [[.ro (aa.els e1)], [.ro (aa.els e2)]] [0 ≤ x1 ∧ x1 < (((eL aa).els p1).length : Int) ∧ aq 1 ((eL aa).els p1), ((eL aa).els p1)[x1.toNat]? = some [.ro (aa.els e1)], 0 ≤ x1 ∧ x1 < (((eL aa).els p2).length : Int) ∧ aq 1 ((eL aa).els p2), ((eL aa).els p2)[x1.toNat]? = some [.ro (aa.els e2)]] (⟨(eL aa).inb a14, ((eL aa).get a14), (eL aa).inb a15, ((eL aa).get a15), trivial⟩) lU
      exact za (oU _ _ _ c17) (zg [] 2 [0,1,12,13,38] (zd (j1 (r1 != 0) h _ _ (zk [0,1,12,13,38]))))
    ·exact zx 0 (hQ1 _ _ _ (j2 () h _ _ (zk [])))
  exact XR.sub (zk [0,1,12,13]) (hL1 bf (0 : Int) h)
def de (x1 : Bool) : Option Bool := some x1
def dL (p1 : (List ah)) (p2 : (List (List ac))) : Option Bool := aT (mb) fun r1 => aI (!r1) (some false) (aT (iD p1 p2) fun r2 => aI (r2 != 0) (some true) (aT (iK p1 p2) fun r3 => aI (r3.2 != 0) (some false) (aT (gU p1 r3.1) fun r4 => aI (r4.2 == 0) (aT (mr r4.1 p2) fun r5 => de r5) (de false))))
theorem lO (p1 : (List ah)) (p2 : (List (List ac))) (r : Bool) (h : dL p1 p2 = some r) : PC Tryz.prog 6 [vl ab p1, vl (eL aa) p2] (vb r) := by
 unfold dL at h
 refine zF 35 Tryz.f6 (zq fun K1 m1 => zr (zg [] 1 [0,1] (zd (m1 _ _ (zq fun K2 m2 => zq fun K3 m3 => ?_)))))
 obtain ⟨r1, c4, h⟩ := zB h
 refine zr (za (su _ c4) (zv [] 1 [0,1,9] [] [(0, vl ab p1), (1, vl (eL aa) p2), (9, vb (!r1))] [] (zd (m3 _ _ (zC h (fun b5 h => ?_) (fun b5 h => ?_))))))
 ·refine zq fun K6 m6 => zr (zg [] 1 [4] (zd (m6 _ _ (ze ?_))))
  obtain rfl := zj h
  exact zf [vb false] (.one (.rfl _ rfl))
 ·refine zs (m2 _ _ (zq fun K7 m7 => zq fun K8 m8 => ?_))
  obtain ⟨r2, c9, h⟩ := zB h
  refine zr (zg [] 2 [0,1,10,11] (zl 20 [vl ab p1, vl (eL aa) p2] (vi r2) [(12, vi r2), (0, vl ab p1), (1, vl (eL aa) p2), (10, vl ab p1), (11, vl (eL aa) p2)] (qb _ _ _ c9) (zg [] 1 [0,1,13] (zd (m8 _ _ (zC h (fun b10 h => ?_) (fun b10 h => ?_)))))))
  ·refine zq fun K11 m11 => zr (zg [] 1 [4] (zd (m11 _ _ (ze ?_))))
   obtain rfl := zj h
   exact zf [vb true] (.one (.rfl _ rfl))
  ·refine zs (m7 _ _ (zq fun K12 m12 => ?_))
   obtain ⟨r3, c13, h⟩ := zB h
   refine zr (zv [] 2 [0,1,15,16] [] [(0, vl ab p1), (1, vl (eL aa) p2), (15, vl ab p1), (16, vl (eL aa) p2)] [] (za (nJ _ _ _ c13) (zg [] 5 [0,1,5,6] (zd (m12 _ _ (zq fun K14 m14 => zq fun K15 m15 => ?_))))))
   refine zr (zv [] 2 [0,1,5,21] [] [(0, vl ab p1), (1, vl (eL aa) p2), (5, vl af r3.1), (21, vb (r3.2 != 0))] [] (zd (m15 _ _ (zC h (fun b16 h => ?_) (fun b16 h => ?_)))))
   ·refine zq fun K17 m17 => zr (zg [] 1 [4] (zd (m17 _ _ (ze ?_))))
    obtain rfl := zj h
    exact zf [vb false] (.one (.rfl _ rfl))
   ·refine zs (m14 _ _ (zq fun K18 m18 => ?_))
    obtain ⟨r4, c19, h⟩ := zB h
    refine zr (zg [] 2 [1,23,24] (zl 17 [vl ab p1, vl af r3.1] (.tp [vl (eL aa) r4.1, vi r4.2]) [(25, .tp [vl (eL aa) r4.1, vi r4.2]), (1, vl (eL aa) p2), (23, vl ab p1), (24, vl af r3.1)] (pE _ _ _ c19) (zg [] 5 [1,6,7] (zd (m18 _ _ (zq fun K20 m20 => ?_))))))
    have j1 : ∀ (x1 : Bool), de x1 = some r → ∀ w0 w1, aL 35 0 [] w0 w1 [(4, vb x1)] [] → K20 w0 w1 := by
     intro x1 h w0 w1 hS
     unfold de at h
     refine m20 _ _ (XW.sub hS ?_)
     refine ze ?_
     obtain rfl := zj h
     exact zf [vb x1] (.one (.rfl _ rfl))
    rcases zW h with ⟨b21, h⟩ | ⟨b21, h⟩
    ·obtain ⟨r5, c22, h⟩ := zB h
     exact zr (zg [] 3 [1,7,30] (zt 30 b21 (zv [] 2 [30,31,32] [] [(30, vb true), (31, vl (eL aa) r4.1), (32, vl (eL aa) p2)] [] (za (vB _ _ _ c22) (zg [] 2 [4] (zd (j1 r5 h _ _ (zk [4]))))))))
    ·exact zr (zv [] 3 [1,7,30] [] [(1, vl (eL aa) p2), (7, vl (eL aa) r4.1), (30, vb (r4.2 == 0))] [] (zt 30 b21 (zg [] 5 [4] (zd (j1 false h _ _ (zk [4]))))))
end Go.Proofs.YtmaemlebpjnmoaaGreatDoor
