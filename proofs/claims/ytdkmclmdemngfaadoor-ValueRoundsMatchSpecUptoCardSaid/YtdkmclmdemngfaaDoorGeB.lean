/- Printed by a program: what the functions compute, and the proofs of their contracts. -/
import Derived.Test.YtdkmclmdemngfaaDoorGeA
namespace Go.Proofs.YtdkmclmdemngfaaDoor
open Go.SX Go
set_option linter.unusedVariables false
set_option linter.unusedSimpArgs false
set_option maxRecDepth 100000
set_option maxHeartbeats 8000000

def value_wide_quo_j2 (rec1 : Int → Int → Int → Int → Bool → Int → Int → Int → Int → Int → Option (GWide × GWide)) (x1 : Int) (z11 : Int) (z12 : Int) (z13 : Int) (z14 : Int) (z15 : Bool) (z16 : Int) (z17 : Int) (z18 : Int) (z19 : Int) : Option (GWide × GWide) :=
    rec1 z11 z12 z13 z14 z15 z16 z17 z18 z19 (IntKind.i64.wrap (x1 - (1 : Int)))

def value_wide_quo_j1 (rec1 : Int → Int → Int → Int → Bool → Int → Int → Int → Int → Int → Option (GWide × GWide)) (p2 : GWide) (z1 : Int) (z2 : Int) (z3 : Int) (z4 : Int) (x1 : Int) (r1 : GWide) (z10 : Int) : Option (GWide × GWide) :=
    bnd (value_compareSize (GWide.mk r1.neg (z10, r1.size.2.1, r1.size.2.2.1, r1.size.2.2.2)) (GWide.mk p2.neg (p2.size.1, p2.size.2.1, p2.size.2.2.1, p2.size.2.2.2))) fun r2 =>
    ift (decide ((0 : Int) ≤ r2))
      (bnd (value_wide_minus BIG (GWide.mk false (z10, r1.size.2.1, r1.size.2.2.1, r1.size.2.2.2)) (GWide.mk false (p2.size.1, p2.size.2.1, p2.size.2.2.1, p2.size.2.2.2))) fun r3 =>
       ift ((IntKind.i64.wrap (x1.tdiv (64 : Int))) == (0 : Int))
         (grd (0 ≤ (x1.tmod (64 : Int))) <|
          bnd (some (IntKind.u64.wrap ((1 : Int) * 2 ^ (min (x1.tmod (64 : Int)).toNat (IntKind.u64).bits)))) fun y19 =>
          bnd (some (IntKind.u64.wrap (BitVec.ofInt (IntKind.u64).bits z1 ||| BitVec.ofInt (IntKind.u64).bits y19).toNat)) fun y20 =>
          value_wide_quo_j2 rec1 x1 y20 z2 z3 z4 r3.neg r3.size.1 r3.size.2.1 r3.size.2.2.1 r3.size.2.2.2)
         (ift ((IntKind.i64.wrap (x1.tdiv (64 : Int))) == (1 : Int))
            (grd (0 ≤ (x1.tmod (64 : Int))) <|
             bnd (some (IntKind.u64.wrap ((1 : Int) * 2 ^ (min (x1.tmod (64 : Int)).toNat (IntKind.u64).bits)))) fun y17 =>
             bnd (some (IntKind.u64.wrap (BitVec.ofInt (IntKind.u64).bits z2 ||| BitVec.ofInt (IntKind.u64).bits y17).toNat)) fun y18 =>
             value_wide_quo_j2 rec1 x1 z1 y18 z3 z4 r3.neg r3.size.1 r3.size.2.1 r3.size.2.2.1 r3.size.2.2.2)
            (ift ((IntKind.i64.wrap (x1.tdiv (64 : Int))) == (2 : Int))
               (grd (0 ≤ (x1.tmod (64 : Int))) <|
                bnd (some (IntKind.u64.wrap ((1 : Int) * 2 ^ (min (x1.tmod (64 : Int)).toNat (IntKind.u64).bits)))) fun y15 =>
                bnd (some (IntKind.u64.wrap (BitVec.ofInt (IntKind.u64).bits z3 ||| BitVec.ofInt (IntKind.u64).bits y15).toNat)) fun y16 =>
                value_wide_quo_j2 rec1 x1 z1 z2 y16 z4 r3.neg r3.size.1 r3.size.2.1 r3.size.2.2.1 r3.size.2.2.2)
               (ift ((IntKind.i64.wrap (x1.tdiv (64 : Int))) == (3 : Int))
                  (grd (0 ≤ (x1.tmod (64 : Int))) <|
                   bnd (some (IntKind.u64.wrap ((1 : Int) * 2 ^ (min (x1.tmod (64 : Int)).toNat (IntKind.u64).bits)))) fun y13 =>
                   bnd (some (IntKind.u64.wrap (BitVec.ofInt (IntKind.u64).bits z4 ||| BitVec.ofInt (IntKind.u64).bits y13).toNat)) fun y14 =>
                   value_wide_quo_j2 rec1 x1 z1 z2 z3 y14 r3.neg r3.size.1 r3.size.2.1 r3.size.2.2.1 r3.size.2.2.2)
                  (none)))))
      (value_wide_quo_j2 rec1 x1 z1 z2 z3 z4 r1.neg z10 r1.size.2.1 r1.size.2.2.1 r1.size.2.2.2)

def value_wide_quo_j3 (p1 : GWide) (p2 : GWide) (z20 : Int) (z21 : Int) (z22 : Int) (z23 : Int) (z24 : Bool) (z25 : Int) (z26 : Int) (z27 : Int) (z28 : Int) : Option (GWide × GWide) :=
    some ((GWide.mk (!(p1.neg == p2.neg)) (z20, z21, z22, z23)), (GWide.mk p1.neg (z25, z26, z27, z28)))

def value_wide_quo_l1 (p1 : GWide) (p2 : GWide) : Nat → Int → Int → Int → Int → Bool → Int → Int → Int → Int → Int → Option (GWide × GWide)
  | 0, _, _, _, _, _, _, _, _, _, _ => none
  | k1 + 1, z1, z2, z3, z4, z5, z6, z7, z8, z9, x1 =>
    ift (decide ((0 : Int) ≤ x1))
      (bnd (value_wide_times (GWide.mk z5 (z6, z7, z8, z9)) (2 : Int)) fun r1 =>
       ift ((IntKind.i64.wrap (x1.tdiv (64 : Int))) == (0 : Int))
         (grd (0 ≤ (x1.tmod (64 : Int))) <|
          bnd (some (p1.size.1.fdiv (2 ^ (min (x1.tmod (64 : Int)).toNat (IntKind.u64).bits)))) fun y10 =>
          bnd (some (IntKind.u64.wrap (BitVec.ofInt (IntKind.u64).bits y10 &&& BitVec.ofInt (IntKind.u64).bits (1 : Int)).toNat)) fun y11 =>
          bnd (some (IntKind.u64.wrap (BitVec.ofInt (IntKind.u64).bits r1.size.1 ||| BitVec.ofInt (IntKind.u64).bits y11).toNat)) fun y12 =>
          value_wide_quo_j1 (value_wide_quo_l1 p1 p2 k1) p2 z1 z2 z3 z4 x1 r1 y12)
         (ift ((IntKind.i64.wrap (x1.tdiv (64 : Int))) == (1 : Int))
            (grd (0 ≤ (x1.tmod (64 : Int))) <|
             bnd (some (p1.size.2.1.fdiv (2 ^ (min (x1.tmod (64 : Int)).toNat (IntKind.u64).bits)))) fun y7 =>
             bnd (some (IntKind.u64.wrap (BitVec.ofInt (IntKind.u64).bits y7 &&& BitVec.ofInt (IntKind.u64).bits (1 : Int)).toNat)) fun y8 =>
             bnd (some (IntKind.u64.wrap (BitVec.ofInt (IntKind.u64).bits r1.size.1 ||| BitVec.ofInt (IntKind.u64).bits y8).toNat)) fun y9 =>
             value_wide_quo_j1 (value_wide_quo_l1 p1 p2 k1) p2 z1 z2 z3 z4 x1 r1 y9)
            (ift ((IntKind.i64.wrap (x1.tdiv (64 : Int))) == (2 : Int))
               (grd (0 ≤ (x1.tmod (64 : Int))) <|
                bnd (some (p1.size.2.2.1.fdiv (2 ^ (min (x1.tmod (64 : Int)).toNat (IntKind.u64).bits)))) fun y4 =>
                bnd (some (IntKind.u64.wrap (BitVec.ofInt (IntKind.u64).bits y4 &&& BitVec.ofInt (IntKind.u64).bits (1 : Int)).toNat)) fun y5 =>
                bnd (some (IntKind.u64.wrap (BitVec.ofInt (IntKind.u64).bits r1.size.1 ||| BitVec.ofInt (IntKind.u64).bits y5).toNat)) fun y6 =>
                value_wide_quo_j1 (value_wide_quo_l1 p1 p2 k1) p2 z1 z2 z3 z4 x1 r1 y6)
               (ift ((IntKind.i64.wrap (x1.tdiv (64 : Int))) == (3 : Int))
                  (grd (0 ≤ (x1.tmod (64 : Int))) <|
                   bnd (some (p1.size.2.2.2.fdiv (2 ^ (min (x1.tmod (64 : Int)).toNat (IntKind.u64).bits)))) fun y1 =>
                   bnd (some (IntKind.u64.wrap (BitVec.ofInt (IntKind.u64).bits y1 &&& BitVec.ofInt (IntKind.u64).bits (1 : Int)).toNat)) fun y2 =>
                   bnd (some (IntKind.u64.wrap (BitVec.ofInt (IntKind.u64).bits r1.size.1 ||| BitVec.ofInt (IntKind.u64).bits y2).toNat)) fun y3 =>
                   value_wide_quo_j1 (value_wide_quo_l1 p1 p2 k1) p2 z1 z2 z3 z4 x1 r1 y3)
                  (none)))))
      (value_wide_quo_j3 p1 p2 z1 z2 z3 z4 z5 z6 z7 z8 z9)

def value_wide_quo (p1 : GWide) (p2 : GWide) : Option (GWide × GWide) :=
    value_wide_quo_l1 p1 p2 BIG (0 : Int) (0 : Int) (0 : Int) (0 : Int) false (0 : Int) (0 : Int) (0 : Int) (0 : Int) (255 : Int)

abbrev value_wide_quo_a1 (p1 : GWide) : List PV := [.s (.bool p1.neg), .s (.int .u64 p1.size.1), .s (.int .u64 p1.size.2.1), .s (.int .u64 p1.size.2.2.1), .s (.int .u64 p1.size.2.2.2)]
abbrev value_wide_quo_a2 (p2 : GWide) : List PV := [.s (.bool p2.neg), .s (.int .u64 p2.size.1), .s (.int .u64 p2.size.2.1), .s (.int .u64 p2.size.2.2.1), .s (.int .u64 p2.size.2.2.2)]
abbrev value_wide_quo_a3 (p1 : GWide) (p2 : GWide) (z20 : Int) (z21 : Int) (z22 : Int) (z23 : Int) : List CV := [cb (!(p1.neg == p2.neg)), ck .u64 z20, ck .u64 z21, ck .u64 z22, ck .u64 z23]

theorem c_value_wide_quo (p1 : GWide) (p2 : GWide) (r : (GWide × GWide)) (h : value_wide_quo p1 p2 = some r) : PC Tryd.prog 94 [.ag [cb p1.neg, ck .u64 p1.size.1, ck .u64 p1.size.2.1, ck .u64 p1.size.2.2.1, ck .u64 p1.size.2.2.2], .ag [cb p2.neg, ck .u64 p2.size.1, ck .u64 p2.size.2.1, ck .u64 p2.size.2.2.1, ck .u64 p2.size.2.2.2]] (.tp [.ag [cb r.1.neg, ck .u64 r.1.size.1, ck .u64 r.1.size.2.1, ck .u64 r.1.size.2.2.1, ck .u64 r.1.size.2.2.2], .ag [cb r.2.neg, ck .u64 r.2.size.1, ck .u64 r.2.size.2.1, ck .u64 r.2.size.2.2.1, ck .u64 r.2.size.2.2.2]]) := by
 unfold value_wide_quo at h
 refine PC.of (n := 61) (fn := Tryd.f94) (c := cd Tryd.f94 []) (by kernel_rfl) (by kernel_rfl) (by kernel_rfl) (Nat.le_of_ble_eq_true rfl) (zq fun K1 hK1 => zr ?_)
 refine zp [4, 5] 4 [2,3,4,5] [] [(2, .one (.pv (.rp [(value_wide_quo_a1 p1)] 0 0))), (3, .one (.pv (.rp [(value_wide_quo_a2 p2)] 0 0))), (4, .one (.pt 0 0 0 0)), (5, .one (.pt 1 0 0 0))] [.box [cb false, ck .u64 (0 : Int), ck .u64 (0 : Int), ck .u64 (0 : Int), ck .u64 (0 : Int)], .box [cb false, ck .u64 (0 : Int), ck .u64 (0 : Int), ck .u64 (0 : Int), ck .u64 (0 : Int)]] [] trivial ?_
 refine zd (hK1 _ _ (zq fun K2 hK2 => ?_))
 have hJ3 : ∀ (z20 : Int) (z21 : Int) (z22 : Int) (z23 : Int) (z24 : Bool) (z25 : Int) (z26 : Int) (z27 : Int) (z28 : Int), value_wide_quo_j3 p1 p2 z20 z21 z22 z23 z24 z25 z26 z27 z28 = some r → ∀ fr1 st1, Sub 61 0 [] fr1 st1 [(2, .one (.pv (.rp [(value_wide_quo_a1 p1)] 0 0))), (3, .one (.pv (.rp [(value_wide_quo_a2 p2)] 0 0))), (4, .one (.pt 0 0 0 0)), (5, .one (.pt 1 0 0 0))] [.box [cb false, ck .u64 z20, ck .u64 z21, ck .u64 z22, ck .u64 z23], .box [cb z24, ck .u64 z25, ck .u64 z26, ck .u64 z27, ck .u64 z28]] → K2 fr1 st1 := by
  intro z20 z21 z22 z23 z24 z25 z26 z27 z28 h fr1 st1 hS
  unfold value_wide_quo_j3 at h
  refine hK2 _ _ (XW.sub hS ?_)
  refine zq fun K52 hK52 => ?_
  refine XW.drwG 9 [2] [([], []), ([], []), ([], []), ([], []), ([], []), ([], []), ([], []), ([0], []), ([0], [0])] [(57, .one (.pt 0 0 0 0)), (56, vb p1.neg), (55, .one (.pv (.rp [(value_wide_quo_a1 p1)] 0 0))), (54, vb (!(p1.neg == p2.neg))), (53, vb p2.neg), (52, .one (.pv (.rp [(value_wide_quo_a2 p2)] 0 0))), (51, vb p1.neg), (50, .one (.pv (.rp [(value_wide_quo_a1 p1)] 0 0))), (2, .one (.pv (.rp [(value_wide_quo_a1 p1)] 0 0))), (3, .one (.pv (.rp [(value_wide_quo_a2 p2)] 0 0))), (4, .one (.pt 0 0 0 0)), (5, .one (.pt 1 0 0 0))] [.box (value_wide_quo_a3 p1 p2 z20 z21 z22 z23), .box [cb z24, ck .u64 z25, ck .u64 z26, ck .u64 z27, ck .u64 z28]] (by kernel_rfl) (by kernel_rfl) ?_ ?_
  ·refine GY.go 8 [(value_wide_quo_a1 p1), (value_wide_quo_a2 p2), (value_wide_quo_a1 p1)] [(57, .one (.pt 0 0 0 0)), (56, vb p1.neg), (55, .one (.pv (.rp [(value_wide_quo_a1 p1)] 0 0))), (54, vb (!(p1.neg == p2.neg))), (53, vb p2.neg), (52, .one (.pv (.rp [(value_wide_quo_a2 p2)] 0 0))), (51, vb p1.neg), (50, .one (.pv (.rp [(value_wide_quo_a1 p1)] 0 0))), (2, .one (.pv (.rp [(value_wide_quo_a1 p1)] 0 0))), (3, .one (.pv (.rp [(value_wide_quo_a2 p2)] 0 0))), (4, .one (.pt 0 0 0 0)), (5, .one (.pt 1 0 0 0))] [([(value_wide_quo_a1 p1)] : List (List PV))[0]? = some (value_wide_quo_a1 p1), ([(value_wide_quo_a2 p2)] : List (List PV))[0]? = some (value_wide_quo_a2 p2), ([(value_wide_quo_a1 p1)] : List (List PV))[0]? = some (value_wide_quo_a1 p1)] (by kernel_rfl) (⟨rfl, rfl, rfl, trivial⟩) ?_
   refine GY.wr [] [(57, .one (.pt 0 0 0 0)), (56, vb p1.neg), (55, .one (.pv (.rp [(value_wide_quo_a1 p1)] 0 0))), (54, vb (!(p1.neg == p2.neg))), (53, vb p2.neg), (52, .one (.pv (.rp [(value_wide_quo_a2 p2)] 0 0))), (51, vb p1.neg), (50, .one (.pv (.rp [(value_wide_quo_a1 p1)] 0 0))), (2, .one (.pv (.rp [(value_wide_quo_a1 p1)] 0 0))), (3, .one (.pv (.rp [(value_wide_quo_a2 p2)] 0 0))), (4, .one (.pt 0 0 0 0)), (5, .one (.pt 1 0 0 0))] [0] [.box (value_wide_quo_a3 p1 p2 z20 z21 z22 z23), .box [cb z24, ck .u64 z25, ck .u64 z26, ck .u64 z27, ck .u64 z28]] [] (by kernel_rfl) (by kernel_rfl) trivial ?_
   exact GY.done (by kernel_rfl) (by kernel_rfl)
  refine zp [4, 5] 2 [4,5] [] [(4, .one (.pt 0 0 0 0)), (5, .one (.pt 1 0 0 0))] [.box (value_wide_quo_a3 p1 p2 z20 z21 z22 z23), .box [cb p1.neg, ck .u64 z25, ck .u64 z26, ck .u64 z27, ck .u64 z28]] [] trivial (zd (hK52 _ _ (zq fun K53 hK53 => ?_)))
  refine XW.drwG 3 [2] [([0], []), ([1], []), ([0], [0])] [(60, .ag [cb p1.neg, ck .u64 z25, ck .u64 z26, ck .u64 z27, ck .u64 z28]), (59, .ag (value_wide_quo_a3 p1 p2 z20 z21 z22 z23)), (4, .one (.pt 0 0 0 0)), (5, .one (.pt 1 0 0 0))] [.box (value_wide_quo_a3 p1 p2 z20 z21 z22 z23), .box [cb p1.neg, ck .u64 z25, ck .u64 z26, ck .u64 z27, ck .u64 z28]] (by kernel_rfl) (by kernel_rfl) ?_ ?_
  ·refine GY.go 2 [] [(60, .ag [cb p1.neg, ck .u64 z25, ck .u64 z26, ck .u64 z27, ck .u64 z28]), (59, .ag (value_wide_quo_a3 p1 p2 z20 z21 z22 z23)), (4, .one (.pt 0 0 0 0)), (5, .one (.pt 1 0 0 0))] [] (by kernel_rfl) trivial ?_
   exact GY.wr [] [(60, .ag [cb p1.neg, ck .u64 z25, ck .u64 z26, ck .u64 z27, ck .u64 z28]), (59, .ag (value_wide_quo_a3 p1 p2 z20 z21 z22 z23)), (4, .one (.pt 0 0 0 0)), (5, .one (.pt 1 0 0 0))] [0] [.box (value_wide_quo_a3 p1 p2 z20 z21 z22 z23), .box [cb p1.neg, ck .u64 z25, ck .u64 z26, ck .u64 z27, ck .u64 z28]] [] (by kernel_rfl) (by kernel_rfl) trivial (GY.done (by kernel_rfl) (by kernel_rfl))
  refine zg [4, 5] 1 [4,5] (zd (hK53 _ _ (ze ?_)))
  obtain rfl := Option.some.inj h
  exact zf [.ag (value_wide_quo_a3 p1 p2 z20 z21 z22 z23), .ag [cb p1.neg, ck .u64 z25, ck .u64 z26, ck .u64 z27, ck .u64 z28]] (.tpc (.ag (.cons (.rfl _ rfl) (.cons (.rfl _ rfl) (.cons (.rfl _ rfl) (.cons (.rfl _ rfl) (.cons (.rfl _ rfl) .nil)))))) (.tpc (.ag (.cons (.rfl _ rfl) (.cons (.rfl _ rfl) (.cons (.rfl _ rfl) (.cons (.rfl _ rfl) (.cons (.rfl _ rfl) .nil)))))) (.tp0)))
 refine zq fun K3 hK3 => zr (zg [4, 5] 1 [2,3,4,5,6] (zd (hK3 _ _ (zb 0 (XW.rounds' BIG (x := cd Tryd.f94 [1,0,1,0,0]) (by kernel_rfl) fun Q1 hQ1 => ?_)))))
 have hL1 : ∀ (k1 : Nat) (z1 : Int) (z2 : Int) (z3 : Int) (z4 : Int) (z5 : Bool) (z6 : Int) (z7 : Int) (z8 : Int) (z9 : Int) (x1 : Int), value_wide_quo_l1 p1 p2 k1 z1 z2 z3 z4 z5 z6 z7 z8 z9 x1 = some r → XR Tryd.prog 61 0 [] (cd Tryd.f94 [1,0,1,0,0]) Q1 k1 [(2, .one (.pv (.rp [(value_wide_quo_a1 p1)] 0 0))), (3, .one (.pv (.rp [(value_wide_quo_a2 p2)] 0 0))), (4, .one (.pt 0 0 0 0)), (5, .one (.pt 1 0 0 0)), (6, vi x1)] [.box [cb false, ck .u64 z1, ck .u64 z2, ck .u64 z3, ck .u64 z4], .box [cb z5, ck .u64 z6, ck .u64 z7, ck .u64 z8, ck .u64 z9]] := by
  intro k1
  induction k1 with
  | zero => intro z1 z2 z3 z4 z5 z6 z7 z8 z9 x1 h; rw [value_wide_quo_l1.eq_1] at h; cases h
  | succ k1 ih1 =>
   intro z1 z2 z3 z4 z5 z6 z7 z8 z9 x1 h
   rw [value_wide_quo_l1.eq_2] at h
   refine zq fun K4 hK4 => zq fun K5 hK5 => zr (zg [4, 5] 2 [2,3,4,5,6,8] (zd (hK5 _ _ (zc (decide ((0 : Int) ≤ x1)) (fun b6 => ?_) (fun b6 => ?_)))))
   ·have h := ift_t b6 h
    refine zs (hK4 _ _ (zq fun K7 hK7 => ?_))
    have hJ2 : ∀ (z11 : Int) (z12 : Int) (z13 : Int) (z14 : Int) (z15 : Bool) (z16 : Int) (z17 : Int) (z18 : Int) (z19 : Int), value_wide_quo_j2 (value_wide_quo_l1 p1 p2 k1) x1 z11 z12 z13 z14 z15 z16 z17 z18 z19 = some r → ∀ fr1 st1, Sub 61 0 [] fr1 st1 [(2, .one (.pv (.rp [(value_wide_quo_a1 p1)] 0 0))), (3, .one (.pv (.rp [(value_wide_quo_a2 p2)] 0 0))), (4, .one (.pt 0 0 0 0)), (5, .one (.pt 1 0 0 0)), (6, vi x1)] [.box [cb false, ck .u64 z11, ck .u64 z12, ck .u64 z13, ck .u64 z14], .box [cb z15, ck .u64 z16, ck .u64 z17, ck .u64 z18, ck .u64 z19]] → K7 fr1 st1 := by
     intro z11 z12 z13 z14 z15 z16 z17 z18 z19 h fr1 st1 hS
     unfold value_wide_quo_j2 at h
     refine hK7 _ _ (XW.sub hS ?_)
     exact zr (zg [4, 5] 3 [2,3,4,5,6] (zd (XR.sub (zk [2,3,4,5,6]) (ih1 z11 z12 z13 z14 z15 z16 z17 z18 z19 (IntKind.i64.wrap (x1 - (1 : Int))) h))))
    refine zb 1 (zq fun K8 hK8 => ?_)
    obtain ⟨r1, c9, h⟩ := bnd_some h
    refine zr (zg [4, 5] 1 [2,3,4,5,6,11] ?_)
    refine XO.cal 96 [.ag [cb z5, ck .u64 z6, ck .u64 z7, ck .u64 z8, ck .u64 z9], vk .u64 (2 : Int)] (.ag [cb r1.neg, ck .u64 r1.size.1, ck .u64 r1.size.2.1, ck .u64 r1.size.2.2.1, ck .u64 r1.size.2.2.2]) [(12, .ag [cb r1.neg, ck .u64 r1.size.1, ck .u64 r1.size.2.1, ck .u64 r1.size.2.2.1, ck .u64 r1.size.2.2.2]), (2, .one (.pv (.rp [(value_wide_quo_a1 p1)] 0 0))), (3, .one (.pv (.rp [(value_wide_quo_a2 p2)] 0 0))), (4, .one (.pt 0 0 0 0)), (5, .one (.pt 1 0 0 0)), (6, vi x1), (11, .ag [cb z5, ck .u64 z6, ck .u64 z7, ck .u64 z8, ck .u64 z9])] (by kernel_rfl) (c_value_wide_times _ _ _ c9) rfl rfl (by kernel_rfl) ?_
    refine zg [4, 5] 1 [2,3,4,5,6] (zd (hK8 _ _ (zq fun K10 hK10 => ?_)))
    have hJ1 : ∀ (z10 : Int), value_wide_quo_j1 (value_wide_quo_l1 p1 p2 k1) p2 z1 z2 z3 z4 x1 r1 z10 = some r → ∀ fr1 st1, Sub 61 0 [] fr1 st1 [(2, .one (.pv (.rp [(value_wide_quo_a1 p1)] 0 0))), (3, .one (.pv (.rp [(value_wide_quo_a2 p2)] 0 0))), (4, .one (.pt 0 0 0 0)), (5, .one (.pt 1 0 0 0)), (6, vi x1)] [.box [cb false, ck .u64 z1, ck .u64 z2, ck .u64 z3, ck .u64 z4], .box [cb r1.neg, ck .u64 z10, ck .u64 r1.size.2.1, ck .u64 r1.size.2.2.1, ck .u64 r1.size.2.2.2]] → K10 fr1 st1 := by
     intro z10 h fr1 st1 hS
     unfold value_wide_quo_j1 at h
     refine hK10 _ _ (XW.sub hS ?_)
     refine zq fun K31 hK31 => ?_
     obtain ⟨r2, c32, h⟩ := bnd_some h
     refine zr (zo [4, 5] 2 [2,3,4,5,6,28,29] [(value_wide_quo_a2 p2)] [([(value_wide_quo_a2 p2)] : List (List PV))[0]? = some (value_wide_quo_a2 p2)] (⟨rfl, trivial⟩) (za (c_value_compareSize _ _ _ c32) ?_))
     refine zp [4, 5] 1 [2,3,4,5,6,31] [] [(2, .one (.pv (.rp [(value_wide_quo_a1 p1)] 0 0))), (3, .one (.pv (.rp [(value_wide_quo_a2 p2)] 0 0))), (4, .one (.pt 0 0 0 0)), (5, .one (.pt 1 0 0 0)), (6, vi x1), (31, vb (decide ((0 : Int) ≤ r2)))] [.box [cb false, ck .u64 z1, ck .u64 z2, ck .u64 z3, ck .u64 z4], .box [cb r1.neg, ck .u64 z10, ck .u64 r1.size.2.1, ck .u64 r1.size.2.2.1, ck .u64 r1.size.2.2.2]] [] trivial ?_
     refine zd (hK31 _ _ (zc (decide ((0 : Int) ≤ r2)) (fun b33 => ?_) (fun b33 => ?_)))
     ·have h := ift_t b33 h
      refine zq fun K34 hK34 => ?_
      obtain ⟨r3, c35, h⟩ := bnd_some h
      refine zr (zo [4, 5] 6 [2,3,4,5,6,34,37] [(value_wide_quo_a2 p2)] [([(value_wide_quo_a2 p2)] : List (List PV))[0]? = some (value_wide_quo_a2 p2)] (⟨rfl, trivial⟩) (za (c_value_wide_minus BIG _ _ _ c35) ?_))
      refine zp [4, 5] 1 [2,3,4,5,6] [] [(2, .one (.pv (.rp [(value_wide_quo_a1 p1)] 0 0))), (3, .one (.pv (.rp [(value_wide_quo_a2 p2)] 0 0))), (4, .one (.pt 0 0 0 0)), (5, .one (.pt 1 0 0 0)), (6, vi x1)] [.box [cb false, ck .u64 z1, ck .u64 z2, ck .u64 z3, ck .u64 z4], .box [cb r3.neg, ck .u64 r3.size.1, ck .u64 r3.size.2.1, ck .u64 r3.size.2.2.1, ck .u64 r3.size.2.2.2]] [] trivial ?_
      refine zd (hK34 _ _ ?_)
      rcases Bool.eq_false_or_eq_true ((IntKind.i64.wrap (x1.tdiv (64 : Int))) == (0 : Int)) with b48 | b48
      ·have h := ift_t b48 h
       obtain ⟨g49, h⟩ := grd_some h
       obtain ⟨y19, hy50, h⟩ := bnd_some h
       obtain ⟨y20, hy51, h⟩ := bnd_some h
       refine zw 10 [(48, .one (.pt 0 0 0 1)), (47, vk .u64 y20), (46, vk .u64 y19), (45, vi (x1.tmod (64 : Int))), (44, vi x1), (43, vk .u64 z1), (42, .one (.pt 0 0 0 1)), (41, .one (.pt 0 0 0 1)), (40, vi (0 : Int)), (39, vi x1), (2, .one (.pv (.rp [(value_wide_quo_a1 p1)] 0 0))), (3, .one (.pv (.rp [(value_wide_quo_a2 p2)] 0 0))), (4, .one (.pt 0 0 0 0)), (5, .one (.pt 1 0 0 0)), (6, vi x1)] ?_ ?_
       ·refine DX.go 3 [] [(41, .one (.pt 0 0 0 1)), (40, vi (IntKind.i64.wrap (x1.tdiv (64 : Int)))), (39, vi x1), (2, .one (.pv (.rp [[.s (.bool p1.neg), .s (.int .u64 p1.size.1), .s (.int .u64 p1.size.2.1), .s (.int .u64 p1.size.2.2.1), .s (.int .u64 p1.size.2.2.2)]] 0 0))), (3, .one (.pv (.rp [[.s (.bool p2.neg), .s (.int .u64 p2.size.1), .s (.int .u64 p2.size.2.1), .s (.int .u64 p2.size.2.2.1), .s (.int .u64 p2.size.2.2.2)]] 0 0))), (4, .one (.pt 0 0 0 0)), (5, .one (.pt 1 0 0 0)), (6, vi x1)] [(64 : Int) ≠ 0] (by kernel_rfl) (⟨by decide, trivial⟩) ?_
        refine DX.eq (fr1 := [(41, .one (.pt 0 0 0 1)), (40, vi (0 : Int)), (39, vi x1), (2, .one (.pv (.rp [[.s (.bool p1.neg), .s (.int .u64 p1.size.1), .s (.int .u64 p1.size.2.1), .s (.int .u64 p1.size.2.2.1), .s (.int .u64 p1.size.2.2.2)]] 0 0))), (3, .one (.pv (.rp [[.s (.bool p2.neg), .s (.int .u64 p2.size.1), .s (.int .u64 p2.size.2.1), .s (.int .u64 p2.size.2.2.1), .s (.int .u64 p2.size.2.2.2)]] 0 0))), (4, .one (.pt 0 0 0 0)), (5, .one (.pt 1 0 0 0)), (6, vi x1)]) (by rw [eq_of_beq b48]) ?_
        refine DX.go 5 [] [(46, vk .u64 (IntKind.u64.wrap ((1 : Int) * 2 ^ (min (x1.tmod (64 : Int)).toNat (IntKind.u64).bits)))), (45, vi (x1.tmod (64 : Int))), (44, vi x1), (43, vk .u64 z1), (42, .one (.pt 0 0 0 1)), (41, .one (.pt 0 0 0 1)), (40, vi (0 : Int)), (39, vi x1), (2, .one (.pv (.rp [[.s (.bool p1.neg), .s (.int .u64 p1.size.1), .s (.int .u64 p1.size.2.1), .s (.int .u64 p1.size.2.2.1), .s (.int .u64 p1.size.2.2.2)]] 0 0))), (3, .one (.pv (.rp [[.s (.bool p2.neg), .s (.int .u64 p2.size.1), .s (.int .u64 p2.size.2.1), .s (.int .u64 p2.size.2.2.1), .s (.int .u64 p2.size.2.2.2)]] 0 0))), (4, .one (.pt 0 0 0 0)), (5, .one (.pt 1 0 0 0)), (6, vi x1)] [0 ≤ (0 : Int) ∧ (0 : Int) < 4, (64 : Int) ≠ 0, 0 ≤ (x1.tmod (64 : Int))] (by kernel_rfl) (⟨by decide, by decide, g49, trivial⟩) ?_
        rw [show (IntKind.u64.wrap ((1 : Int) * 2 ^ (min (x1.tmod (64 : Int)).toNat (IntKind.u64).bits))) = y19 from Option.some.inj hy50]
        refine DX.go 1 [] [(47, vk .u64 (IntKind.u64.wrap (BitVec.ofInt (IntKind.u64).bits z1 ||| BitVec.ofInt (IntKind.u64).bits y19).toNat)), (46, vk .u64 y19), (45, vi (x1.tmod (64 : Int))), (44, vi x1), (43, vk .u64 z1), (42, .one (.pt 0 0 0 1)), (41, .one (.pt 0 0 0 1)), (40, vi (0 : Int)), (39, vi x1), (2, .one (.pv (.rp [[.s (.bool p1.neg), .s (.int .u64 p1.size.1), .s (.int .u64 p1.size.2.1), .s (.int .u64 p1.size.2.2.1), .s (.int .u64 p1.size.2.2.2)]] 0 0))), (3, .one (.pv (.rp [[.s (.bool p2.neg), .s (.int .u64 p2.size.1), .s (.int .u64 p2.size.2.1), .s (.int .u64 p2.size.2.2.1), .s (.int .u64 p2.size.2.2.2)]] 0 0))), (4, .one (.pt 0 0 0 0)), (5, .one (.pt 1 0 0 0)), (6, vi x1)] [] (by kernel_rfl) trivial ?_
        rw [show (IntKind.u64.wrap (BitVec.ofInt (IntKind.u64).bits z1 ||| BitVec.ofInt (IntKind.u64).bits y19).toNat) = y20 from Option.some.inj hy51]
        exact zyg 1 zyd
       exact zo [4, 5] 2 [2,3,4,5,6] [] [0 ≤ (0 : Int) ∧ (0 : Int) < 4] (⟨by decide, trivial⟩) (zd (hJ2 y20 z2 z3 z4 r3.neg r3.size.1 r3.size.2.1 r3.size.2.2.1 r3.size.2.2.2 h _ _ (zk [2,3,4,5,6])))
      ·have h := ift_f b48 h
       rcases Bool.eq_false_or_eq_true ((IntKind.i64.wrap (x1.tdiv (64 : Int))) == (1 : Int)) with b44 | b44
       ·have h := ift_t b44 h
        obtain ⟨g45, h⟩ := grd_some h
        obtain ⟨y17, hy46, h⟩ := bnd_some h
        obtain ⟨y18, hy47, h⟩ := bnd_some h
        refine zw 10 [(48, .one (.pt 0 0 0 1)), (47, vk .u64 y18), (46, vk .u64 y17), (45, vi (x1.tmod (64 : Int))), (44, vi x1), (43, vk .u64 z2), (42, .one (.pt 0 0 0 2)), (41, .one (.pt 0 0 0 1)), (40, vi (1 : Int)), (39, vi x1), (2, .one (.pv (.rp [(value_wide_quo_a1 p1)] 0 0))), (3, .one (.pv (.rp [(value_wide_quo_a2 p2)] 0 0))), (4, .one (.pt 0 0 0 0)), (5, .one (.pt 1 0 0 0)), (6, vi x1)] ?_ ?_
        ·refine DX.go 3 [] [(41, .one (.pt 0 0 0 1)), (40, vi (IntKind.i64.wrap (x1.tdiv (64 : Int)))), (39, vi x1), (2, .one (.pv (.rp [[.s (.bool p1.neg), .s (.int .u64 p1.size.1), .s (.int .u64 p1.size.2.1), .s (.int .u64 p1.size.2.2.1), .s (.int .u64 p1.size.2.2.2)]] 0 0))), (3, .one (.pv (.rp [[.s (.bool p2.neg), .s (.int .u64 p2.size.1), .s (.int .u64 p2.size.2.1), .s (.int .u64 p2.size.2.2.1), .s (.int .u64 p2.size.2.2.2)]] 0 0))), (4, .one (.pt 0 0 0 0)), (5, .one (.pt 1 0 0 0)), (6, vi x1)] [(64 : Int) ≠ 0] (by kernel_rfl) (⟨by decide, trivial⟩) ?_
         refine DX.eq (fr1 := [(41, .one (.pt 0 0 0 1)), (40, vi (1 : Int)), (39, vi x1), (2, .one (.pv (.rp [[.s (.bool p1.neg), .s (.int .u64 p1.size.1), .s (.int .u64 p1.size.2.1), .s (.int .u64 p1.size.2.2.1), .s (.int .u64 p1.size.2.2.2)]] 0 0))), (3, .one (.pv (.rp [[.s (.bool p2.neg), .s (.int .u64 p2.size.1), .s (.int .u64 p2.size.2.1), .s (.int .u64 p2.size.2.2.1), .s (.int .u64 p2.size.2.2.2)]] 0 0))), (4, .one (.pt 0 0 0 0)), (5, .one (.pt 1 0 0 0)), (6, vi x1)]) (by rw [eq_of_beq b44]) ?_
         refine DX.go 5 [] [(46, vk .u64 (IntKind.u64.wrap ((1 : Int) * 2 ^ (min (x1.tmod (64 : Int)).toNat (IntKind.u64).bits)))), (45, vi (x1.tmod (64 : Int))), (44, vi x1), (43, vk .u64 z2), (42, .one (.pt 0 0 0 2)), (41, .one (.pt 0 0 0 1)), (40, vi (1 : Int)), (39, vi x1), (2, .one (.pv (.rp [[.s (.bool p1.neg), .s (.int .u64 p1.size.1), .s (.int .u64 p1.size.2.1), .s (.int .u64 p1.size.2.2.1), .s (.int .u64 p1.size.2.2.2)]] 0 0))), (3, .one (.pv (.rp [[.s (.bool p2.neg), .s (.int .u64 p2.size.1), .s (.int .u64 p2.size.2.1), .s (.int .u64 p2.size.2.2.1), .s (.int .u64 p2.size.2.2.2)]] 0 0))), (4, .one (.pt 0 0 0 0)), (5, .one (.pt 1 0 0 0)), (6, vi x1)] [0 ≤ (1 : Int) ∧ (1 : Int) < 4, (64 : Int) ≠ 0, 0 ≤ (x1.tmod (64 : Int))] (by kernel_rfl) (⟨by decide, by decide, g45, trivial⟩) ?_
         rw [show (IntKind.u64.wrap ((1 : Int) * 2 ^ (min (x1.tmod (64 : Int)).toNat (IntKind.u64).bits))) = y17 from Option.some.inj hy46]
         refine DX.go 1 [] [(47, vk .u64 (IntKind.u64.wrap (BitVec.ofInt (IntKind.u64).bits z2 ||| BitVec.ofInt (IntKind.u64).bits y17).toNat)), (46, vk .u64 y17), (45, vi (x1.tmod (64 : Int))), (44, vi x1), (43, vk .u64 z2), (42, .one (.pt 0 0 0 2)), (41, .one (.pt 0 0 0 1)), (40, vi (1 : Int)), (39, vi x1), (2, .one (.pv (.rp [[.s (.bool p1.neg), .s (.int .u64 p1.size.1), .s (.int .u64 p1.size.2.1), .s (.int .u64 p1.size.2.2.1), .s (.int .u64 p1.size.2.2.2)]] 0 0))), (3, .one (.pv (.rp [[.s (.bool p2.neg), .s (.int .u64 p2.size.1), .s (.int .u64 p2.size.2.1), .s (.int .u64 p2.size.2.2.1), .s (.int .u64 p2.size.2.2.2)]] 0 0))), (4, .one (.pt 0 0 0 0)), (5, .one (.pt 1 0 0 0)), (6, vi x1)] [] (by kernel_rfl) trivial ?_
         rw [show (IntKind.u64.wrap (BitVec.ofInt (IntKind.u64).bits z2 ||| BitVec.ofInt (IntKind.u64).bits y17).toNat) = y18 from Option.some.inj hy47]
         exact zyg 1 zyd
        exact zo [4, 5] 2 [2,3,4,5,6] [] [0 ≤ (1 : Int) ∧ (1 : Int) < 4] (⟨by decide, trivial⟩) (zd (hJ2 z1 y18 z3 z4 r3.neg r3.size.1 r3.size.2.1 r3.size.2.2.1 r3.size.2.2.2 h _ _ (zk [2,3,4,5,6])))
       ·have h := ift_f b44 h
        rcases Bool.eq_false_or_eq_true ((IntKind.i64.wrap (x1.tdiv (64 : Int))) == (2 : Int)) with b40 | b40
        ·have h := ift_t b40 h
         obtain ⟨g41, h⟩ := grd_some h
         obtain ⟨y15, hy42, h⟩ := bnd_some h
         obtain ⟨y16, hy43, h⟩ := bnd_some h
         refine zw 10 [(48, .one (.pt 0 0 0 1)), (47, vk .u64 y16), (46, vk .u64 y15), (45, vi (x1.tmod (64 : Int))), (44, vi x1), (43, vk .u64 z3), (42, .one (.pt 0 0 0 3)), (41, .one (.pt 0 0 0 1)), (40, vi (2 : Int)), (39, vi x1), (2, .one (.pv (.rp [(value_wide_quo_a1 p1)] 0 0))), (3, .one (.pv (.rp [(value_wide_quo_a2 p2)] 0 0))), (4, .one (.pt 0 0 0 0)), (5, .one (.pt 1 0 0 0)), (6, vi x1)] ?_ ?_
         ·refine DX.go 3 [] [(41, .one (.pt 0 0 0 1)), (40, vi (IntKind.i64.wrap (x1.tdiv (64 : Int)))), (39, vi x1), (2, .one (.pv (.rp [[.s (.bool p1.neg), .s (.int .u64 p1.size.1), .s (.int .u64 p1.size.2.1), .s (.int .u64 p1.size.2.2.1), .s (.int .u64 p1.size.2.2.2)]] 0 0))), (3, .one (.pv (.rp [[.s (.bool p2.neg), .s (.int .u64 p2.size.1), .s (.int .u64 p2.size.2.1), .s (.int .u64 p2.size.2.2.1), .s (.int .u64 p2.size.2.2.2)]] 0 0))), (4, .one (.pt 0 0 0 0)), (5, .one (.pt 1 0 0 0)), (6, vi x1)] [(64 : Int) ≠ 0] (by kernel_rfl) (⟨by decide, trivial⟩) ?_
          refine DX.eq (fr1 := [(41, .one (.pt 0 0 0 1)), (40, vi (2 : Int)), (39, vi x1), (2, .one (.pv (.rp [[.s (.bool p1.neg), .s (.int .u64 p1.size.1), .s (.int .u64 p1.size.2.1), .s (.int .u64 p1.size.2.2.1), .s (.int .u64 p1.size.2.2.2)]] 0 0))), (3, .one (.pv (.rp [[.s (.bool p2.neg), .s (.int .u64 p2.size.1), .s (.int .u64 p2.size.2.1), .s (.int .u64 p2.size.2.2.1), .s (.int .u64 p2.size.2.2.2)]] 0 0))), (4, .one (.pt 0 0 0 0)), (5, .one (.pt 1 0 0 0)), (6, vi x1)]) (by rw [eq_of_beq b40]) ?_
          refine DX.go 5 [] [(46, vk .u64 (IntKind.u64.wrap ((1 : Int) * 2 ^ (min (x1.tmod (64 : Int)).toNat (IntKind.u64).bits)))), (45, vi (x1.tmod (64 : Int))), (44, vi x1), (43, vk .u64 z3), (42, .one (.pt 0 0 0 3)), (41, .one (.pt 0 0 0 1)), (40, vi (2 : Int)), (39, vi x1), (2, .one (.pv (.rp [[.s (.bool p1.neg), .s (.int .u64 p1.size.1), .s (.int .u64 p1.size.2.1), .s (.int .u64 p1.size.2.2.1), .s (.int .u64 p1.size.2.2.2)]] 0 0))), (3, .one (.pv (.rp [[.s (.bool p2.neg), .s (.int .u64 p2.size.1), .s (.int .u64 p2.size.2.1), .s (.int .u64 p2.size.2.2.1), .s (.int .u64 p2.size.2.2.2)]] 0 0))), (4, .one (.pt 0 0 0 0)), (5, .one (.pt 1 0 0 0)), (6, vi x1)] [0 ≤ (2 : Int) ∧ (2 : Int) < 4, (64 : Int) ≠ 0, 0 ≤ (x1.tmod (64 : Int))] (by kernel_rfl) (⟨by decide, by decide, g41, trivial⟩) ?_
          rw [show (IntKind.u64.wrap ((1 : Int) * 2 ^ (min (x1.tmod (64 : Int)).toNat (IntKind.u64).bits))) = y15 from Option.some.inj hy42]
          refine DX.go 1 [] [(47, vk .u64 (IntKind.u64.wrap (BitVec.ofInt (IntKind.u64).bits z3 ||| BitVec.ofInt (IntKind.u64).bits y15).toNat)), (46, vk .u64 y15), (45, vi (x1.tmod (64 : Int))), (44, vi x1), (43, vk .u64 z3), (42, .one (.pt 0 0 0 3)), (41, .one (.pt 0 0 0 1)), (40, vi (2 : Int)), (39, vi x1), (2, .one (.pv (.rp [[.s (.bool p1.neg), .s (.int .u64 p1.size.1), .s (.int .u64 p1.size.2.1), .s (.int .u64 p1.size.2.2.1), .s (.int .u64 p1.size.2.2.2)]] 0 0))), (3, .one (.pv (.rp [[.s (.bool p2.neg), .s (.int .u64 p2.size.1), .s (.int .u64 p2.size.2.1), .s (.int .u64 p2.size.2.2.1), .s (.int .u64 p2.size.2.2.2)]] 0 0))), (4, .one (.pt 0 0 0 0)), (5, .one (.pt 1 0 0 0)), (6, vi x1)] [] (by kernel_rfl) trivial ?_
          rw [show (IntKind.u64.wrap (BitVec.ofInt (IntKind.u64).bits z3 ||| BitVec.ofInt (IntKind.u64).bits y15).toNat) = y16 from Option.some.inj hy43]
          exact zyg 1 zyd
         refine zp [4, 5] 2 [2,3,4,5,6] [] [(2, .one (.pv (.rp [(value_wide_quo_a1 p1)] 0 0))), (3, .one (.pv (.rp [(value_wide_quo_a2 p2)] 0 0))), (4, .one (.pt 0 0 0 0)), (5, .one (.pt 1 0 0 0)), (6, vi x1)] [.box [cb false, ck .u64 z1, ck .u64 z2, ck .u64 y16, ck .u64 z4], .box [cb r3.neg, ck .u64 r3.size.1, ck .u64 r3.size.2.1, ck .u64 r3.size.2.2.1, ck .u64 r3.size.2.2.2]] [0 ≤ (2 : Int) ∧ (2 : Int) < 4] (⟨by decide, trivial⟩) ?_
         exact zd (hJ2 z1 z2 y16 z4 r3.neg r3.size.1 r3.size.2.1 r3.size.2.2.1 r3.size.2.2.2 h _ _ (zk [2,3,4,5,6]))
        ·have h := ift_f b40 h
         rcases Bool.eq_false_or_eq_true ((IntKind.i64.wrap (x1.tdiv (64 : Int))) == (3 : Int)) with b36 | b36
         ·have h := ift_t b36 h
          obtain ⟨g37, h⟩ := grd_some h
          obtain ⟨y13, hy38, h⟩ := bnd_some h
          obtain ⟨y14, hy39, h⟩ := bnd_some h
          refine zw 10 [(48, .one (.pt 0 0 0 1)), (47, vk .u64 y14), (46, vk .u64 y13), (45, vi (x1.tmod (64 : Int))), (44, vi x1), (43, vk .u64 z4), (42, .one (.pt 0 0 0 4)), (41, .one (.pt 0 0 0 1)), (40, vi (3 : Int)), (39, vi x1), (2, .one (.pv (.rp [(value_wide_quo_a1 p1)] 0 0))), (3, .one (.pv (.rp [(value_wide_quo_a2 p2)] 0 0))), (4, .one (.pt 0 0 0 0)), (5, .one (.pt 1 0 0 0)), (6, vi x1)] ?_ ?_
          ·refine DX.go 3 [] [(41, .one (.pt 0 0 0 1)), (40, vi (IntKind.i64.wrap (x1.tdiv (64 : Int)))), (39, vi x1), (2, .one (.pv (.rp [[.s (.bool p1.neg), .s (.int .u64 p1.size.1), .s (.int .u64 p1.size.2.1), .s (.int .u64 p1.size.2.2.1), .s (.int .u64 p1.size.2.2.2)]] 0 0))), (3, .one (.pv (.rp [[.s (.bool p2.neg), .s (.int .u64 p2.size.1), .s (.int .u64 p2.size.2.1), .s (.int .u64 p2.size.2.2.1), .s (.int .u64 p2.size.2.2.2)]] 0 0))), (4, .one (.pt 0 0 0 0)), (5, .one (.pt 1 0 0 0)), (6, vi x1)] [(64 : Int) ≠ 0] (by kernel_rfl) (⟨by decide, trivial⟩) ?_
           refine DX.eq (fr1 := [(41, .one (.pt 0 0 0 1)), (40, vi (3 : Int)), (39, vi x1), (2, .one (.pv (.rp [[.s (.bool p1.neg), .s (.int .u64 p1.size.1), .s (.int .u64 p1.size.2.1), .s (.int .u64 p1.size.2.2.1), .s (.int .u64 p1.size.2.2.2)]] 0 0))), (3, .one (.pv (.rp [[.s (.bool p2.neg), .s (.int .u64 p2.size.1), .s (.int .u64 p2.size.2.1), .s (.int .u64 p2.size.2.2.1), .s (.int .u64 p2.size.2.2.2)]] 0 0))), (4, .one (.pt 0 0 0 0)), (5, .one (.pt 1 0 0 0)), (6, vi x1)]) (by rw [eq_of_beq b36]) ?_
           refine DX.go 5 [] [(46, vk .u64 (IntKind.u64.wrap ((1 : Int) * 2 ^ (min (x1.tmod (64 : Int)).toNat (IntKind.u64).bits)))), (45, vi (x1.tmod (64 : Int))), (44, vi x1), (43, vk .u64 z4), (42, .one (.pt 0 0 0 4)), (41, .one (.pt 0 0 0 1)), (40, vi (3 : Int)), (39, vi x1), (2, .one (.pv (.rp [[.s (.bool p1.neg), .s (.int .u64 p1.size.1), .s (.int .u64 p1.size.2.1), .s (.int .u64 p1.size.2.2.1), .s (.int .u64 p1.size.2.2.2)]] 0 0))), (3, .one (.pv (.rp [[.s (.bool p2.neg), .s (.int .u64 p2.size.1), .s (.int .u64 p2.size.2.1), .s (.int .u64 p2.size.2.2.1), .s (.int .u64 p2.size.2.2.2)]] 0 0))), (4, .one (.pt 0 0 0 0)), (5, .one (.pt 1 0 0 0)), (6, vi x1)] [0 ≤ (3 : Int) ∧ (3 : Int) < 4, (64 : Int) ≠ 0, 0 ≤ (x1.tmod (64 : Int))] (by kernel_rfl) (⟨by decide, by decide, g37, trivial⟩) ?_
           rw [show (IntKind.u64.wrap ((1 : Int) * 2 ^ (min (x1.tmod (64 : Int)).toNat (IntKind.u64).bits))) = y13 from Option.some.inj hy38]
           refine DX.go 1 [] [(47, vk .u64 (IntKind.u64.wrap (BitVec.ofInt (IntKind.u64).bits z4 ||| BitVec.ofInt (IntKind.u64).bits y13).toNat)), (46, vk .u64 y13), (45, vi (x1.tmod (64 : Int))), (44, vi x1), (43, vk .u64 z4), (42, .one (.pt 0 0 0 4)), (41, .one (.pt 0 0 0 1)), (40, vi (3 : Int)), (39, vi x1), (2, .one (.pv (.rp [[.s (.bool p1.neg), .s (.int .u64 p1.size.1), .s (.int .u64 p1.size.2.1), .s (.int .u64 p1.size.2.2.1), .s (.int .u64 p1.size.2.2.2)]] 0 0))), (3, .one (.pv (.rp [[.s (.bool p2.neg), .s (.int .u64 p2.size.1), .s (.int .u64 p2.size.2.1), .s (.int .u64 p2.size.2.2.1), .s (.int .u64 p2.size.2.2.2)]] 0 0))), (4, .one (.pt 0 0 0 0)), (5, .one (.pt 1 0 0 0)), (6, vi x1)] [] (by kernel_rfl) trivial ?_
           rw [show (IntKind.u64.wrap (BitVec.ofInt (IntKind.u64).bits z4 ||| BitVec.ofInt (IntKind.u64).bits y13).toNat) = y14 from Option.some.inj hy39]
           exact zyg 1 zyd
          exact zo [4, 5] 2 [2,3,4,5,6] [] [0 ≤ (3 : Int) ∧ (3 : Int) < 4] (⟨by decide, trivial⟩) (zd (hJ2 z1 z2 z3 y14 r3.neg r3.size.1 r3.size.2.1 r3.size.2.2.1 r3.size.2.2.2 h _ _ (zk [2,3,4,5,6])))
         ·have h := ift_f b36 h
          cases h
     ·have h := ift_f b33 h
      exact zs (hJ2 z1 z2 z3 z4 r1.neg z10 r1.size.2.1 r1.size.2.2.1 r1.size.2.2.2 h _ _ (zk [2,3,4,5,6]))
    rcases Bool.eq_false_or_eq_true ((IntKind.i64.wrap (x1.tdiv (64 : Int))) == (0 : Int)) with b26 | b26
    ·have h := ift_t b26 h
     obtain ⟨g27, h⟩ := grd_some h
     obtain ⟨y10, hy28, h⟩ := bnd_some h
     obtain ⟨y11, hy29, h⟩ := bnd_some h
     obtain ⟨y12, hy30, h⟩ := bnd_some h
     refine zw 14 [(26, .one (.pt 1 0 0 1)), (25, vk .u64 y12), (24, vk .u64 y11), (23, vk .u64 y10), (22, vi (x1.tmod (64 : Int))), (21, vi x1), (20, vk .u64 p1.size.1), (19, .one (.pv (.rp [(value_wide_quo_a1 p1)] 0 1))), (18, .one (.pv (.rp [(value_wide_quo_a1 p1)] 0 1))), (17, vi (0 : Int)), (16, vi x1), (15, vk .u64 r1.size.1), (14, .one (.pt 1 0 0 1)), (13, .one (.pt 1 0 0 1)), (2, .one (.pv (.rp [(value_wide_quo_a1 p1)] 0 0))), (3, .one (.pv (.rp [(value_wide_quo_a2 p2)] 0 0))), (4, .one (.pt 0 0 0 0)), (5, .one (.pt 1 0 0 0)), (6, vi x1)] ?_ ?_
     ·refine DX.go 6 [] [(18, .one (.pv (.rp [[.s (.bool p1.neg), .s (.int .u64 p1.size.1), .s (.int .u64 p1.size.2.1), .s (.int .u64 p1.size.2.2.1), .s (.int .u64 p1.size.2.2.2)]] 0 1))), (17, vi (IntKind.i64.wrap (x1.tdiv (64 : Int)))), (16, vi x1), (15, vk .u64 r1.size.1), (14, .one (.pt 1 0 0 1)), (13, .one (.pt 1 0 0 1)), (2, .one (.pv (.rp [[.s (.bool p1.neg), .s (.int .u64 p1.size.1), .s (.int .u64 p1.size.2.1), .s (.int .u64 p1.size.2.2.1), .s (.int .u64 p1.size.2.2.2)]] 0 0))), (3, .one (.pv (.rp [[.s (.bool p2.neg), .s (.int .u64 p2.size.1), .s (.int .u64 p2.size.2.1), .s (.int .u64 p2.size.2.2.1), .s (.int .u64 p2.size.2.2.2)]] 0 0))), (4, .one (.pt 0 0 0 0)), (5, .one (.pt 1 0 0 0)), (6, vi x1)] [0 ≤ (0 : Int) ∧ (0 : Int) < 4, (64 : Int) ≠ 0] (by kernel_rfl) (⟨by decide, by decide, trivial⟩) ?_
      refine DX.eq (fr1 := [(18, .one (.pv (.rp [[.s (.bool p1.neg), .s (.int .u64 p1.size.1), .s (.int .u64 p1.size.2.1), .s (.int .u64 p1.size.2.2.1), .s (.int .u64 p1.size.2.2.2)]] 0 1))), (17, vi (0 : Int)), (16, vi x1), (15, vk .u64 r1.size.1), (14, .one (.pt 1 0 0 1)), (13, .one (.pt 1 0 0 1)), (2, .one (.pv (.rp [[.s (.bool p1.neg), .s (.int .u64 p1.size.1), .s (.int .u64 p1.size.2.1), .s (.int .u64 p1.size.2.2.1), .s (.int .u64 p1.size.2.2.2)]] 0 0))), (3, .one (.pv (.rp [[.s (.bool p2.neg), .s (.int .u64 p2.size.1), .s (.int .u64 p2.size.2.1), .s (.int .u64 p2.size.2.2.1), .s (.int .u64 p2.size.2.2.2)]] 0 0))), (4, .one (.pt 0 0 0 0)), (5, .one (.pt 1 0 0 0)), (6, vi x1)]) (by rw [eq_of_beq b26]) ?_
      refine DX.go 5 [[.s (.bool p1.neg), .s (.int .u64 p1.size.1), .s (.int .u64 p1.size.2.1), .s (.int .u64 p1.size.2.2.1), .s (.int .u64 p1.size.2.2.2)]] [(23, vk .u64 (p1.size.1.fdiv (2 ^ (min (x1.tmod (64 : Int)).toNat (IntKind.u64).bits)))), (22, vi (x1.tmod (64 : Int))), (21, vi x1), (20, vk .u64 p1.size.1), (19, .one (.pv (.rp [[.s (.bool p1.neg), .s (.int .u64 p1.size.1), .s (.int .u64 p1.size.2.1), .s (.int .u64 p1.size.2.2.1), .s (.int .u64 p1.size.2.2.2)]] 0 1))), (18, .one (.pv (.rp [[.s (.bool p1.neg), .s (.int .u64 p1.size.1), .s (.int .u64 p1.size.2.1), .s (.int .u64 p1.size.2.2.1), .s (.int .u64 p1.size.2.2.2)]] 0 1))), (17, vi (0 : Int)), (16, vi x1), (15, vk .u64 r1.size.1), (14, .one (.pt 1 0 0 1)), (13, .one (.pt 1 0 0 1)), (2, .one (.pv (.rp [[.s (.bool p1.neg), .s (.int .u64 p1.size.1), .s (.int .u64 p1.size.2.1), .s (.int .u64 p1.size.2.2.1), .s (.int .u64 p1.size.2.2.2)]] 0 0))), (3, .one (.pv (.rp [[.s (.bool p2.neg), .s (.int .u64 p2.size.1), .s (.int .u64 p2.size.2.1), .s (.int .u64 p2.size.2.2.1), .s (.int .u64 p2.size.2.2.2)]] 0 0))), (4, .one (.pt 0 0 0 0)), (5, .one (.pt 1 0 0 0)), (6, vi x1)] [0 ≤ (0 : Int) ∧ (0 : Int) < 4, ([[.s (.bool p1.neg), .s (.int .u64 p1.size.1), .s (.int .u64 p1.size.2.1), .s (.int .u64 p1.size.2.2.1), .s (.int .u64 p1.size.2.2.2)]] : List (List PV))[0]? = some [.s (.bool p1.neg), .s (.int .u64 p1.size.1), .s (.int .u64 p1.size.2.1), .s (.int .u64 p1.size.2.2.1), .s (.int .u64 p1.size.2.2.2)], (64 : Int) ≠ 0, 0 ≤ (x1.tmod (64 : Int))] (by kernel_rfl) (⟨by decide, rfl, by decide, g27, trivial⟩) ?_
      rw [show (p1.size.1.fdiv (2 ^ (min (x1.tmod (64 : Int)).toNat (IntKind.u64).bits))) = y10 from Option.some.inj hy28]
      refine DX.go 1 [] [(24, vk .u64 (IntKind.u64.wrap (BitVec.ofInt (IntKind.u64).bits y10 &&& BitVec.ofInt (IntKind.u64).bits (1 : Int)).toNat)), (23, vk .u64 y10), (22, vi (x1.tmod (64 : Int))), (21, vi x1), (20, vk .u64 p1.size.1), (19, .one (.pv (.rp [[.s (.bool p1.neg), .s (.int .u64 p1.size.1), .s (.int .u64 p1.size.2.1), .s (.int .u64 p1.size.2.2.1), .s (.int .u64 p1.size.2.2.2)]] 0 1))), (18, .one (.pv (.rp [[.s (.bool p1.neg), .s (.int .u64 p1.size.1), .s (.int .u64 p1.size.2.1), .s (.int .u64 p1.size.2.2.1), .s (.int .u64 p1.size.2.2.2)]] 0 1))), (17, vi (0 : Int)), (16, vi x1), (15, vk .u64 r1.size.1), (14, .one (.pt 1 0 0 1)), (13, .one (.pt 1 0 0 1)), (2, .one (.pv (.rp [[.s (.bool p1.neg), .s (.int .u64 p1.size.1), .s (.int .u64 p1.size.2.1), .s (.int .u64 p1.size.2.2.1), .s (.int .u64 p1.size.2.2.2)]] 0 0))), (3, .one (.pv (.rp [[.s (.bool p2.neg), .s (.int .u64 p2.size.1), .s (.int .u64 p2.size.2.1), .s (.int .u64 p2.size.2.2.1), .s (.int .u64 p2.size.2.2.2)]] 0 0))), (4, .one (.pt 0 0 0 0)), (5, .one (.pt 1 0 0 0)), (6, vi x1)] [] (by kernel_rfl) trivial ?_
      rw [show (IntKind.u64.wrap (BitVec.ofInt (IntKind.u64).bits y10 &&& BitVec.ofInt (IntKind.u64).bits (1 : Int)).toNat) = y11 from Option.some.inj hy29]
      refine DX.go 1 [] [(25, vk .u64 (IntKind.u64.wrap (BitVec.ofInt (IntKind.u64).bits r1.size.1 ||| BitVec.ofInt (IntKind.u64).bits y11).toNat)), (24, vk .u64 y11), (23, vk .u64 y10), (22, vi (x1.tmod (64 : Int))), (21, vi x1), (20, vk .u64 p1.size.1), (19, .one (.pv (.rp [[.s (.bool p1.neg), .s (.int .u64 p1.size.1), .s (.int .u64 p1.size.2.1), .s (.int .u64 p1.size.2.2.1), .s (.int .u64 p1.size.2.2.2)]] 0 1))), (18, .one (.pv (.rp [[.s (.bool p1.neg), .s (.int .u64 p1.size.1), .s (.int .u64 p1.size.2.1), .s (.int .u64 p1.size.2.2.1), .s (.int .u64 p1.size.2.2.2)]] 0 1))), (17, vi (0 : Int)), (16, vi x1), (15, vk .u64 r1.size.1), (14, .one (.pt 1 0 0 1)), (13, .one (.pt 1 0 0 1)), (2, .one (.pv (.rp [[.s (.bool p1.neg), .s (.int .u64 p1.size.1), .s (.int .u64 p1.size.2.1), .s (.int .u64 p1.size.2.2.1), .s (.int .u64 p1.size.2.2.2)]] 0 0))), (3, .one (.pv (.rp [[.s (.bool p2.neg), .s (.int .u64 p2.size.1), .s (.int .u64 p2.size.2.1), .s (.int .u64 p2.size.2.2.1), .s (.int .u64 p2.size.2.2.2)]] 0 0))), (4, .one (.pt 0 0 0 0)), (5, .one (.pt 1 0 0 0)), (6, vi x1)] [] (by kernel_rfl) trivial ?_
      rw [show (IntKind.u64.wrap (BitVec.ofInt (IntKind.u64).bits r1.size.1 ||| BitVec.ofInt (IntKind.u64).bits y11).toNat) = y12 from Option.some.inj hy30]
      exact zyg 1 zyd
     exact zo [4, 5] 2 [2,3,4,5,6] [] [0 ≤ (0 : Int) ∧ (0 : Int) < 4] (⟨by decide, trivial⟩) (zd (hJ1 y12 h _ _ (zk [2,3,4,5,6])))
    ·have h := ift_f b26 h
     rcases Bool.eq_false_or_eq_true ((IntKind.i64.wrap (x1.tdiv (64 : Int))) == (1 : Int)) with b21 | b21
     ·have h := ift_t b21 h
      obtain ⟨g22, h⟩ := grd_some h
      obtain ⟨y7, hy23, h⟩ := bnd_some h
      obtain ⟨y8, hy24, h⟩ := bnd_some h
      obtain ⟨y9, hy25, h⟩ := bnd_some h
      refine zw 14 [(26, .one (.pt 1 0 0 1)), (25, vk .u64 y9), (24, vk .u64 y8), (23, vk .u64 y7), (22, vi (x1.tmod (64 : Int))), (21, vi x1), (20, vk .u64 p1.size.2.1), (19, .one (.pv (.rp [(value_wide_quo_a1 p1)] 0 2))), (18, .one (.pv (.rp [(value_wide_quo_a1 p1)] 0 1))), (17, vi (1 : Int)), (16, vi x1), (15, vk .u64 r1.size.1), (14, .one (.pt 1 0 0 1)), (13, .one (.pt 1 0 0 1)), (2, .one (.pv (.rp [(value_wide_quo_a1 p1)] 0 0))), (3, .one (.pv (.rp [(value_wide_quo_a2 p2)] 0 0))), (4, .one (.pt 0 0 0 0)), (5, .one (.pt 1 0 0 0)), (6, vi x1)] ?_ ?_
      ·refine DX.go 6 [] [(18, .one (.pv (.rp [[.s (.bool p1.neg), .s (.int .u64 p1.size.1), .s (.int .u64 p1.size.2.1), .s (.int .u64 p1.size.2.2.1), .s (.int .u64 p1.size.2.2.2)]] 0 1))), (17, vi (IntKind.i64.wrap (x1.tdiv (64 : Int)))), (16, vi x1), (15, vk .u64 r1.size.1), (14, .one (.pt 1 0 0 1)), (13, .one (.pt 1 0 0 1)), (2, .one (.pv (.rp [[.s (.bool p1.neg), .s (.int .u64 p1.size.1), .s (.int .u64 p1.size.2.1), .s (.int .u64 p1.size.2.2.1), .s (.int .u64 p1.size.2.2.2)]] 0 0))), (3, .one (.pv (.rp [[.s (.bool p2.neg), .s (.int .u64 p2.size.1), .s (.int .u64 p2.size.2.1), .s (.int .u64 p2.size.2.2.1), .s (.int .u64 p2.size.2.2.2)]] 0 0))), (4, .one (.pt 0 0 0 0)), (5, .one (.pt 1 0 0 0)), (6, vi x1)] [0 ≤ (0 : Int) ∧ (0 : Int) < 4, (64 : Int) ≠ 0] (by kernel_rfl) (⟨by decide, by decide, trivial⟩) ?_
       refine DX.eq (fr1 := [(18, .one (.pv (.rp [[.s (.bool p1.neg), .s (.int .u64 p1.size.1), .s (.int .u64 p1.size.2.1), .s (.int .u64 p1.size.2.2.1), .s (.int .u64 p1.size.2.2.2)]] 0 1))), (17, vi (1 : Int)), (16, vi x1), (15, vk .u64 r1.size.1), (14, .one (.pt 1 0 0 1)), (13, .one (.pt 1 0 0 1)), (2, .one (.pv (.rp [[.s (.bool p1.neg), .s (.int .u64 p1.size.1), .s (.int .u64 p1.size.2.1), .s (.int .u64 p1.size.2.2.1), .s (.int .u64 p1.size.2.2.2)]] 0 0))), (3, .one (.pv (.rp [[.s (.bool p2.neg), .s (.int .u64 p2.size.1), .s (.int .u64 p2.size.2.1), .s (.int .u64 p2.size.2.2.1), .s (.int .u64 p2.size.2.2.2)]] 0 0))), (4, .one (.pt 0 0 0 0)), (5, .one (.pt 1 0 0 0)), (6, vi x1)]) (by rw [eq_of_beq b21]) ?_
       refine DX.go 5 [[.s (.bool p1.neg), .s (.int .u64 p1.size.1), .s (.int .u64 p1.size.2.1), .s (.int .u64 p1.size.2.2.1), .s (.int .u64 p1.size.2.2.2)]] [(23, vk .u64 (p1.size.2.1.fdiv (2 ^ (min (x1.tmod (64 : Int)).toNat (IntKind.u64).bits)))), (22, vi (x1.tmod (64 : Int))), (21, vi x1), (20, vk .u64 p1.size.2.1), (19, .one (.pv (.rp [[.s (.bool p1.neg), .s (.int .u64 p1.size.1), .s (.int .u64 p1.size.2.1), .s (.int .u64 p1.size.2.2.1), .s (.int .u64 p1.size.2.2.2)]] 0 2))), (18, .one (.pv (.rp [[.s (.bool p1.neg), .s (.int .u64 p1.size.1), .s (.int .u64 p1.size.2.1), .s (.int .u64 p1.size.2.2.1), .s (.int .u64 p1.size.2.2.2)]] 0 1))), (17, vi (1 : Int)), (16, vi x1), (15, vk .u64 r1.size.1), (14, .one (.pt 1 0 0 1)), (13, .one (.pt 1 0 0 1)), (2, .one (.pv (.rp [[.s (.bool p1.neg), .s (.int .u64 p1.size.1), .s (.int .u64 p1.size.2.1), .s (.int .u64 p1.size.2.2.1), .s (.int .u64 p1.size.2.2.2)]] 0 0))), (3, .one (.pv (.rp [[.s (.bool p2.neg), .s (.int .u64 p2.size.1), .s (.int .u64 p2.size.2.1), .s (.int .u64 p2.size.2.2.1), .s (.int .u64 p2.size.2.2.2)]] 0 0))), (4, .one (.pt 0 0 0 0)), (5, .one (.pt 1 0 0 0)), (6, vi x1)] [0 ≤ (1 : Int) ∧ (1 : Int) < 4, ([[.s (.bool p1.neg), .s (.int .u64 p1.size.1), .s (.int .u64 p1.size.2.1), .s (.int .u64 p1.size.2.2.1), .s (.int .u64 p1.size.2.2.2)]] : List (List PV))[0]? = some [.s (.bool p1.neg), .s (.int .u64 p1.size.1), .s (.int .u64 p1.size.2.1), .s (.int .u64 p1.size.2.2.1), .s (.int .u64 p1.size.2.2.2)], (64 : Int) ≠ 0, 0 ≤ (x1.tmod (64 : Int))] (by kernel_rfl) (⟨by decide, rfl, by decide, g22, trivial⟩) ?_
       rw [show (p1.size.2.1.fdiv (2 ^ (min (x1.tmod (64 : Int)).toNat (IntKind.u64).bits))) = y7 from Option.some.inj hy23]
       refine DX.go 1 [] [(24, vk .u64 (IntKind.u64.wrap (BitVec.ofInt (IntKind.u64).bits y7 &&& BitVec.ofInt (IntKind.u64).bits (1 : Int)).toNat)), (23, vk .u64 y7), (22, vi (x1.tmod (64 : Int))), (21, vi x1), (20, vk .u64 p1.size.2.1), (19, .one (.pv (.rp [[.s (.bool p1.neg), .s (.int .u64 p1.size.1), .s (.int .u64 p1.size.2.1), .s (.int .u64 p1.size.2.2.1), .s (.int .u64 p1.size.2.2.2)]] 0 2))), (18, .one (.pv (.rp [[.s (.bool p1.neg), .s (.int .u64 p1.size.1), .s (.int .u64 p1.size.2.1), .s (.int .u64 p1.size.2.2.1), .s (.int .u64 p1.size.2.2.2)]] 0 1))), (17, vi (1 : Int)), (16, vi x1), (15, vk .u64 r1.size.1), (14, .one (.pt 1 0 0 1)), (13, .one (.pt 1 0 0 1)), (2, .one (.pv (.rp [[.s (.bool p1.neg), .s (.int .u64 p1.size.1), .s (.int .u64 p1.size.2.1), .s (.int .u64 p1.size.2.2.1), .s (.int .u64 p1.size.2.2.2)]] 0 0))), (3, .one (.pv (.rp [[.s (.bool p2.neg), .s (.int .u64 p2.size.1), .s (.int .u64 p2.size.2.1), .s (.int .u64 p2.size.2.2.1), .s (.int .u64 p2.size.2.2.2)]] 0 0))), (4, .one (.pt 0 0 0 0)), (5, .one (.pt 1 0 0 0)), (6, vi x1)] [] (by kernel_rfl) trivial ?_
       rw [show (IntKind.u64.wrap (BitVec.ofInt (IntKind.u64).bits y7 &&& BitVec.ofInt (IntKind.u64).bits (1 : Int)).toNat) = y8 from Option.some.inj hy24]
       refine DX.go 1 [] [(25, vk .u64 (IntKind.u64.wrap (BitVec.ofInt (IntKind.u64).bits r1.size.1 ||| BitVec.ofInt (IntKind.u64).bits y8).toNat)), (24, vk .u64 y8), (23, vk .u64 y7), (22, vi (x1.tmod (64 : Int))), (21, vi x1), (20, vk .u64 p1.size.2.1), (19, .one (.pv (.rp [[.s (.bool p1.neg), .s (.int .u64 p1.size.1), .s (.int .u64 p1.size.2.1), .s (.int .u64 p1.size.2.2.1), .s (.int .u64 p1.size.2.2.2)]] 0 2))), (18, .one (.pv (.rp [[.s (.bool p1.neg), .s (.int .u64 p1.size.1), .s (.int .u64 p1.size.2.1), .s (.int .u64 p1.size.2.2.1), .s (.int .u64 p1.size.2.2.2)]] 0 1))), (17, vi (1 : Int)), (16, vi x1), (15, vk .u64 r1.size.1), (14, .one (.pt 1 0 0 1)), (13, .one (.pt 1 0 0 1)), (2, .one (.pv (.rp [[.s (.bool p1.neg), .s (.int .u64 p1.size.1), .s (.int .u64 p1.size.2.1), .s (.int .u64 p1.size.2.2.1), .s (.int .u64 p1.size.2.2.2)]] 0 0))), (3, .one (.pv (.rp [[.s (.bool p2.neg), .s (.int .u64 p2.size.1), .s (.int .u64 p2.size.2.1), .s (.int .u64 p2.size.2.2.1), .s (.int .u64 p2.size.2.2.2)]] 0 0))), (4, .one (.pt 0 0 0 0)), (5, .one (.pt 1 0 0 0)), (6, vi x1)] [] (by kernel_rfl) trivial ?_
       rw [show (IntKind.u64.wrap (BitVec.ofInt (IntKind.u64).bits r1.size.1 ||| BitVec.ofInt (IntKind.u64).bits y8).toNat) = y9 from Option.some.inj hy25]
       exact zyg 1 zyd
      refine zp [4, 5] 2 [2,3,4,5,6] [] [(2, .one (.pv (.rp [(value_wide_quo_a1 p1)] 0 0))), (3, .one (.pv (.rp [(value_wide_quo_a2 p2)] 0 0))), (4, .one (.pt 0 0 0 0)), (5, .one (.pt 1 0 0 0)), (6, vi x1)] [.box [cb false, ck .u64 z1, ck .u64 z2, ck .u64 z3, ck .u64 z4], .box [cb r1.neg, ck .u64 y9, ck .u64 r1.size.2.1, ck .u64 r1.size.2.2.1, ck .u64 r1.size.2.2.2]] [0 ≤ (0 : Int) ∧ (0 : Int) < 4] (⟨by decide, trivial⟩) ?_
      exact zd (hJ1 y9 h _ _ (zk [2,3,4,5,6]))
     ·have h := ift_f b21 h
      rcases Bool.eq_false_or_eq_true ((IntKind.i64.wrap (x1.tdiv (64 : Int))) == (2 : Int)) with b16 | b16
      ·have h := ift_t b16 h
       obtain ⟨g17, h⟩ := grd_some h
       obtain ⟨y4, hy18, h⟩ := bnd_some h
       obtain ⟨y5, hy19, h⟩ := bnd_some h
       obtain ⟨y6, hy20, h⟩ := bnd_some h
       refine zw 14 [(26, .one (.pt 1 0 0 1)), (25, vk .u64 y6), (24, vk .u64 y5), (23, vk .u64 y4), (22, vi (x1.tmod (64 : Int))), (21, vi x1), (20, vk .u64 p1.size.2.2.1), (19, .one (.pv (.rp [(value_wide_quo_a1 p1)] 0 3))), (18, .one (.pv (.rp [(value_wide_quo_a1 p1)] 0 1))), (17, vi (2 : Int)), (16, vi x1), (15, vk .u64 r1.size.1), (14, .one (.pt 1 0 0 1)), (13, .one (.pt 1 0 0 1)), (2, .one (.pv (.rp [(value_wide_quo_a1 p1)] 0 0))), (3, .one (.pv (.rp [(value_wide_quo_a2 p2)] 0 0))), (4, .one (.pt 0 0 0 0)), (5, .one (.pt 1 0 0 0)), (6, vi x1)] ?_ ?_
       ·refine DX.go 6 [] [(18, .one (.pv (.rp [[.s (.bool p1.neg), .s (.int .u64 p1.size.1), .s (.int .u64 p1.size.2.1), .s (.int .u64 p1.size.2.2.1), .s (.int .u64 p1.size.2.2.2)]] 0 1))), (17, vi (IntKind.i64.wrap (x1.tdiv (64 : Int)))), (16, vi x1), (15, vk .u64 r1.size.1), (14, .one (.pt 1 0 0 1)), (13, .one (.pt 1 0 0 1)), (2, .one (.pv (.rp [[.s (.bool p1.neg), .s (.int .u64 p1.size.1), .s (.int .u64 p1.size.2.1), .s (.int .u64 p1.size.2.2.1), .s (.int .u64 p1.size.2.2.2)]] 0 0))), (3, .one (.pv (.rp [[.s (.bool p2.neg), .s (.int .u64 p2.size.1), .s (.int .u64 p2.size.2.1), .s (.int .u64 p2.size.2.2.1), .s (.int .u64 p2.size.2.2.2)]] 0 0))), (4, .one (.pt 0 0 0 0)), (5, .one (.pt 1 0 0 0)), (6, vi x1)] [0 ≤ (0 : Int) ∧ (0 : Int) < 4, (64 : Int) ≠ 0] (by kernel_rfl) (⟨by decide, by decide, trivial⟩) ?_
        refine DX.eq (fr1 := [(18, .one (.pv (.rp [[.s (.bool p1.neg), .s (.int .u64 p1.size.1), .s (.int .u64 p1.size.2.1), .s (.int .u64 p1.size.2.2.1), .s (.int .u64 p1.size.2.2.2)]] 0 1))), (17, vi (2 : Int)), (16, vi x1), (15, vk .u64 r1.size.1), (14, .one (.pt 1 0 0 1)), (13, .one (.pt 1 0 0 1)), (2, .one (.pv (.rp [[.s (.bool p1.neg), .s (.int .u64 p1.size.1), .s (.int .u64 p1.size.2.1), .s (.int .u64 p1.size.2.2.1), .s (.int .u64 p1.size.2.2.2)]] 0 0))), (3, .one (.pv (.rp [[.s (.bool p2.neg), .s (.int .u64 p2.size.1), .s (.int .u64 p2.size.2.1), .s (.int .u64 p2.size.2.2.1), .s (.int .u64 p2.size.2.2.2)]] 0 0))), (4, .one (.pt 0 0 0 0)), (5, .one (.pt 1 0 0 0)), (6, vi x1)]) (by rw [eq_of_beq b16]) ?_
        refine DX.go 5 [[.s (.bool p1.neg), .s (.int .u64 p1.size.1), .s (.int .u64 p1.size.2.1), .s (.int .u64 p1.size.2.2.1), .s (.int .u64 p1.size.2.2.2)]] [(23, vk .u64 (p1.size.2.2.1.fdiv (2 ^ (min (x1.tmod (64 : Int)).toNat (IntKind.u64).bits)))), (22, vi (x1.tmod (64 : Int))), (21, vi x1), (20, vk .u64 p1.size.2.2.1), (19, .one (.pv (.rp [[.s (.bool p1.neg), .s (.int .u64 p1.size.1), .s (.int .u64 p1.size.2.1), .s (.int .u64 p1.size.2.2.1), .s (.int .u64 p1.size.2.2.2)]] 0 3))), (18, .one (.pv (.rp [[.s (.bool p1.neg), .s (.int .u64 p1.size.1), .s (.int .u64 p1.size.2.1), .s (.int .u64 p1.size.2.2.1), .s (.int .u64 p1.size.2.2.2)]] 0 1))), (17, vi (2 : Int)), (16, vi x1), (15, vk .u64 r1.size.1), (14, .one (.pt 1 0 0 1)), (13, .one (.pt 1 0 0 1)), (2, .one (.pv (.rp [[.s (.bool p1.neg), .s (.int .u64 p1.size.1), .s (.int .u64 p1.size.2.1), .s (.int .u64 p1.size.2.2.1), .s (.int .u64 p1.size.2.2.2)]] 0 0))), (3, .one (.pv (.rp [[.s (.bool p2.neg), .s (.int .u64 p2.size.1), .s (.int .u64 p2.size.2.1), .s (.int .u64 p2.size.2.2.1), .s (.int .u64 p2.size.2.2.2)]] 0 0))), (4, .one (.pt 0 0 0 0)), (5, .one (.pt 1 0 0 0)), (6, vi x1)] [0 ≤ (2 : Int) ∧ (2 : Int) < 4, ([[.s (.bool p1.neg), .s (.int .u64 p1.size.1), .s (.int .u64 p1.size.2.1), .s (.int .u64 p1.size.2.2.1), .s (.int .u64 p1.size.2.2.2)]] : List (List PV))[0]? = some [.s (.bool p1.neg), .s (.int .u64 p1.size.1), .s (.int .u64 p1.size.2.1), .s (.int .u64 p1.size.2.2.1), .s (.int .u64 p1.size.2.2.2)], (64 : Int) ≠ 0, 0 ≤ (x1.tmod (64 : Int))] (by kernel_rfl) (⟨by decide, rfl, by decide, g17, trivial⟩) ?_
        rw [show (p1.size.2.2.1.fdiv (2 ^ (min (x1.tmod (64 : Int)).toNat (IntKind.u64).bits))) = y4 from Option.some.inj hy18]
        refine DX.go 1 [] [(24, vk .u64 (IntKind.u64.wrap (BitVec.ofInt (IntKind.u64).bits y4 &&& BitVec.ofInt (IntKind.u64).bits (1 : Int)).toNat)), (23, vk .u64 y4), (22, vi (x1.tmod (64 : Int))), (21, vi x1), (20, vk .u64 p1.size.2.2.1), (19, .one (.pv (.rp [[.s (.bool p1.neg), .s (.int .u64 p1.size.1), .s (.int .u64 p1.size.2.1), .s (.int .u64 p1.size.2.2.1), .s (.int .u64 p1.size.2.2.2)]] 0 3))), (18, .one (.pv (.rp [[.s (.bool p1.neg), .s (.int .u64 p1.size.1), .s (.int .u64 p1.size.2.1), .s (.int .u64 p1.size.2.2.1), .s (.int .u64 p1.size.2.2.2)]] 0 1))), (17, vi (2 : Int)), (16, vi x1), (15, vk .u64 r1.size.1), (14, .one (.pt 1 0 0 1)), (13, .one (.pt 1 0 0 1)), (2, .one (.pv (.rp [[.s (.bool p1.neg), .s (.int .u64 p1.size.1), .s (.int .u64 p1.size.2.1), .s (.int .u64 p1.size.2.2.1), .s (.int .u64 p1.size.2.2.2)]] 0 0))), (3, .one (.pv (.rp [[.s (.bool p2.neg), .s (.int .u64 p2.size.1), .s (.int .u64 p2.size.2.1), .s (.int .u64 p2.size.2.2.1), .s (.int .u64 p2.size.2.2.2)]] 0 0))), (4, .one (.pt 0 0 0 0)), (5, .one (.pt 1 0 0 0)), (6, vi x1)] [] (by kernel_rfl) trivial ?_
        rw [show (IntKind.u64.wrap (BitVec.ofInt (IntKind.u64).bits y4 &&& BitVec.ofInt (IntKind.u64).bits (1 : Int)).toNat) = y5 from Option.some.inj hy19]
        refine DX.go 1 [] [(25, vk .u64 (IntKind.u64.wrap (BitVec.ofInt (IntKind.u64).bits r1.size.1 ||| BitVec.ofInt (IntKind.u64).bits y5).toNat)), (24, vk .u64 y5), (23, vk .u64 y4), (22, vi (x1.tmod (64 : Int))), (21, vi x1), (20, vk .u64 p1.size.2.2.1), (19, .one (.pv (.rp [[.s (.bool p1.neg), .s (.int .u64 p1.size.1), .s (.int .u64 p1.size.2.1), .s (.int .u64 p1.size.2.2.1), .s (.int .u64 p1.size.2.2.2)]] 0 3))), (18, .one (.pv (.rp [[.s (.bool p1.neg), .s (.int .u64 p1.size.1), .s (.int .u64 p1.size.2.1), .s (.int .u64 p1.size.2.2.1), .s (.int .u64 p1.size.2.2.2)]] 0 1))), (17, vi (2 : Int)), (16, vi x1), (15, vk .u64 r1.size.1), (14, .one (.pt 1 0 0 1)), (13, .one (.pt 1 0 0 1)), (2, .one (.pv (.rp [[.s (.bool p1.neg), .s (.int .u64 p1.size.1), .s (.int .u64 p1.size.2.1), .s (.int .u64 p1.size.2.2.1), .s (.int .u64 p1.size.2.2.2)]] 0 0))), (3, .one (.pv (.rp [[.s (.bool p2.neg), .s (.int .u64 p2.size.1), .s (.int .u64 p2.size.2.1), .s (.int .u64 p2.size.2.2.1), .s (.int .u64 p2.size.2.2.2)]] 0 0))), (4, .one (.pt 0 0 0 0)), (5, .one (.pt 1 0 0 0)), (6, vi x1)] [] (by kernel_rfl) trivial ?_
        rw [show (IntKind.u64.wrap (BitVec.ofInt (IntKind.u64).bits r1.size.1 ||| BitVec.ofInt (IntKind.u64).bits y5).toNat) = y6 from Option.some.inj hy20]
        exact zyg 1 zyd
       exact zo [4, 5] 2 [2,3,4,5,6] [] [0 ≤ (0 : Int) ∧ (0 : Int) < 4] (⟨by decide, trivial⟩) (zd (hJ1 y6 h _ _ (zk [2,3,4,5,6])))
      ·have h := ift_f b16 h
       rcases Bool.eq_false_or_eq_true ((IntKind.i64.wrap (x1.tdiv (64 : Int))) == (3 : Int)) with b11 | b11
       ·have h := ift_t b11 h
        obtain ⟨g12, h⟩ := grd_some h
        obtain ⟨y1, hy13, h⟩ := bnd_some h
        obtain ⟨y2, hy14, h⟩ := bnd_some h
        obtain ⟨y3, hy15, h⟩ := bnd_some h
        refine zw 14 [(26, .one (.pt 1 0 0 1)), (25, vk .u64 y3), (24, vk .u64 y2), (23, vk .u64 y1), (22, vi (x1.tmod (64 : Int))), (21, vi x1), (20, vk .u64 p1.size.2.2.2), (19, .one (.pv (.rp [(value_wide_quo_a1 p1)] 0 4))), (18, .one (.pv (.rp [(value_wide_quo_a1 p1)] 0 1))), (17, vi (3 : Int)), (16, vi x1), (15, vk .u64 r1.size.1), (14, .one (.pt 1 0 0 1)), (13, .one (.pt 1 0 0 1)), (2, .one (.pv (.rp [(value_wide_quo_a1 p1)] 0 0))), (3, .one (.pv (.rp [(value_wide_quo_a2 p2)] 0 0))), (4, .one (.pt 0 0 0 0)), (5, .one (.pt 1 0 0 0)), (6, vi x1)] ?_ ?_
        ·refine DX.go 6 [] [(18, .one (.pv (.rp [[.s (.bool p1.neg), .s (.int .u64 p1.size.1), .s (.int .u64 p1.size.2.1), .s (.int .u64 p1.size.2.2.1), .s (.int .u64 p1.size.2.2.2)]] 0 1))), (17, vi (IntKind.i64.wrap (x1.tdiv (64 : Int)))), (16, vi x1), (15, vk .u64 r1.size.1), (14, .one (.pt 1 0 0 1)), (13, .one (.pt 1 0 0 1)), (2, .one (.pv (.rp [[.s (.bool p1.neg), .s (.int .u64 p1.size.1), .s (.int .u64 p1.size.2.1), .s (.int .u64 p1.size.2.2.1), .s (.int .u64 p1.size.2.2.2)]] 0 0))), (3, .one (.pv (.rp [[.s (.bool p2.neg), .s (.int .u64 p2.size.1), .s (.int .u64 p2.size.2.1), .s (.int .u64 p2.size.2.2.1), .s (.int .u64 p2.size.2.2.2)]] 0 0))), (4, .one (.pt 0 0 0 0)), (5, .one (.pt 1 0 0 0)), (6, vi x1)] [0 ≤ (0 : Int) ∧ (0 : Int) < 4, (64 : Int) ≠ 0] (by kernel_rfl) (⟨by decide, by decide, trivial⟩) ?_
         refine DX.eq (fr1 := [(18, .one (.pv (.rp [[.s (.bool p1.neg), .s (.int .u64 p1.size.1), .s (.int .u64 p1.size.2.1), .s (.int .u64 p1.size.2.2.1), .s (.int .u64 p1.size.2.2.2)]] 0 1))), (17, vi (3 : Int)), (16, vi x1), (15, vk .u64 r1.size.1), (14, .one (.pt 1 0 0 1)), (13, .one (.pt 1 0 0 1)), (2, .one (.pv (.rp [[.s (.bool p1.neg), .s (.int .u64 p1.size.1), .s (.int .u64 p1.size.2.1), .s (.int .u64 p1.size.2.2.1), .s (.int .u64 p1.size.2.2.2)]] 0 0))), (3, .one (.pv (.rp [[.s (.bool p2.neg), .s (.int .u64 p2.size.1), .s (.int .u64 p2.size.2.1), .s (.int .u64 p2.size.2.2.1), .s (.int .u64 p2.size.2.2.2)]] 0 0))), (4, .one (.pt 0 0 0 0)), (5, .one (.pt 1 0 0 0)), (6, vi x1)]) (by rw [eq_of_beq b11]) ?_
         refine DX.go 5 [[.s (.bool p1.neg), .s (.int .u64 p1.size.1), .s (.int .u64 p1.size.2.1), .s (.int .u64 p1.size.2.2.1), .s (.int .u64 p1.size.2.2.2)]] [(23, vk .u64 (p1.size.2.2.2.fdiv (2 ^ (min (x1.tmod (64 : Int)).toNat (IntKind.u64).bits)))), (22, vi (x1.tmod (64 : Int))), (21, vi x1), (20, vk .u64 p1.size.2.2.2), (19, .one (.pv (.rp [[.s (.bool p1.neg), .s (.int .u64 p1.size.1), .s (.int .u64 p1.size.2.1), .s (.int .u64 p1.size.2.2.1), .s (.int .u64 p1.size.2.2.2)]] 0 4))), (18, .one (.pv (.rp [[.s (.bool p1.neg), .s (.int .u64 p1.size.1), .s (.int .u64 p1.size.2.1), .s (.int .u64 p1.size.2.2.1), .s (.int .u64 p1.size.2.2.2)]] 0 1))), (17, vi (3 : Int)), (16, vi x1), (15, vk .u64 r1.size.1), (14, .one (.pt 1 0 0 1)), (13, .one (.pt 1 0 0 1)), (2, .one (.pv (.rp [[.s (.bool p1.neg), .s (.int .u64 p1.size.1), .s (.int .u64 p1.size.2.1), .s (.int .u64 p1.size.2.2.1), .s (.int .u64 p1.size.2.2.2)]] 0 0))), (3, .one (.pv (.rp [[.s (.bool p2.neg), .s (.int .u64 p2.size.1), .s (.int .u64 p2.size.2.1), .s (.int .u64 p2.size.2.2.1), .s (.int .u64 p2.size.2.2.2)]] 0 0))), (4, .one (.pt 0 0 0 0)), (5, .one (.pt 1 0 0 0)), (6, vi x1)] [0 ≤ (3 : Int) ∧ (3 : Int) < 4, ([[.s (.bool p1.neg), .s (.int .u64 p1.size.1), .s (.int .u64 p1.size.2.1), .s (.int .u64 p1.size.2.2.1), .s (.int .u64 p1.size.2.2.2)]] : List (List PV))[0]? = some [.s (.bool p1.neg), .s (.int .u64 p1.size.1), .s (.int .u64 p1.size.2.1), .s (.int .u64 p1.size.2.2.1), .s (.int .u64 p1.size.2.2.2)], (64 : Int) ≠ 0, 0 ≤ (x1.tmod (64 : Int))] (by kernel_rfl) (⟨by decide, rfl, by decide, g12, trivial⟩) ?_
         rw [show (p1.size.2.2.2.fdiv (2 ^ (min (x1.tmod (64 : Int)).toNat (IntKind.u64).bits))) = y1 from Option.some.inj hy13]
         refine DX.go 1 [] [(24, vk .u64 (IntKind.u64.wrap (BitVec.ofInt (IntKind.u64).bits y1 &&& BitVec.ofInt (IntKind.u64).bits (1 : Int)).toNat)), (23, vk .u64 y1), (22, vi (x1.tmod (64 : Int))), (21, vi x1), (20, vk .u64 p1.size.2.2.2), (19, .one (.pv (.rp [[.s (.bool p1.neg), .s (.int .u64 p1.size.1), .s (.int .u64 p1.size.2.1), .s (.int .u64 p1.size.2.2.1), .s (.int .u64 p1.size.2.2.2)]] 0 4))), (18, .one (.pv (.rp [[.s (.bool p1.neg), .s (.int .u64 p1.size.1), .s (.int .u64 p1.size.2.1), .s (.int .u64 p1.size.2.2.1), .s (.int .u64 p1.size.2.2.2)]] 0 1))), (17, vi (3 : Int)), (16, vi x1), (15, vk .u64 r1.size.1), (14, .one (.pt 1 0 0 1)), (13, .one (.pt 1 0 0 1)), (2, .one (.pv (.rp [[.s (.bool p1.neg), .s (.int .u64 p1.size.1), .s (.int .u64 p1.size.2.1), .s (.int .u64 p1.size.2.2.1), .s (.int .u64 p1.size.2.2.2)]] 0 0))), (3, .one (.pv (.rp [[.s (.bool p2.neg), .s (.int .u64 p2.size.1), .s (.int .u64 p2.size.2.1), .s (.int .u64 p2.size.2.2.1), .s (.int .u64 p2.size.2.2.2)]] 0 0))), (4, .one (.pt 0 0 0 0)), (5, .one (.pt 1 0 0 0)), (6, vi x1)] [] (by kernel_rfl) trivial ?_
         rw [show (IntKind.u64.wrap (BitVec.ofInt (IntKind.u64).bits y1 &&& BitVec.ofInt (IntKind.u64).bits (1 : Int)).toNat) = y2 from Option.some.inj hy14]
         refine DX.go 1 [] [(25, vk .u64 (IntKind.u64.wrap (BitVec.ofInt (IntKind.u64).bits r1.size.1 ||| BitVec.ofInt (IntKind.u64).bits y2).toNat)), (24, vk .u64 y2), (23, vk .u64 y1), (22, vi (x1.tmod (64 : Int))), (21, vi x1), (20, vk .u64 p1.size.2.2.2), (19, .one (.pv (.rp [[.s (.bool p1.neg), .s (.int .u64 p1.size.1), .s (.int .u64 p1.size.2.1), .s (.int .u64 p1.size.2.2.1), .s (.int .u64 p1.size.2.2.2)]] 0 4))), (18, .one (.pv (.rp [[.s (.bool p1.neg), .s (.int .u64 p1.size.1), .s (.int .u64 p1.size.2.1), .s (.int .u64 p1.size.2.2.1), .s (.int .u64 p1.size.2.2.2)]] 0 1))), (17, vi (3 : Int)), (16, vi x1), (15, vk .u64 r1.size.1), (14, .one (.pt 1 0 0 1)), (13, .one (.pt 1 0 0 1)), (2, .one (.pv (.rp [[.s (.bool p1.neg), .s (.int .u64 p1.size.1), .s (.int .u64 p1.size.2.1), .s (.int .u64 p1.size.2.2.1), .s (.int .u64 p1.size.2.2.2)]] 0 0))), (3, .one (.pv (.rp [[.s (.bool p2.neg), .s (.int .u64 p2.size.1), .s (.int .u64 p2.size.2.1), .s (.int .u64 p2.size.2.2.1), .s (.int .u64 p2.size.2.2.2)]] 0 0))), (4, .one (.pt 0 0 0 0)), (5, .one (.pt 1 0 0 0)), (6, vi x1)] [] (by kernel_rfl) trivial ?_
         rw [show (IntKind.u64.wrap (BitVec.ofInt (IntKind.u64).bits r1.size.1 ||| BitVec.ofInt (IntKind.u64).bits y2).toNat) = y3 from Option.some.inj hy15]
         exact zyg 1 zyd
        exact zo [4, 5] 2 [2,3,4,5,6] [] [0 ≤ (0 : Int) ∧ (0 : Int) < 4] (⟨by decide, trivial⟩) (zd (hJ1 y3 h _ _ (zk [2,3,4,5,6])))
       ·have h := ift_f b11 h
        cases h
   ·have h := ift_f b6 h
    exact zx 0 (hQ1 _ _ _ (hJ3 z1 z2 z3 z4 z5 z6 z7 z8 z9 h _ _ (zk [2,3,4,5])))
 exact XR.sub (zk [2,3,4,5,6]) (hL1 BIG (0 : Int) (0 : Int) (0 : Int) (0 : Int) false (0 : Int) (0 : Int) (0 : Int) (0 : Int) (255 : Int) h)

def value_wide_rounded_j2 (z1 : Bool) (z2 : Int) (z3 : Int) (z4 : Int) (z5 : Int) : Option GWide :=
    some (GWide.mk z1 (z2, z3, z4, z5))

def value_wide_rounded_j1 (r1 : (GWide × GWide)) (x1 : Bool) : Option GWide :=
    ift x1
      (bnd (value_whole (1 : Int)) fun r4 =>
       bnd (value_wide_plus BIG (GWide.mk r1.1.neg (r1.1.size.1, r1.1.size.2.1, r1.1.size.2.2.1, r1.1.size.2.2.2)) (GWide.mk r1.1.neg (r4.size.1, r4.size.2.1, r4.size.2.2.1, r4.size.2.2.2))) fun r5 =>
       value_wide_rounded_j2 r5.neg r5.size.1 r5.size.2.1 r5.size.2.2.1 r5.size.2.2.2)
      (value_wide_rounded_j2 r1.1.neg r1.1.size.1 r1.1.size.2.1 r1.1.size.2.2.1 r1.1.size.2.2.2)

def value_wide_rounded (p1 : GWide) (p2 : GWide) : Option GWide :=
    bnd (value_wide_quo (GWide.mk p1.neg (p1.size.1, p1.size.2.1, p1.size.2.2.1, p1.size.2.2.2)) (GWide.mk p2.neg (p2.size.1, p2.size.2.1, p2.size.2.2.1, p2.size.2.2.2))) fun r1 =>
    bnd (value_wide_times (GWide.mk r1.2.neg (r1.2.size.1, r1.2.size.2.1, r1.2.size.2.2.1, r1.2.size.2.2.2)) (2 : Int)) fun r2 =>
    bnd (value_compareSize (GWide.mk r2.neg (r2.size.1, r2.size.2.1, r2.size.2.2.1, r2.size.2.2.2)) (GWide.mk p2.neg (p2.size.1, p2.size.2.1, p2.size.2.2.1, p2.size.2.2.2))) fun r3 =>
    ift (decide ((0 : Int) < r3))
      (value_wide_rounded_j1 r1 true)
      (ift (r3 == (0 : Int))
         (bnd (some (IntKind.u64.wrap (BitVec.ofInt (IntKind.u64).bits r1.1.size.1 &&& BitVec.ofInt (IntKind.u64).bits (1 : Int)).toNat)) fun y1 =>
          value_wide_rounded_j1 r1 (y1 == (1 : Int)))
         (value_wide_rounded_j1 r1 false))

abbrev value_wide_rounded_a1 (p1 : GWide) : List CV := [cb p1.neg, ck .u64 p1.size.1, ck .u64 p1.size.2.1, ck .u64 p1.size.2.2.1, ck .u64 p1.size.2.2.2]
abbrev value_wide_rounded_a2 (p2 : GWide) : List CV := [cb p2.neg, ck .u64 p2.size.1, ck .u64 p2.size.2.1, ck .u64 p2.size.2.2.1, ck .u64 p2.size.2.2.2]
abbrev value_wide_rounded_a3 (p1 : GWide) : List PV := [.s (.bool p1.neg), .s (.int .u64 p1.size.1), .s (.int .u64 p1.size.2.1), .s (.int .u64 p1.size.2.2.1), .s (.int .u64 p1.size.2.2.2)]
abbrev value_wide_rounded_a4 (p2 : GWide) : List PV := [.s (.bool p2.neg), .s (.int .u64 p2.size.1), .s (.int .u64 p2.size.2.1), .s (.int .u64 p2.size.2.2.1), .s (.int .u64 p2.size.2.2.2)]
abbrev value_wide_rounded_a5 (r1 : (GWide × GWide)) : List CV := [cb r1.1.neg, ck .u64 r1.1.size.1, ck .u64 r1.1.size.2.1, ck .u64 r1.1.size.2.2.1, ck .u64 r1.1.size.2.2.2]
abbrev value_wide_rounded_a6 (r1 : (GWide × GWide)) : List CV := [cb r1.2.neg, ck .u64 r1.2.size.1, ck .u64 r1.2.size.2.1, ck .u64 r1.2.size.2.2.1, ck .u64 r1.2.size.2.2.2]
abbrev value_wide_rounded_a7 : Fr := [(4, .one (.pt 0 0 0 0)), (5, .one (.pt 1 0 0 0))]
abbrev value_wide_rounded_a8 : List CV := [cb false, ck .u64 (0 : Int), ck .u64 (0 : Int), ck .u64 (0 : Int), ck .u64 (0 : Int)]
abbrev value_wide_rounded_a9 (r2 : GWide) : List CV := [cb r2.neg, ck .u64 r2.size.1, ck .u64 r2.size.2.1, ck .u64 r2.size.2.2.1, ck .u64 r2.size.2.2.2]

theorem c_value_wide_rounded (p1 : GWide) (p2 : GWide) (r : GWide) (h : value_wide_rounded p1 p2 = some r) : PC Tryd.prog 49 [.ag (value_wide_rounded_a1 p1), .ag (value_wide_rounded_a2 p2)] (.ag [cb r.neg, ck .u64 r.size.1, ck .u64 r.size.2.1, ck .u64 r.size.2.2.1, ck .u64 r.size.2.2.2]) := by
 unfold value_wide_rounded at h
 refine PC.of (n := 40) (fn := Tryd.f49) (c := cd Tryd.f49 []) (by kernel_rfl) (by kernel_rfl) (by kernel_rfl) (Nat.le_of_ble_eq_true rfl) (zq fun K1 hK1 => zr (zg [4, 5, 6, 8] 3 [2,3,4] (zd (hK1 _ _ (zq fun K2 hK2 => ?_)))))
 obtain ⟨r1, c3, h⟩ := bnd_some h
 refine zr ?_
 refine zo [4, 5, 6, 8] 2 [3,4,10,11] [(value_wide_rounded_a3 p1), (value_wide_rounded_a4 p2)] [([(value_wide_rounded_a3 p1)] : List (List PV))[0]? = some (value_wide_rounded_a3 p1), ([(value_wide_rounded_a4 p2)] : List (List PV))[0]? = some (value_wide_rounded_a4 p2)] (⟨rfl, rfl, trivial⟩) ?_
 refine XO.cal 94 [.ag (value_wide_rounded_a1 p1), .ag (value_wide_rounded_a2 p2)] (.tp [.ag (value_wide_rounded_a5 r1), .ag (value_wide_rounded_a6 r1)]) [(12, .tp [.ag (value_wide_rounded_a5 r1), .ag (value_wide_rounded_a6 r1)]), (3, .one (.pv (.rp [(value_wide_rounded_a4 p2)] 0 0))), (4, .one (.pt 0 0 0 0)), (10, .ag (value_wide_rounded_a1 p1)), (11, .ag (value_wide_rounded_a2 p2))] (by kernel_rfl) (c_value_wide_quo _ _ _ c3) rfl rfl (by kernel_rfl) ?_
 refine zg [4, 5, 6, 8] 7 [3,4,5,6] (zd (hK2 _ _ (zq fun K4 hK4 => ?_)))
 have hJ2 : ∀ (z1 : Bool) (z2 : Int) (z3 : Int) (z4 : Int) (z5 : Int), value_wide_rounded_j2 z1 z2 z3 z4 z5 = some r → ∀ fr1 st1, Sub 40 0 [] fr1 st1 value_wide_rounded_a7 [.box value_wide_rounded_a8, .box [cb z1, ck .u64 z2, ck .u64 z3, ck .u64 z4, ck .u64 z5], .box (value_wide_rounded_a6 r1)] → K4 fr1 st1 := by
  intro z1 z2 z3 z4 z5 h fr1 st1 hS
  unfold value_wide_rounded_j2 at h
  refine hK4 _ _ (XW.sub hS ?_)
  refine zq fun K17 hK17 => zr (zg [4, 5, 6, 8] 2 [4] (zd (hK17 _ _ (ze ?_))))
  obtain rfl := Option.some.inj h
  exact zf [.ag [cb z1, ck .u64 z2, ck .u64 z3, ck .u64 z4, ck .u64 z5]] (.ag (.cons (.rfl _ rfl) (.cons (.rfl _ rfl) (.cons (.rfl _ rfl) (.cons (.rfl _ rfl) (.cons (.rfl _ rfl) .nil))))))
 refine zq fun K5 hK5 => ?_
 obtain ⟨r2, c6, h⟩ := bnd_some h
 obtain ⟨r3, c7, h⟩ := bnd_some h
 refine zw 3 [(17, .ag (value_wide_rounded_a2 p2)), (16, .ag (value_wide_rounded_a9 r2)), (15, .ag (value_wide_rounded_a6 r1)), (3, .one (.pv (.rp [(value_wide_rounded_a4 p2)] 0 0))), (4, .one (.pt 0 0 0 0)), (5, .one (.pt 1 0 0 0)), (6, .one (.pt 2 0 0 0))] ?_ ?_
 ·refine zyg 1 ?_
  refine DX.cal 96 [.ag (value_wide_rounded_a6 r1), vk .u64 (2 : Int)] (.ag (value_wide_rounded_a9 r2)) [(16, .ag (value_wide_rounded_a9 r2)), (15, .ag (value_wide_rounded_a6 r1)), (3, .one (.pv (.rp [(value_wide_rounded_a4 p2)] 0 0))), (4, .one (.pt 0 0 0 0)), (5, .one (.pt 1 0 0 0)), (6, .one (.pt 2 0 0 0))] (by kernel_rfl) (c_value_wide_times _ _ _ c6) rfl rfl (by kernel_rfl) ?_
  exact zyo 1 [(value_wide_rounded_a4 p2)] [([(value_wide_rounded_a4 p2)] : List (List PV))[0]? = some (value_wide_rounded_a4 p2)] (⟨rfl, trivial⟩) zyd
 refine za (c_value_compareSize _ _ _ c7) (zp [4, 5, 6, 8] 1 [4,5,7] [] [(4, .one (.pt 0 0 0 0)), (5, .one (.pt 1 0 0 0)), (7, vi r3)] [.box value_wide_rounded_a8, .box (value_wide_rounded_a5 r1), .box (value_wide_rounded_a6 r1)] [] trivial (zd (hK5 _ _ (zq fun K8 hK8 => ?_))))
 have hJ1 : ∀ (x1 : Bool), value_wide_rounded_j1 r1 x1 = some r → ∀ fr1 st1, Sub 40 0 [] fr1 st1 [(4, .one (.pt 0 0 0 0)), (5, .one (.pt 1 0 0 0)), (31, vb x1)] [.box value_wide_rounded_a8, .box (value_wide_rounded_a5 r1), .box (value_wide_rounded_a6 r1)] → K8 fr1 st1 := by
  intro x1 h fr1 st1 hS
  unfold value_wide_rounded_j1 at h
  refine hK8 _ _ (XW.sub hS ?_)
  refine zc x1 (fun b12 => ?_) (fun b12 => ?_)
  ·have h := ift_t b12 h
   refine zq fun K13 hK13 => ?_
   obtain ⟨r4, c14, h⟩ := bnd_some h
   refine zr (za (c_value_whole _ _ c14) (zg [4, 5, 6, 8] 2 [4,5,8] (zd (hK13 _ _ (zq fun K15 hK15 => zr ?_)))))
   refine zp [4, 5, 6, 8] 4 [4,5,8] [] [(4, .one (.pt 0 0 0 0)), (5, .one (.pt 1 0 0 0)), (8, .one (.pt 3 0 0 0))] [.box value_wide_rounded_a8, .box (value_wide_rounded_a5 r1), .box (value_wide_rounded_a6 r1), .box [cb r1.1.neg, ck .u64 r4.size.1, ck .u64 r4.size.2.1, ck .u64 r4.size.2.2.1, ck .u64 r4.size.2.2.2]] [] trivial (zd (hK15 _ _ ?_))
   obtain ⟨r5, c16, h⟩ := bnd_some h
   refine zr (zg [4, 5, 6, 8] 2 [4,5,36,37] (za (c_value_wide_plus BIG _ _ _ c16) (zp [4, 5, 6, 8] 1 [4,5] [] value_wide_rounded_a7 [.box value_wide_rounded_a8, .box [cb r5.neg, ck .u64 r5.size.1, ck .u64 r5.size.2.1, ck .u64 r5.size.2.2.1, ck .u64 r5.size.2.2.2], .box (value_wide_rounded_a6 r1), .box [cb r1.1.neg, ck .u64 r4.size.1, ck .u64 r4.size.2.1, ck .u64 r4.size.2.2.1, ck .u64 r4.size.2.2.2]] [] trivial (zd ?_))))
   exact hJ2 r5.neg r5.size.1 r5.size.2.1 r5.size.2.2.1 r5.size.2.2.2 h _ _ (Sub.trans (Sub.pick (fr' := value_wide_rounded_a7) [4,5] (by kernel_rfl)) (Sub.take (fr' := value_wide_rounded_a7) 3 (Nat.zero_le _) (by kernel_rfl) (by kernel_rfl)))
  ·have h := ift_f b12 h
   exact zs (hJ2 r1.1.neg r1.1.size.1 r1.1.size.2.1 r1.1.size.2.2.1 r1.1.size.2.2.2 h _ _ (zk [4,5]))
 rcases Bool.eq_false_or_eq_true (decide ((0 : Int) < r3)) with b9 | b9
 ·have h := ift_t b9 h
  exact zr (zg [4, 5, 6, 8] 3 [4,5,7,21] (zt 21 b9 (zg [4, 5, 6, 8] 10 [4,5,31] (zd (hJ1 true h _ _ (zk [4,5,31]))))))
 ·have h := ift_f b9 h
  rcases Bool.eq_false_or_eq_true (r3 == (0 : Int)) with b10 | b10
  ·have h := ift_t b10 h
   obtain ⟨y1, hy11, h⟩ := bnd_some h
   refine zr (zp [4, 5, 6, 8] 3 [4,5,7,21] [] [(4, .one (.pt 0 0 0 0)), (5, .one (.pt 1 0 0 0)), (7, vi r3), (21, vb (decide ((0 : Int) < r3)))] [.box value_wide_rounded_a8, .box (value_wide_rounded_a5 r1), .box (value_wide_rounded_a6 r1)] [] trivial (zt 21 b9 (zg [4, 5, 6, 8] 3 [4,5,21,24] (zt 24 b10 ?_))))
   refine zp [4, 5, 6, 8] 4 [4,5,21,24,28] [] [(4, .one (.pt 0 0 0 0)), (5, .one (.pt 1 0 0 0)), (21, vb false), (24, vb true), (28, vk .u64 (IntKind.u64.wrap (BitVec.ofInt (IntKind.u64).bits r1.1.size.1 &&& BitVec.ofInt (IntKind.u64).bits (1 : Int)).toNat))] [.box [cb false, ck .u64 (0 : Int), ck .u64 (0 : Int), ck .u64 (0 : Int), ck .u64 (0 : Int)], .box [cb r1.1.neg, ck .u64 r1.1.size.1, ck .u64 r1.1.size.2.1, ck .u64 r1.1.size.2.2.1, ck .u64 r1.1.size.2.2.2], .box [cb r1.2.neg, ck .u64 r1.2.size.1, ck .u64 r1.2.size.2.1, ck .u64 r1.2.size.2.2.1, ck .u64 r1.2.size.2.2.2]] [0 ≤ (0 : Int) ∧ (0 : Int) < 4] (⟨by decide, trivial⟩) ?_
   rw [show (IntKind.u64.wrap (BitVec.ofInt (IntKind.u64).bits r1.1.size.1 &&& BitVec.ofInt (IntKind.u64).bits (1 : Int)).toNat) = y1 from Option.some.inj hy11]
   exact zg [4, 5, 6, 8] 3 [4,5,31] (zd (hJ1 (y1 == (1 : Int)) h _ _ (zk [4,5,31])))
  ·have h := ift_f b10 h
   exact zr (zg [4, 5, 6, 8] 3 [4,5,7,21] (zt 21 b9 (zp [4, 5, 6, 8] 3 [4,5,21,24] [] [(4, .one (.pt 0 0 0 0)), (5, .one (.pt 1 0 0 0)), (21, vb false), (24, vb (r3 == (0 : Int)))] [.box value_wide_rounded_a8, .box (value_wide_rounded_a5 r1), .box (value_wide_rounded_a6 r1)] [] trivial (zt 24 b10 (zg [4, 5, 6, 8] 7 [4,5,31] (zd (hJ1 false h _ _ (zk [4,5,31]))))))))

def value_rescaled (p1 : GWide) (p2 : Int) (p3 : Int) : Option GWide :=
    ift (decide (p2 ≤ p3))
      (bnd (value_wide_shifted (GWide.mk p1.neg (p1.size.1, p1.size.2.1, p1.size.2.2.1, p1.size.2.2.2)) (IntKind.i64.wrap (p3 - p2))) fun r1 =>
       some (GWide.mk r1.neg (r1.size.1, r1.size.2.1, r1.size.2.2.1, r1.size.2.2.2)))
      (bnd (value_scaled (1 : Int) (IntKind.i64.wrap (p2 - p3))) fun r2 =>
       bnd (value_wide_rounded (GWide.mk p1.neg (p1.size.1, p1.size.2.1, p1.size.2.2.1, p1.size.2.2.2)) (GWide.mk r2.neg (r2.size.1, r2.size.2.1, r2.size.2.2.1, r2.size.2.2.2))) fun r3 =>
       some (GWide.mk r3.neg (r3.size.1, r3.size.2.1, r3.size.2.2.1, r3.size.2.2.2)))

abbrev value_rescaled_a1 (p1 : GWide) : List CV := [cb p1.neg, ck .u64 p1.size.1, ck .u64 p1.size.2.1, ck .u64 p1.size.2.2.1, ck .u64 p1.size.2.2.2]
abbrev value_rescaled_a2 (p1 : GWide) : List PV := [.s (.bool p1.neg), .s (.int .u64 p1.size.1), .s (.int .u64 p1.size.2.1), .s (.int .u64 p1.size.2.2.1), .s (.int .u64 p1.size.2.2.2)]
abbrev value_rescaled_a3 (r2 : GWide) : List CV := [cb r2.neg, ck .u64 r2.size.1, ck .u64 r2.size.2.1, ck .u64 r2.size.2.2.1, ck .u64 r2.size.2.2.2]
abbrev value_rescaled_a4 (r3 : GWide) : List CV := [cb r3.neg, ck .u64 r3.size.1, ck .u64 r3.size.2.1, ck .u64 r3.size.2.2.1, ck .u64 r3.size.2.2.2]

theorem c_value_rescaled (p1 : GWide) (p2 : Int) (p3 : Int) (r : GWide) (h : value_rescaled p1 p2 p3 = some r) : PC Tryd.prog 48 [.ag (value_rescaled_a1 p1), vi p2, vi p3] (.ag [cb r.neg, ck .u64 r.size.1, ck .u64 r.size.2.1, ck .u64 r.size.2.2.1, ck .u64 r.size.2.2.2]) := by
 unfold value_rescaled at h
 refine PC.of (n := 21) (fn := Tryd.f48) (c := cd Tryd.f48 []) (by kernel_rfl) (by kernel_rfl) (by kernel_rfl) (Nat.le_of_ble_eq_true rfl) (zq fun K1 hK1 => zr (zg [6] 2 [1,2,3,6] (zd (hK1 _ _ (zq fun K2 hK2 => zq fun K3 hK3 => ?_)))))
 refine zr (zg [6] 3 [1,2,3,6,9] (zd (hK3 _ _ (zc (decide (p2 ≤ p3)) (fun b4 => ?_) (fun b4 => ?_)))))
 ·have h := ift_t b4 h
  refine zq fun K5 hK5 => ?_
  obtain ⟨r1, c6, h⟩ := bnd_some h
  refine zr ?_
  refine zp [6] 4 [6,10,13] [(value_rescaled_a2 p1)] [(6, .one (.pt 0 0 0 0)), (10, .ag (value_rescaled_a1 p1)), (13, vi (IntKind.i64.wrap (p3 - p2)))] [.box [cb false, ck .u64 (0 : Int), ck .u64 (0 : Int), ck .u64 (0 : Int), ck .u64 (0 : Int)]] [([(value_rescaled_a2 p1)] : List (List PV))[0]? = some (value_rescaled_a2 p1)] (⟨rfl, trivial⟩) ?_
  refine za (c_value_wide_shifted _ _ _ c6) (zg [6] 1 [6] (zd (hK5 _ _ (ze ?_))))
  obtain rfl := Option.some.inj h
  exact zf [.ag [cb r1.neg, ck .u64 r1.size.1, ck .u64 r1.size.2.1, ck .u64 r1.size.2.2.1, ck .u64 r1.size.2.2.2]] (.ag (.cons (.rfl _ rfl) (.cons (.rfl _ rfl) (.cons (.rfl _ rfl) (.cons (.rfl _ rfl) (.cons (.rfl _ rfl) .nil))))))
 ·have h := ift_f b4 h
  refine zs (hK2 _ _ (zq fun K7 hK7 => ?_))
  obtain ⟨r2, c8, h⟩ := bnd_some h
  obtain ⟨r3, c9, h⟩ := bnd_some h
  refine zw 5 [(19, .ag (value_rescaled_a3 r2)), (18, vi (IntKind.i64.wrap (p2 - p3))), (17, vi p3), (16, vi p2), (15, .ag (value_rescaled_a1 p1)), (1, vi p2), (2, vi p3), (3, .one (.pv (.rp [(value_rescaled_a2 p1)] 0 0))), (6, .one (.pt 0 0 0 0)), (9, vb (decide (p2 ≤ p3)))] ?_ ?_
  ·refine DX.go 4 [(value_rescaled_a2 p1)] [(18, vi (IntKind.i64.wrap (p2 - p3))), (17, vi p3), (16, vi p2), (15, .ag (value_rescaled_a1 p1)), (1, vi p2), (2, vi p3), (3, .one (.pv (.rp [(value_rescaled_a2 p1)] 0 0))), (6, .one (.pt 0 0 0 0)), (9, vb (decide (p2 ≤ p3)))] [([(value_rescaled_a2 p1)] : List (List PV))[0]? = some (value_rescaled_a2 p1)] (by kernel_rfl) (⟨rfl, trivial⟩) ?_
   exact zya (c_value_scaled _ _ _ c8) zyd
  refine XO.cal 49 [.ag (value_rescaled_a1 p1), .ag (value_rescaled_a3 r2)] (.ag (value_rescaled_a4 r3)) [(20, .ag (value_rescaled_a4 r3)), (19, .ag (value_rescaled_a3 r2)), (18, vi (IntKind.i64.wrap (p2 - p3))), (17, vi p3), (16, vi p2), (15, .ag (value_rescaled_a1 p1)), (1, vi p2), (2, vi p3), (3, .one (.pv (.rp [(value_rescaled_a2 p1)] 0 0))), (6, .one (.pt 0 0 0 0)), (9, vb (decide (p2 ≤ p3)))] (by kernel_rfl) (c_value_wide_rounded _ _ _ c9) rfl rfl (by kernel_rfl) ?_
  refine zg [6] 1 [6] (zd (hK7 _ _ (ze ?_)))
  obtain rfl := Option.some.inj h
  exact zf [.ag (value_rescaled_a4 r3)] (.ag (.cons (.rfl _ rfl) (.cons (.rfl _ rfl) (.cons (.rfl _ rfl) (.cons (.rfl _ rfl) (.cons (.rfl _ rfl) .nil))))))

def value_wide_number_j1 (p1 : GWide) (x1 : Bool) : Option (Int × Bool) :=
    ift x1
      (some ((0 : Int), false))
      (ift p1.neg
         (some ((IntKind.i64.wrap (0 - (IntKind.i64.wrap p1.size.1))), true))
         (some ((IntKind.i64.wrap p1.size.1), true)))

def value_wide_number (p1 : GWide) : Option (Int × Bool) :=
    bnd (some (IntKind.u64.wrap (BitVec.ofInt (IntKind.u64).bits p1.size.2.1 ||| BitVec.ofInt (IntKind.u64).bits p1.size.2.2.1).toNat)) fun y1 =>
    bnd (some (IntKind.u64.wrap (BitVec.ofInt (IntKind.u64).bits y1 ||| BitVec.ofInt (IntKind.u64).bits p1.size.2.2.2).toNat)) fun y2 =>
    ift (y2 != (0 : Int))
      (value_wide_number_j1 p1 true)
      (value_wide_number_j1 p1 (decide ((9223372036854775808 : Int) ≤ p1.size.1)))

abbrev value_wide_number_a1 (p1 : GWide) : List PV := [.s (.bool p1.neg), .s (.int .u64 p1.size.1), .s (.int .u64 p1.size.2.1), .s (.int .u64 p1.size.2.2.1), .s (.int .u64 p1.size.2.2.2)]

theorem c_value_wide_number (p1 : GWide) (r : (Int × Bool)) (h : value_wide_number p1 = some r) : PC Tryd.prog 93 [.ag [cb p1.neg, ck .u64 p1.size.1, ck .u64 p1.size.2.1, ck .u64 p1.size.2.2.1, ck .u64 p1.size.2.2.2]] (.tp [vi r.1, vb r.2]) := by
 unfold value_wide_number at h
 refine PC.of (n := 33) (fn := Tryd.f93) (c := cd Tryd.f93 []) (by kernel_rfl) (by kernel_rfl) (by kernel_rfl) (Nat.le_of_ble_eq_true rfl) (zq fun K1 hK1 => zr (zg [] 3 [1] (zd (hK1 _ _ (zq fun K2 hK2 => zq fun K3 hK3 => ?_)))))
 have hJ1 : ∀ (x1 : Bool), value_wide_number_j1 p1 x1 = some r → ∀ fr1 st1, Sub 33 0 [] fr1 st1 [(1, .one (.pv (.rp [(value_wide_number_a1 p1)] 0 0))), (21, vb x1)] [] → K3 fr1 st1 := by
  intro x1 h fr1 st1 hS
  unfold value_wide_number_j1 at h
  refine hK3 _ _ (XW.sub hS ?_)
  refine zc x1 (fun b7 => ?_) (fun b7 => ?_)
  ·have h := ift_t b7 h
   refine zq fun K8 hK8 => zr (zg [] 2 [2,3] (zd (hK8 _ _ (ze ?_))))
   obtain rfl := Option.some.inj h
   exact zf [vi (0 : Int), vb false] (.tpc (.one (.rfl _ rfl)) (.tpc (.one (.rfl _ rfl)) (.tp0)))
  ·have h := ift_f b7 h
   refine zs (hK2 _ _ (zq fun K9 hK9 => zq fun K10 hK10 => zr (zo [] 2 [1,23] [(value_wide_number_a1 p1)] [([(value_wide_number_a1 p1)] : List (List PV))[0]? = some (value_wide_number_a1 p1)] (⟨rfl, trivial⟩) (zd (hK10 _ _ ?_)))))
   refine zc p1.neg (fun b11 => ?_) (fun b11 => ?_)
   ·have h := ift_t b11 h
    refine zq fun K12 hK12 => zr ?_
    refine zp [] 7 [2,3] [(value_wide_number_a1 p1)] [(2, vi (IntKind.i64.wrap (0 - (IntKind.i64.wrap p1.size.1)))), (3, vb true)] [] [0 ≤ (0 : Int) ∧ (0 : Int) < 4, ([(value_wide_number_a1 p1)] : List (List PV))[0]? = some (value_wide_number_a1 p1)] (⟨by decide, rfl, trivial⟩) ?_
    refine zd (hK12 _ _ (ze ?_))
    obtain rfl := Option.some.inj h
    exact zf [vi (IntKind.i64.wrap (0 - (IntKind.i64.wrap p1.size.1))), vb true] (.tpc (.one (.rfl _ rfl)) (.tpc (.one (.rfl _ rfl)) (.tp0)))
   ·have h := ift_f b11 h
    refine zs (hK9 _ _ (zq fun K13 hK13 => zr (zo [] 6 [2,3] [(value_wide_number_a1 p1)] [0 ≤ (0 : Int) ∧ (0 : Int) < 4, ([(value_wide_number_a1 p1)] : List (List PV))[0]? = some (value_wide_number_a1 p1)] (⟨by decide, rfl, trivial⟩) (zd (hK13 _ _ (ze ?_))))))
    obtain rfl := Option.some.inj h
    exact zf [vi (IntKind.i64.wrap p1.size.1), vb true] (.tpc (.one (.rfl _ rfl)) (.tpc (.one (.rfl _ rfl)) (.tp0)))
 obtain ⟨y1, hy4, h⟩ := bnd_some h
 obtain ⟨y2, hy5, h⟩ := bnd_some h
 rcases Bool.eq_false_or_eq_true (y2 != (0 : Int)) with b6 | b6
 ·have h := ift_t b6 h
  refine zr ?_
  refine zp [] 7 [1,10] [[.s (.bool p1.neg), .s (.int .u64 p1.size.1), .s (.int .u64 p1.size.2.1), .s (.int .u64 p1.size.2.2.1), .s (.int .u64 p1.size.2.2.2)], [.s (.bool p1.neg), .s (.int .u64 p1.size.1), .s (.int .u64 p1.size.2.1), .s (.int .u64 p1.size.2.2.1), .s (.int .u64 p1.size.2.2.2)]] [(1, .one (.pv (.rp [[.s (.bool p1.neg), .s (.int .u64 p1.size.1), .s (.int .u64 p1.size.2.1), .s (.int .u64 p1.size.2.2.1), .s (.int .u64 p1.size.2.2.2)]] 0 0))), (10, vk .u64 (IntKind.u64.wrap (BitVec.ofInt (IntKind.u64).bits p1.size.2.1 ||| BitVec.ofInt (IntKind.u64).bits p1.size.2.2.1).toNat))] [] [0 ≤ (1 : Int) ∧ (1 : Int) < 4, ([[.s (.bool p1.neg), .s (.int .u64 p1.size.1), .s (.int .u64 p1.size.2.1), .s (.int .u64 p1.size.2.2.1), .s (.int .u64 p1.size.2.2.2)]] : List (List PV))[0]? = some [.s (.bool p1.neg), .s (.int .u64 p1.size.1), .s (.int .u64 p1.size.2.1), .s (.int .u64 p1.size.2.2.1), .s (.int .u64 p1.size.2.2.2)], 0 ≤ (2 : Int) ∧ (2 : Int) < 4, ([[.s (.bool p1.neg), .s (.int .u64 p1.size.1), .s (.int .u64 p1.size.2.1), .s (.int .u64 p1.size.2.2.1), .s (.int .u64 p1.size.2.2.2)]] : List (List PV))[0]? = some [.s (.bool p1.neg), .s (.int .u64 p1.size.1), .s (.int .u64 p1.size.2.1), .s (.int .u64 p1.size.2.2.1), .s (.int .u64 p1.size.2.2.2)]] (⟨by decide, rfl, by decide, rfl, trivial⟩) ?_
  rw [show (IntKind.u64.wrap (BitVec.ofInt (IntKind.u64).bits p1.size.2.1 ||| BitVec.ofInt (IntKind.u64).bits p1.size.2.2.1).toNat) = y1 from Option.some.inj hy4]
  refine zp [] 4 [1,14] [[.s (.bool p1.neg), .s (.int .u64 p1.size.1), .s (.int .u64 p1.size.2.1), .s (.int .u64 p1.size.2.2.1), .s (.int .u64 p1.size.2.2.2)]] [(1, .one (.pv (.rp [[.s (.bool p1.neg), .s (.int .u64 p1.size.1), .s (.int .u64 p1.size.2.1), .s (.int .u64 p1.size.2.2.1), .s (.int .u64 p1.size.2.2.2)]] 0 0))), (14, vk .u64 (IntKind.u64.wrap (BitVec.ofInt (IntKind.u64).bits y1 ||| BitVec.ofInt (IntKind.u64).bits p1.size.2.2.2).toNat))] [] [0 ≤ (3 : Int) ∧ (3 : Int) < 4, ([[.s (.bool p1.neg), .s (.int .u64 p1.size.1), .s (.int .u64 p1.size.2.1), .s (.int .u64 p1.size.2.2.1), .s (.int .u64 p1.size.2.2.2)]] : List (List PV))[0]? = some [.s (.bool p1.neg), .s (.int .u64 p1.size.1), .s (.int .u64 p1.size.2.1), .s (.int .u64 p1.size.2.2.1), .s (.int .u64 p1.size.2.2.2)]] (⟨by decide, rfl, trivial⟩) ?_
  rw [show (IntKind.u64.wrap (BitVec.ofInt (IntKind.u64).bits y1 ||| BitVec.ofInt (IntKind.u64).bits p1.size.2.2.2).toNat) = y2 from Option.some.inj hy5]
  exact zg [] 2 [1,16] (zt 16 b6 (zg [] 5 [1,21] (zd (hJ1 true h _ _ (zk [1,21])))))
 ·have h := ift_f b6 h
  refine zr ?_
  refine zp [] 7 [1,10] [[.s (.bool p1.neg), .s (.int .u64 p1.size.1), .s (.int .u64 p1.size.2.1), .s (.int .u64 p1.size.2.2.1), .s (.int .u64 p1.size.2.2.2)], [.s (.bool p1.neg), .s (.int .u64 p1.size.1), .s (.int .u64 p1.size.2.1), .s (.int .u64 p1.size.2.2.1), .s (.int .u64 p1.size.2.2.2)]] [(1, .one (.pv (.rp [[.s (.bool p1.neg), .s (.int .u64 p1.size.1), .s (.int .u64 p1.size.2.1), .s (.int .u64 p1.size.2.2.1), .s (.int .u64 p1.size.2.2.2)]] 0 0))), (10, vk .u64 (IntKind.u64.wrap (BitVec.ofInt (IntKind.u64).bits p1.size.2.1 ||| BitVec.ofInt (IntKind.u64).bits p1.size.2.2.1).toNat))] [] [0 ≤ (1 : Int) ∧ (1 : Int) < 4, ([[.s (.bool p1.neg), .s (.int .u64 p1.size.1), .s (.int .u64 p1.size.2.1), .s (.int .u64 p1.size.2.2.1), .s (.int .u64 p1.size.2.2.2)]] : List (List PV))[0]? = some [.s (.bool p1.neg), .s (.int .u64 p1.size.1), .s (.int .u64 p1.size.2.1), .s (.int .u64 p1.size.2.2.1), .s (.int .u64 p1.size.2.2.2)], 0 ≤ (2 : Int) ∧ (2 : Int) < 4, ([[.s (.bool p1.neg), .s (.int .u64 p1.size.1), .s (.int .u64 p1.size.2.1), .s (.int .u64 p1.size.2.2.1), .s (.int .u64 p1.size.2.2.2)]] : List (List PV))[0]? = some [.s (.bool p1.neg), .s (.int .u64 p1.size.1), .s (.int .u64 p1.size.2.1), .s (.int .u64 p1.size.2.2.1), .s (.int .u64 p1.size.2.2.2)]] (⟨by decide, rfl, by decide, rfl, trivial⟩) ?_
  rw [show (IntKind.u64.wrap (BitVec.ofInt (IntKind.u64).bits p1.size.2.1 ||| BitVec.ofInt (IntKind.u64).bits p1.size.2.2.1).toNat) = y1 from Option.some.inj hy4]
  refine zp [] 4 [1,14] [[.s (.bool p1.neg), .s (.int .u64 p1.size.1), .s (.int .u64 p1.size.2.1), .s (.int .u64 p1.size.2.2.1), .s (.int .u64 p1.size.2.2.2)]] [(1, .one (.pv (.rp [[.s (.bool p1.neg), .s (.int .u64 p1.size.1), .s (.int .u64 p1.size.2.1), .s (.int .u64 p1.size.2.2.1), .s (.int .u64 p1.size.2.2.2)]] 0 0))), (14, vk .u64 (IntKind.u64.wrap (BitVec.ofInt (IntKind.u64).bits y1 ||| BitVec.ofInt (IntKind.u64).bits p1.size.2.2.2).toNat))] [] [0 ≤ (3 : Int) ∧ (3 : Int) < 4, ([[.s (.bool p1.neg), .s (.int .u64 p1.size.1), .s (.int .u64 p1.size.2.1), .s (.int .u64 p1.size.2.2.1), .s (.int .u64 p1.size.2.2.2)]] : List (List PV))[0]? = some [.s (.bool p1.neg), .s (.int .u64 p1.size.1), .s (.int .u64 p1.size.2.1), .s (.int .u64 p1.size.2.2.1), .s (.int .u64 p1.size.2.2.2)]] (⟨by decide, rfl, trivial⟩) ?_
  rw [show (IntKind.u64.wrap (BitVec.ofInt (IntKind.u64).bits y1 ||| BitVec.ofInt (IntKind.u64).bits p1.size.2.2.2).toNat) = y2 from Option.some.inj hy5]
  refine zg [] 2 [1,16] (zt 16 b6 (zo [] 5 [1,21] [(value_wide_number_a1 p1)] [0 ≤ (0 : Int) ∧ (0 : Int) < 4, ([(value_wide_number_a1 p1)] : List (List PV))[0]? = some (value_wide_number_a1 p1)] (⟨by decide, rfl, trivial⟩) (zd ?_)))
  exact hJ1 (decide ((9223372036854775808 : Int) ≤ p1.size.1)) h _ _ (zk [1,21])

def value_made_j1 (p1 : Int) (p3 : Int) (r1 : (Int × Bool)) (x1 : Bool) : Option GValue :=
    ift x1
      (some (GValue.mk (0 : Int) (0 : Int) (0 : Int) ByteArray.empty []))
      (some (GValue.mk p1 r1.1 p3 ByteArray.empty []))

def value_made (p1 : Int) (p2 : GWide) (p3 : Int) : Option GValue :=
    bnd (value_wide_number (GWide.mk p2.neg (p2.size.1, p2.size.2.1, p2.size.2.2.1, p2.size.2.2.2))) fun r1 =>
    ift (!r1.2)
      (value_made_j1 p1 p3 r1 true)
      (bnd (value_Sound (GValue.mk p1 r1.1 p3 ByteArray.empty [])) fun r2 =>
       value_made_j1 p1 p3 r1 (!r2))

abbrev value_made_a1 (p2 : GWide) : List CV := [cb p2.neg, ck .u64 p2.size.1, ck .u64 p2.size.2.1, ck .u64 p2.size.2.2.1, ck .u64 p2.size.2.2.2]
abbrev value_made_a2 (p2 : GWide) : List PV := [.s (.bool p2.neg), .s (.int .u64 p2.size.1), .s (.int .u64 p2.size.2.1), .s (.int .u64 p2.size.2.2.1), .s (.int .u64 p2.size.2.2.2)]
abbrev value_made_a3 : List CV := [ci (0 : Int), ci (0 : Int), ci (0 : Int), cst ByteArray.empty, .pv (.s (.slice none 0 0))]
abbrev value_made_a4 (p1 : Int) (p3 : Int) (r1 : (Int × Bool)) : List CV := [ci p1, ci r1.1, ci p3, cst ByteArray.empty, .pv (.s (.slice none 0 0))]

theorem c_value_made (p1 : Int) (p2 : GWide) (p3 : Int) (r : GValue) (h : value_made p1 p2 p3 = some r) : PC Tryd.prog 47 [vi p1, .ag (value_made_a1 p2), vi p3] (.ag [ci r.kind, ci r.n, ci r.scale, cst r.s, cl eValue r.items]) := by
 unfold value_made at h
 refine PC.of (n := 28) (fn := Tryd.f47) (c := cd Tryd.f47 []) (by kernel_rfl) (by kernel_rfl) (by kernel_rfl) (Nat.le_of_ble_eq_true rfl) (zq fun K1 hK1 => zr (zg [6, 9] 2 [0,2,4,6] (zd (hK1 _ _ (zq fun K2 hK2 => ?_)))))
 obtain ⟨r1, c3, h⟩ := bnd_some h
 refine zr (zo [6, 9] 1 [0,2,6,11] [(value_made_a2 p2)] [([(value_made_a2 p2)] : List (List PV))[0]? = some (value_made_a2 p2)] (⟨rfl, trivial⟩) ?_)
 refine XO.cal 93 [.ag (value_made_a1 p2)] (.tp [vi r1.1, vb r1.2]) [(12, .tp [vi r1.1, vb r1.2]), (0, vi p1), (2, vi p3), (6, .one (.pt 0 0 0 0)), (11, .ag (value_made_a1 p2))] (by kernel_rfl) (c_value_wide_number _ _ c3) rfl rfl (by kernel_rfl) (zg [6, 9] 5 [0,2,6,7,8] (zd (hK2 _ _ (zq fun K4 hK4 => zr (zg [6, 9] 6 [6,8,9] (zd ?_))))))
 refine hK4 _ _ (zq fun K5 hK5 => zq fun K6 hK6 => ?_)
 have hJ1 : ∀ (x1 : Bool), value_made_j1 p1 p3 r1 x1 = some r → ∀ fr1 st1, Sub 28 0 [] fr1 st1 [(6, .one (.pt 0 0 0 0)), (9, .one (.pt 1 0 0 0)), (25, vb x1)] [.box value_made_a3, .box (value_made_a4 p1 p3 r1)] → K6 fr1 st1 := by
  intro x1 h fr1 st1 hS
  unfold value_made_j1 at h
  refine hK6 _ _ (XW.sub hS ?_)
  refine zc x1 (fun b9 => ?_) (fun b9 => ?_)
  ·have h := ift_t b9 h
   refine zq fun K10 hK10 => zr (zg [6, 9] 2 [6] (zd (hK10 _ _ (ze ?_))))
   obtain rfl := Option.some.inj h
   exact zf [.ag value_made_a3] (.ag (.cons (.rfl _ rfl) (.cons (.rfl _ rfl) (.cons (.rfl _ rfl) (.cons (.rfl _ rfl) (.cons (.nl) .nil))))))
  ·have h := ift_f b9 h
   refine zs (hK5 _ _ (zq fun K11 hK11 => zr (zg [6, 9] 2 [6] (zd (hK11 _ _ (ze ?_))))))
   obtain rfl := Option.some.inj h
   exact zf [.ag (value_made_a4 p1 p3 r1)] (.ag (.cons (.rfl _ rfl) (.cons (.rfl _ rfl) (.cons (.rfl _ rfl) (.cons (.rfl _ rfl) (.cons (.nl) .nil))))))
 rcases Bool.eq_false_or_eq_true (!r1.2) with b7 | b7
 ·have h := ift_t b7 h
  exact zr (zp [6, 9] 3 [6,9,21] [] [(6, .one (.pt 0 0 0 0)), (9, .one (.pt 1 0 0 0)), (21, vb (!r1.2))] [.box value_made_a3, .box (value_made_a4 p1 p3 r1)] [] trivial (zt 21 b7 (zg [6, 9] 4 [6,9,25] (zd (hJ1 true h _ _ (zk [6,9,25]))))))
 ·have h := ift_f b7 h
  obtain ⟨r2, c8, h⟩ := bnd_some h
  refine zr (zg [6, 9] 3 [6,9,21] (zt 21 b7 (zp [6, 9] 1 [6,9,21,22] [] [(6, .one (.pt 0 0 0 0)), (9, .one (.pt 1 0 0 0)), (21, vb false), (22, .ag (value_made_a4 p1 p3 r1))] [.box value_made_a3, .box (value_made_a4 p1 p3 r1)] [] trivial ?_)))
  exact XO.cal 9 [.ag (value_made_a4 p1 p3 r1)] (vb r2) [(23, vb r2), (6, .one (.pt 0 0 0 0)), (9, .one (.pt 1 0 0 0)), (21, vb false), (22, .ag (value_made_a4 p1 p3 r1))] (by kernel_rfl) (PC.le (c_value_Sound _ _ c8) ⟨ALe.agc ⟨.rfl _, .rfl _, .rfl _, .rfl _, .nl, trivial⟩, trivial⟩) rfl rfl (by kernel_rfl) (zg [6, 9] 2 [6,9,25] (zd (hJ1 (!r2) h _ _ (zk [6,9,25]))))

def value_Round_j2 (p1 : GValue) (r3 : GWide) (x2 : Int) : Option GValue :=
    bnd (value_scaled (1 : Int) (IntKind.i64.wrap (p1.scale + x2))) fun r6 =>
    bnd (value_wide_rounded (GWide.mk r3.neg (r3.size.1, r3.size.2.1, r3.size.2.2.1, r3.size.2.2.2)) (GWide.mk r6.neg (r6.size.1, r6.size.2.1, r6.size.2.2.1, r6.size.2.2.2))) fun r7 =>
    bnd (value_wide_shifted (GWide.mk r7.neg (r7.size.1, r7.size.2.1, r7.size.2.2.1, r7.size.2.2.2)) x2) fun r8 =>
    bnd (value_made p1.kind (GWide.mk r8.neg (r8.size.1, r8.size.2.1, r8.size.2.2.1, r8.size.2.2.2)) (0 : Int)) fun r9 =>
    some r9

def value_Round_j1 (p1 : GValue) (p2 : Int) (x1 : Bool) : Option GValue :=
    ift x1
      (some (GValue.mk (0 : Int) (0 : Int) (0 : Int) ByteArray.empty []))
      (ift (decide (p1.scale ≤ p2))
         (some p1)
         (bnd (value_whole p1.n) fun r3 =>
          ift (decide ((0 : Int) ≤ p2))
            (bnd (value_rescaled (GWide.mk r3.neg (r3.size.1, r3.size.2.1, r3.size.2.2.1, r3.size.2.2.2)) p1.scale p2) fun r4 =>
             bnd (value_made p1.kind (GWide.mk r4.neg (r4.size.1, r4.size.2.1, r4.size.2.2.1, r4.size.2.2.2)) p2) fun r5 =>
             some r5)
            (ift (decide ((-40 : Int) < p2))
               (value_Round_j2 p1 r3 (IntKind.i64.wrap (0 - p2)))
               (value_Round_j2 p1 r3 (40 : Int)))))

def value_Round (p1 : GValue) (p2 : Int) : Option GValue :=
    ift (p1.kind != (2 : Int))
      (ift (p1.kind != (3 : Int))
         (value_Round_j1 p1 p2 true)
         (bnd (value_Sound p1) fun r1 =>
          value_Round_j1 p1 p2 (!r1)))
      (bnd (value_Sound p1) fun r2 =>
       value_Round_j1 p1 p2 (!r2))

abbrev value_Round_a1 (p1 : GValue) : List CV := [ci p1.kind, ci p1.n, ci p1.scale, cst p1.s, cl eValue p1.items]
abbrev value_Round_a2 (p1 : GValue) : List PV := [pi p1.kind, pi p1.n, pi p1.scale, .s (.string p1.s), .ro (eValue.els p1.items)]
abbrev value_Round_a3 : List CV := [ci (0 : Int), ci (0 : Int), ci (0 : Int), cst ByteArray.empty, .pv (.s (.slice none 0 0))]
abbrev value_Round_a4 (r3 : GWide) : List CV := [cb r3.neg, ck .u64 r3.size.1, ck .u64 r3.size.2.1, ck .u64 r3.size.2.2.1, ck .u64 r3.size.2.2.2]
abbrev value_Round_a5 (r4 : GWide) : List CV := [cb r4.neg, ck .u64 r4.size.1, ck .u64 r4.size.2.1, ck .u64 r4.size.2.2.1, ck .u64 r4.size.2.2.2]
abbrev value_Round_a6 (r7 : GWide) : List CV := [cb r7.neg, ck .u64 r7.size.1, ck .u64 r7.size.2.1, ck .u64 r7.size.2.2.1, ck .u64 r7.size.2.2.2]
abbrev value_Round_a7 (r6 : GWide) : List CV := [cb r6.neg, ck .u64 r6.size.1, ck .u64 r6.size.2.1, ck .u64 r6.size.2.2.1, ck .u64 r6.size.2.2.2]

theorem c_value_Round (p1 : GValue) (p2 : Int) (r : GValue) (h : value_Round p1 p2 = some r) : PC Tryd.prog 20 [.ag (value_Round_a1 p1), vi p2] (.ag [ci r.kind, ci r.n, ci r.scale, cst r.s, cl eValue r.items]) := by
 unfold value_Round at h
 refine PC.of (n := 56) (fn := Tryd.f20) (c := cd Tryd.f20 []) (by kernel_rfl) (by kernel_rfl) (by kernel_rfl) (Nat.le_of_ble_eq_true rfl) (zq fun K1 hK1 => zr (zg [4, 5] 2 [1,2,4] (zd (hK1 _ _ (zq fun K2 hK2 => zq fun K3 hK3 => ?_)))))
 have hJ1 : ∀ (x1 : Bool), value_Round_j1 p1 p2 x1 = some r → ∀ fr1 st1, Sub 56 0 [] fr1 st1 [(1, vi p2), (2, .one (.pv (.rp [(value_Round_a2 p1)] 0 0))), (4, .one (.pt 0 0 0 0)), (19, vb x1)] [.box value_Round_a3] → K3 fr1 st1 := by
  intro x1 h fr1 st1 hS
  unfold value_Round_j1 at h
  refine hK3 _ _ (XW.sub hS ?_)
  refine zc x1 (fun b8 => ?_) (fun b8 => ?_)
  ·have h := ift_t b8 h
   refine zq fun K9 hK9 => zr (zg [4, 5] 2 [4] (zd (hK9 _ _ (ze ?_))))
   obtain rfl := Option.some.inj h
   exact zf [.ag value_Round_a3] (.ag (.cons (.rfl _ rfl) (.cons (.rfl _ rfl) (.cons (.rfl _ rfl) (.cons (.rfl _ rfl) (.cons (.nl) .nil))))))
  ·have h := ift_f b8 h
   refine zs (hK2 _ _ (zq fun K10 hK10 => zq fun K11 hK11 => zr (zo [4, 5] 4 [1,2,4,24] [(value_Round_a2 p1)] [([(value_Round_a2 p1)] : List (List PV))[0]? = some (value_Round_a2 p1)] (⟨rfl, trivial⟩) (zd (hK11 _ _ ?_)))))
   refine zc (decide (p1.scale ≤ p2)) (fun b12 => ?_) (fun b12 => ?_)
   ·have h := ift_t b12 h
    refine zq fun K13 hK13 => zr (zp [4, 5] 2 [4] [(value_Round_a2 p1)] [(4, .one (.pt 0 0 0 0))] [.box (value_Round_a1 p1)] [([(value_Round_a2 p1)] : List (List PV))[0]? = some (value_Round_a2 p1)] (⟨rfl, trivial⟩) (zd (hK13 _ _ (ze ?_))))
    obtain rfl := Option.some.inj h
    exact zf [.ag (value_Round_a1 p1)] (.ag (.cons (.rfl _ rfl) (.cons (.rfl _ rfl) (.cons (.rfl _ rfl) (.cons (.rfl _ rfl) (.cons (.rfl _ rfl) .nil))))))
   ·have h := ift_f b12 h
    refine zs (hK10 _ _ (zq fun K14 hK14 => ?_))
    obtain ⟨r3, c15, h⟩ := bnd_some h
    refine zr (zo [4, 5] 2 [1,2,4,27] [(value_Round_a2 p1)] [([(value_Round_a2 p1)] : List (List PV))[0]? = some (value_Round_a2 p1)] (⟨rfl, trivial⟩) (za (c_value_whole _ _ c15) ?_))
    refine zp [4, 5] 2 [1,2,4,5] [] [(1, vi p2), (2, .one (.pv (.rp [(value_Round_a2 p1)] 0 0))), (4, .one (.pt 0 0 0 0)), (5, .one (.pt 1 0 0 0))] [.box value_Round_a3, .box (value_Round_a4 r3)] [] trivial (zd (hK14 _ _ (zq fun K16 hK16 => zq fun K17 hK17 => zr (zg [4, 5] 2 [1,2,4,5,30] (zd ?_)))))
    refine hK17 _ _ (zc (decide ((0 : Int) ≤ p2)) (fun b18 => ?_) (fun b18 => ?_))
    ·have h := ift_t b18 h
     refine zq fun K19 hK19 => ?_
     obtain ⟨r4, c20, h⟩ := bnd_some h
     obtain ⟨r5, c21, h⟩ := bnd_some h
     refine zw 8 [(38, vi p2), (37, .ag (value_Round_a5 r4)), (36, vi p2), (35, vi p1.scale), (34, .one (.pv (.rp [(value_Round_a2 p1)] 0 2))), (33, .ag (value_Round_a4 r3)), (32, vi p1.kind), (31, .one (.pv (.rp [(value_Round_a2 p1)] 0 0))), (1, vi p2), (2, .one (.pv (.rp [(value_Round_a2 p1)] 0 0))), (4, .one (.pt 0 0 0 0)), (5, .one (.pt 1 0 0 0)), (30, vb (decide ((0 : Int) ≤ p2)))] ?_ ?_
     ·refine zyo 6 [(value_Round_a2 p1), (value_Round_a2 p1)] [([(value_Round_a2 p1)] : List (List PV))[0]? = some (value_Round_a2 p1), ([(value_Round_a2 p1)] : List (List PV))[0]? = some (value_Round_a2 p1)] (⟨rfl, rfl, trivial⟩) ?_
      refine DX.cal 48 [.ag (value_Round_a4 r3), vi p1.scale, vi p2] (.ag (value_Round_a5 r4)) [(37, .ag (value_Round_a5 r4)), (36, vi p2), (35, vi p1.scale), (34, .one (.pv (.rp [(value_Round_a2 p1)] 0 2))), (33, .ag (value_Round_a4 r3)), (32, vi p1.kind), (31, .one (.pv (.rp [(value_Round_a2 p1)] 0 0))), (1, vi p2), (2, .one (.pv (.rp [(value_Round_a2 p1)] 0 0))), (4, .one (.pt 0 0 0 0)), (5, .one (.pt 1 0 0 0)), (30, vb (decide ((0 : Int) ≤ p2)))] (by kernel_rfl) (c_value_rescaled _ _ _ _ c20) rfl rfl (by kernel_rfl) ?_
      exact zyg 1 zyd
     refine za (c_value_made _ _ _ _ c21) (zp [4, 5] 1 [4] [] [(4, .one (.pt 0 0 0 0))] [.box [ci r5.kind, ci r5.n, ci r5.scale, cst r5.s, cl eValue r5.items], .box (value_Round_a4 r3)] [] trivial (zd (hK19 _ _ (ze ?_))))
     obtain rfl := Option.some.inj h
     exact zf [.ag [ci r5.kind, ci r5.n, ci r5.scale, cst r5.s, cl eValue r5.items]] (.ag (.cons (.rfl _ rfl) (.cons (.rfl _ rfl) (.cons (.rfl _ rfl) (.cons (.rfl _ rfl) (.cons (.rfl _ rfl) .nil))))))
    ·have h := ift_f b18 h
     refine zs (hK16 _ _ (zq fun K22 hK22 => zr (zg [4, 5] 1 [1,2,4,5,6] (zd (hK22 _ _ (zq fun K23 hK23 => ?_))))))
     have hJ2 : ∀ (x2 : Int), value_Round_j2 p1 r3 x2 = some r → ∀ fr1 st1, Sub 56 0 [] fr1 st1 [(2, .one (.pv (.rp [(value_Round_a2 p1)] 0 0))), (4, .one (.pt 0 0 0 0)), (5, .one (.pt 1 0 0 0)), (6, vi x2)] [.box value_Round_a3, .box (value_Round_a4 r3)] → K23 fr1 st1 := by
      intro x2 h fr1 st1 hS
      unfold value_Round_j2 at h
      refine hK23 _ _ (XW.sub hS ?_)
      refine zq fun K26 hK26 => ?_
      obtain ⟨r6, c27, h⟩ := bnd_some h
      obtain ⟨r7, c28, h⟩ := bnd_some h
      obtain ⟨r8, c29, h⟩ := bnd_some h
      obtain ⟨r9, c30, h⟩ := bnd_some h
      refine zw 11 [(54, .ag [cb r8.neg, ck .u64 r8.size.1, ck .u64 r8.size.2.1, ck .u64 r8.size.2.2.1, ck .u64 r8.size.2.2.2]), (53, vi x2), (52, .ag (value_Round_a6 r7)), (51, .ag (value_Round_a7 r6)), (50, vi (IntKind.i64.wrap (p1.scale + x2))), (49, vi x2), (48, vi p1.scale), (47, .one (.pv (.rp [(value_Round_a2 p1)] 0 2))), (46, .ag (value_Round_a4 r3)), (45, vi p1.kind), (44, .one (.pv (.rp [(value_Round_a2 p1)] 0 0))), (2, .one (.pv (.rp [(value_Round_a2 p1)] 0 0))), (4, .one (.pt 0 0 0 0)), (5, .one (.pt 1 0 0 0)), (6, vi x2)] ?_ ?_
      ·refine zyo 7 [(value_Round_a2 p1), (value_Round_a2 p1)] [([(value_Round_a2 p1)] : List (List PV))[0]? = some (value_Round_a2 p1), ([(value_Round_a2 p1)] : List (List PV))[0]? = some (value_Round_a2 p1)] (⟨rfl, rfl, trivial⟩) ?_
       refine zya (c_value_scaled _ _ _ c27) ?_
       refine DX.cal 49 [.ag (value_Round_a4 r3), .ag (value_Round_a7 r6)] (.ag (value_Round_a6 r7)) [(52, .ag (value_Round_a6 r7)), (51, .ag (value_Round_a7 r6)), (50, vi (IntKind.i64.wrap (p1.scale + x2))), (49, vi x2), (48, vi p1.scale), (47, .one (.pv (.rp [(value_Round_a2 p1)] 0 2))), (46, .ag (value_Round_a4 r3)), (45, vi p1.kind), (44, .one (.pv (.rp [(value_Round_a2 p1)] 0 0))), (2, .one (.pv (.rp [(value_Round_a2 p1)] 0 0))), (4, .one (.pt 0 0 0 0)), (5, .one (.pt 1 0 0 0)), (6, vi x2)] (by kernel_rfl) (c_value_wide_rounded _ _ _ c28) rfl rfl (by kernel_rfl) ?_
       exact zyg 1 (zya (c_value_wide_shifted _ _ _ c29) zyd)
      refine za (c_value_made _ _ _ _ c30) (zg [4, 5] 1 [4] (zd (hK26 _ _ (ze ?_))))
      obtain rfl := Option.some.inj h
      exact zf [.ag [ci r9.kind, ci r9.n, ci r9.scale, cst r9.s, cl eValue r9.items]] (.ag (.cons (.rfl _ rfl) (.cons (.rfl _ rfl) (.cons (.rfl _ rfl) (.cons (.rfl _ rfl) (.cons (.rfl _ rfl) .nil))))))
     refine zq fun K24 hK24 => zr (zg [4, 5] 2 [1,2,4,5,6,41] (zd (hK24 _ _ (zc (decide ((-40 : Int) < p2)) (fun b25 => ?_) (fun b25 => ?_)))))
     ·have h := ift_t b25 h
      exact zr (zp [4, 5] 3 [2,4,5,6] [] [(2, .one (.pv (.rp [(value_Round_a2 p1)] 0 0))), (4, .one (.pt 0 0 0 0)), (5, .one (.pt 1 0 0 0)), (6, vi (IntKind.i64.wrap (0 - p2)))] [.box value_Round_a3, .box (value_Round_a4 r3)] [] trivial (zd (hJ2 (IntKind.i64.wrap (0 - p2)) h _ _ (zk [2,4,5,6]))))
     ·have h := ift_f b25 h
      exact zs (hJ2 (40 : Int) h _ _ (zk [2,4,5,6]))
 rcases Bool.eq_false_or_eq_true (p1.kind != (2 : Int)) with b4 | b4
 ·have h := ift_t b4 h
  rcases Bool.eq_false_or_eq_true (p1.kind != (3 : Int)) with b5 | b5
  ·have h := ift_t b5 h
   refine zr (zo [4, 5] 4 [1,2,4,10] [(value_Round_a2 p1)] [([(value_Round_a2 p1)] : List (List PV))[0]? = some (value_Round_a2 p1)] (⟨rfl, trivial⟩) (zt 10 b4 ?_))
   refine zp [4, 5] 5 [1,2,4,15] [(value_Round_a2 p1)] [(1, vi p2), (2, .one (.pv (.rp [(value_Round_a2 p1)] 0 0))), (4, .one (.pt 0 0 0 0)), (15, vb (p1.kind != (3 : Int)))] [.box value_Round_a3] [([(value_Round_a2 p1)] : List (List PV))[0]? = some (value_Round_a2 p1)] (⟨rfl, trivial⟩) ?_
   exact zt 15 b5 (zg [4, 5] 4 [1,2,4,19] (zd (hJ1 true h _ _ (zk [1,2,4,19]))))
  ·have h := ift_f b5 h
   obtain ⟨r1, c6, h⟩ := bnd_some h
   refine zr (zo [4, 5] 4 [1,2,4,10] [(value_Round_a2 p1)] [([(value_Round_a2 p1)] : List (List PV))[0]? = some (value_Round_a2 p1)] (⟨rfl, trivial⟩) (zt 10 b4 ?_))
   refine zp [4, 5] 5 [1,2,4,15] [(value_Round_a2 p1)] [(1, vi p2), (2, .one (.pv (.rp [(value_Round_a2 p1)] 0 0))), (4, .one (.pt 0 0 0 0)), (15, vb (p1.kind != (3 : Int)))] [.box value_Round_a3] [([(value_Round_a2 p1)] : List (List PV))[0]? = some (value_Round_a2 p1)] (⟨rfl, trivial⟩) ?_
   refine zt 15 b5 (zo [4, 5] 1 [1,2,4,15,16] [(value_Round_a2 p1)] [([(value_Round_a2 p1)] : List (List PV))[0]? = some (value_Round_a2 p1)] (⟨rfl, trivial⟩) (za (c_value_Sound _ _ c6) ?_))
   exact zp [4, 5] 2 [1,2,4,19] [] [(1, vi p2), (2, .one (.pv (.rp [(value_Round_a2 p1)] 0 0))), (4, .one (.pt 0 0 0 0)), (19, vb (!r1))] [.box value_Round_a3] [] trivial (zd (hJ1 (!r1) h _ _ (zk [1,2,4,19])))
 ·have h := ift_f b4 h
  obtain ⟨r2, c7, h⟩ := bnd_some h
  refine zr (zo [4, 5] 4 [1,2,4,10] [(value_Round_a2 p1)] [([(value_Round_a2 p1)] : List (List PV))[0]? = some (value_Round_a2 p1)] (⟨rfl, trivial⟩) (zt 10 b4 ?_))
  refine zp [4, 5] 6 [1,2,4,15,16] [(value_Round_a2 p1)] [(1, vi p2), (2, .one (.pv (.rp [(value_Round_a2 p1)] 0 0))), (4, .one (.pt 0 0 0 0)), (15, vb false), (16, .ag (value_Round_a1 p1))] [.box value_Round_a3] [([(value_Round_a2 p1)] : List (List PV))[0]? = some (value_Round_a2 p1)] (⟨rfl, trivial⟩) ?_
  exact za (c_value_Sound _ _ c7) (zg [4, 5] 2 [1,2,4,19] (zd (hJ1 (!r2) h _ _ (zk [1,2,4,19]))))

def law1_exactly_j2 : Option Bool :=
    some true

def law1_exactly_l1 (q_law1_exactly : GValue → GValue → Option Bool) (p1 : GValue) (p2 : GValue) : Nat → Int → Option Bool
  | 0, _ => none
  | k1 + 1, x2 =>
    ift (decide (x2 < (p1.items.length : Int)))
      (bnd (at? p1.items x2) fun e1 =>
       bnd (at? p2.items x2) fun e2 =>
       bnd (q_law1_exactly e1 e2) fun r1 =>
       ift (!r1)
         (some false)
         ((law1_exactly_l1 q_law1_exactly p1 p2 k1) (IntKind.i64.wrap (x2 + (1 : Int)))))
      (law1_exactly_j2)

def law1_exactly_j1 (q_law1_exactly : GValue → GValue → Option Bool) (p1 : GValue) (p2 : GValue) (x1 : Bool) : Option Bool :=
    ift x1
      (some false)
      (law1_exactly_l1 q_law1_exactly p1 p2 BIG (0 : Int))

def law1_exactly : Nat → GValue → GValue → Option Bool
  | 0, _, _ => none
  | k0 + 1, p1, p2 =>
    ift (p1.kind != p2.kind)
      (law1_exactly_j1 (law1_exactly k0) p1 p2 true)
      (ift (p1.n != p2.n)
         (law1_exactly_j1 (law1_exactly k0) p1 p2 true)
         (ift (p1.scale != p2.scale)
            (law1_exactly_j1 (law1_exactly k0) p1 p2 true)
            (ift (!(p1.s.toList == p2.s.toList))
               (law1_exactly_j1 (law1_exactly k0) p1 p2 true)
               (law1_exactly_j1 (law1_exactly k0) p1 p2 ((p1.items.length : Int) != (p2.items.length : Int))))))

abbrev law1_exactly_a1 (p1 : GValue) : List PV := [pi p1.kind, pi p1.n, pi p1.scale, .s (.string p1.s), .ro (eValue.els p1.items)]
abbrev law1_exactly_a2 (p2 : GValue) : List PV := [pi p2.kind, pi p2.n, pi p2.scale, .s (.string p2.s), .ro (eValue.els p2.items)]
abbrev law1_exactly_a3 (e2 : GValue) : List CV := [ci e2.kind, ci e2.n, ci e2.scale, cst e2.s, cl eValue e2.items]
abbrev law1_exactly_a4 (e1 : GValue) : List CV := [ci e1.kind, ci e1.n, ci e1.scale, cst e1.s, cl eValue e1.items]

theorem c_law1_exactly : ∀ (k0 : Nat) (p1 : GValue) (p2 : GValue) (r : Bool), law1_exactly k0 p1 p2 = some r → PC Tryd.prog 19 [.ag [ci p1.kind, ci p1.n, ci p1.scale, cst p1.s, cl eValue p1.items], .ag [ci p2.kind, ci p2.n, ci p2.scale, cst p2.s, cl eValue p2.items]] (vb r)
 | 0, _, _, r, h => by rw [law1_exactly.eq_1] at h; cases h
 | k0 + 1, p1, p2, r, h => by
  rw [law1_exactly.eq_2] at h
  refine PC.of (n := 60) (fn := Tryd.f19) (c := cd Tryd.f19 []) (by kernel_rfl) (by kernel_rfl) (by kernel_rfl) (Nat.le_of_ble_eq_true rfl) (zq fun K1 hK1 => zr (zg [] 3 [2,3] (zd (hK1 _ _ (zq fun K2 hK2 => zq fun K3 hK3 => ?_)))))
  have hJ1 : ∀ (x1 : Bool), law1_exactly_j1 (law1_exactly k0) p1 p2 x1 = some r → ∀ fr1 st1, Sub 60 0 [] fr1 st1 [(2, .one (.pv (.rp [(law1_exactly_a1 p1)] 0 0))), (3, .one (.pv (.rp [(law1_exactly_a2 p2)] 0 0))), (40, vb x1)] [] → K3 fr1 st1 := by
   intro x1 h fr1 st1 hS
   unfold law1_exactly_j1 at h
   refine hK3 _ _ (XW.sub hS ?_)
   refine zc x1 (fun b8 => ?_) (fun b8 => ?_)
   ·have h := ift_t b8 h
    refine zq fun K9 hK9 => zr (zg [] 1 [4] (zd (hK9 _ _ (ze ?_))))
    obtain rfl := Option.some.inj h
    exact zf [vb false] (.one (.rfl _ rfl))
   ·have h := ift_f b8 h
    refine zs (hK2 _ _ (zq fun K10 hK10 => ?_))
    have hJ2 : ∀ (_ : Unit), law1_exactly_j2 = some r → ∀ fr1 st1, Sub 60 0 [] fr1 st1 [] [] → K10 fr1 st1 := by
     intro _ h fr1 st1 hS
     unfold law1_exactly_j2 at h
     refine hK10 _ _ (XW.sub hS ?_)
     refine zq fun K23 hK23 => zr (zg [] 1 [4] (zd (hK23 _ _ (ze ?_))))
     obtain rfl := Option.some.inj h
     exact zf [vb true] (.one (.rfl _ rfl))
    refine zq fun K11 hK11 => zr ?_
    refine zp [] 3 [2,3,43] [[pi p1.kind, pi p1.n, pi p1.scale, .s (.string p1.s), .ro (eValue.els p1.items)]] [(2, .one (.pv (.rp [[pi p1.kind, pi p1.n, pi p1.scale, .s (.string p1.s), .ro (eValue.els p1.items)]] 0 0))), (3, .one (.pv (.rp [[pi p2.kind, pi p2.n, pi p2.scale, .s (.string p2.s), .ro (eValue.els p2.items)]] 0 0))), (43, vi ((eValue.els p1.items).length : Int))] [] [([[pi p1.kind, pi p1.n, pi p1.scale, .s (.string p1.s), .ro (eValue.els p1.items)]] : List (List PV))[0]? = some [pi p1.kind, pi p1.n, pi p1.scale, .s (.string p1.s), .ro (eValue.els p1.items)]] (⟨rfl, trivial⟩) ?_
    rw [eValue.len p1.items]
    refine zg [] 1 [2,3,43,44] (zd (hK11 _ _ (zb 0 (XW.rounds' BIG (x := cd Tryd.f19 [1,1,0,1,0,0]) (by kernel_rfl) fun Q1 hQ1 => ?_))))
    have hL1 : ∀ (k1 : Nat) (x2 : Int), law1_exactly_l1 (law1_exactly k0) p1 p2 k1 x2 = some r → XR Tryd.prog 60 0 [] (cd Tryd.f19 [1,1,0,1,0,0]) Q1 k1 [(2, .one (.pv (.rp [(law1_exactly_a1 p1)] 0 0))), (3, .one (.pv (.rp [(law1_exactly_a2 p2)] 0 0))), (43, vi (p1.items.length : Int)), (44, vi x2)] [] := by
     intro k1
     induction k1 with
     | zero => intro x2 h; rw [law1_exactly_l1.eq_1] at h; cases h
     | succ k1 ih1 =>
      intro x2 h
      rw [law1_exactly_l1.eq_2] at h
      refine zq fun K12 hK12 => zr (zg [] 1 [2,3,43,44,45] (zd (hK12 _ _ (zq fun K13 hK13 => zc (decide (x2 < (p1.items.length : Int))) (fun b14 => ?_) (fun b14 => ?_)))))
      ·have h := ift_t b14 h
       refine zs (hK13 _ _ (zq fun K15 hK15 => zb 1 (zq fun K16 hK16 => zr (zg [] 2 [2,3,5,43,44] (zd ?_)))))
       refine hK16 _ _ (zq fun K17 hK17 => ?_)
       obtain ⟨e1, a18, h⟩ := bnd_some h
       obtain ⟨e2, a19, h⟩ := bnd_some h
       obtain ⟨r1, c20, h⟩ := bnd_some h
       refine zw 10 [(56, .ag (law1_exactly_a3 e2)), (55, .one (.pv (.rp (eValue.els p2.items) x2.toNat 0))), (54, vi x2), (53, vl eValue p2.items), (52, .one (.pv (.rp [(law1_exactly_a2 p2)] 0 4))), (51, .ag (law1_exactly_a4 e1)), (50, .one (.pv (.rp (eValue.els p1.items) x2.toNat 0))), (49, vi x2), (48, vl eValue p1.items), (47, .one (.pv (.rp [(law1_exactly_a1 p1)] 0 4))), (2, .one (.pv (.rp [(law1_exactly_a1 p1)] 0 0))), (3, .one (.pv (.rp [(law1_exactly_a2 p2)] 0 0))), (5, vi x2), (43, vi (p1.items.length : Int)), (44, vi x2)] ?_ ?_
       ·refine DX.go 10 [(law1_exactly_a1 p1), [pi e1.kind, pi e1.n, pi e1.scale, .s (.string e1.s), .ro (eValue.els e1.items)], (law1_exactly_a2 p2), [pi e2.kind, pi e2.n, pi e2.scale, .s (.string e2.s), .ro (eValue.els e2.items)]] [(56, .ag (law1_exactly_a3 e2)), (55, .one (.pv (.rp (eValue.els p2.items) x2.toNat 0))), (54, vi x2), (53, vl eValue p2.items), (52, .one (.pv (.rp [(law1_exactly_a2 p2)] 0 4))), (51, .ag (law1_exactly_a4 e1)), (50, .one (.pv (.rp (eValue.els p1.items) x2.toNat 0))), (49, vi x2), (48, vl eValue p1.items), (47, .one (.pv (.rp [(law1_exactly_a1 p1)] 0 4))), (2, .one (.pv (.rp [(law1_exactly_a1 p1)] 0 0))), (3, .one (.pv (.rp [(law1_exactly_a2 p2)] 0 0))), (5, vi x2), (43, vi (p1.items.length : Int)), (44, vi x2)] [([(law1_exactly_a1 p1)] : List (List PV))[0]? = some (law1_exactly_a1 p1), 0 ≤ x2 ∧ x2 < ((eValue.els p1.items).length : Int) ∧ elemsOk 5 (eValue.els p1.items), (eValue.els p1.items)[x2.toNat]? = some [pi e1.kind, pi e1.n, pi e1.scale, .s (.string e1.s), .ro (eValue.els e1.items)], ([(law1_exactly_a2 p2)] : List (List PV))[0]? = some (law1_exactly_a2 p2), 0 ≤ x2 ∧ x2 < ((eValue.els p2.items).length : Int) ∧ elemsOk 5 (eValue.els p2.items), (eValue.els p2.items)[x2.toNat]? = some [pi e2.kind, pi e2.n, pi e2.scale, .s (.string e2.s), .ro (eValue.els e2.items)]] (by kernel_rfl) (⟨rfl, eValue.inb a18, ((eValue.get a18).trans (by cases e1; rfl)), rfl, eValue.inb a19, ((eValue.get a19).trans (by cases e2; rfl)), trivial⟩) ?_
        exact zyd
       refine XO.cal 19 [.ag (law1_exactly_a4 e1), .ag (law1_exactly_a3 e2)] (vb r1) [(57, vb r1), (56, .ag (law1_exactly_a3 e2)), (55, .one (.pv (.rp (eValue.els p2.items) x2.toNat 0))), (54, vi x2), (53, vl eValue p2.items), (52, .one (.pv (.rp [(law1_exactly_a2 p2)] 0 4))), (51, .ag (law1_exactly_a4 e1)), (50, .one (.pv (.rp (eValue.els p1.items) x2.toNat 0))), (49, vi x2), (48, vl eValue p1.items), (47, .one (.pv (.rp [(law1_exactly_a1 p1)] 0 4))), (2, .one (.pv (.rp [(law1_exactly_a1 p1)] 0 0))), (3, .one (.pv (.rp [(law1_exactly_a2 p2)] 0 0))), (5, vi x2), (43, vi (p1.items.length : Int)), (44, vi x2)] (by kernel_rfl) (c_law1_exactly k0 _ _ _ c20) rfl rfl (by kernel_rfl) ?_
       refine zg [] 1 [2,3,43,44,58] (zd (hK17 _ _ (zc (!r1) (fun b21 => ?_) (fun b21 => ?_))))
       ·have h := ift_t b21 h
        refine zq fun K22 hK22 => zr (zg [] 1 [4] (zd (hK22 _ _ (ze (hQ1 _ _ _ ?_)))))
        obtain rfl := Option.some.inj h
        exact zf [vb false] (.one (.rfl _ rfl))
       ·have h := ift_f b21 h
        exact zs (hK15 _ _ (zr (zp [] 2 [2,3,43,44] [] [(2, .one (.pv (.rp [(law1_exactly_a1 p1)] 0 0))), (3, .one (.pv (.rp [(law1_exactly_a2 p2)] 0 0))), (43, vi (p1.items.length : Int)), (44, vi (IntKind.i64.wrap (x2 + (1 : Int))))] [] [] trivial (zd (XR.sub (zk [2,3,43,44]) (ih1 (IntKind.i64.wrap (x2 + (1 : Int))) h))))))
      ·have h := ift_f b14 h
       exact zx 0 (hQ1 _ _ _ (hJ2 () h _ _ (zk [])))
    exact XR.sub (zk [2,3,43,44]) (hL1 BIG (0 : Int) h)
  rcases Bool.eq_false_or_eq_true (p1.kind != p2.kind) with b4 | b4
  ·have h := ift_t b4 h
   refine zr ?_
   refine zo [] 6 [2,3,11] [(law1_exactly_a1 p1), (law1_exactly_a2 p2)] [([(law1_exactly_a1 p1)] : List (List PV))[0]? = some (law1_exactly_a1 p1), ([(law1_exactly_a2 p2)] : List (List PV))[0]? = some (law1_exactly_a2 p2)] (⟨rfl, rfl, trivial⟩) ?_
   exact zt 11 b4 (zp [] 29 [2,3,40] [] [(2, .one (.pv (.rp [(law1_exactly_a1 p1)] 0 0))), (3, .one (.pv (.rp [(law1_exactly_a2 p2)] 0 0))), (40, vb true)] [] [] trivial (zd (hJ1 true h _ _ (zk [2,3,40]))))
  ·have h := ift_f b4 h
   rcases Bool.eq_false_or_eq_true (p1.n != p2.n) with b5 | b5
   ·have h := ift_t b5 h
    refine zr ?_
    refine zo [] 6 [2,3,11] [(law1_exactly_a1 p1), (law1_exactly_a2 p2)] [([(law1_exactly_a1 p1)] : List (List PV))[0]? = some (law1_exactly_a1 p1), ([(law1_exactly_a2 p2)] : List (List PV))[0]? = some (law1_exactly_a2 p2)] (⟨rfl, rfl, trivial⟩) ?_
    refine zt 11 b4 ?_
    refine zo [] 7 [2,3,18] [(law1_exactly_a1 p1), (law1_exactly_a2 p2)] [([(law1_exactly_a1 p1)] : List (List PV))[0]? = some (law1_exactly_a1 p1), ([(law1_exactly_a2 p2)] : List (List PV))[0]? = some (law1_exactly_a2 p2)] (⟨rfl, rfl, trivial⟩) ?_
    exact zt 18 b5 (zp [] 22 [2,3,40] [] [(2, .one (.pv (.rp [(law1_exactly_a1 p1)] 0 0))), (3, .one (.pv (.rp [(law1_exactly_a2 p2)] 0 0))), (40, vb true)] [] [] trivial (zd (hJ1 true h _ _ (zk [2,3,40]))))
   ·have h := ift_f b5 h
    rcases Bool.eq_false_or_eq_true (p1.scale != p2.scale) with b6 | b6
    ·have h := ift_t b6 h
     refine zr ?_
     refine zo [] 6 [2,3,11] [(law1_exactly_a1 p1), (law1_exactly_a2 p2)] [([(law1_exactly_a1 p1)] : List (List PV))[0]? = some (law1_exactly_a1 p1), ([(law1_exactly_a2 p2)] : List (List PV))[0]? = some (law1_exactly_a2 p2)] (⟨rfl, rfl, trivial⟩) ?_
     refine zt 11 b4 ?_
     refine zo [] 7 [2,3,18] [(law1_exactly_a1 p1), (law1_exactly_a2 p2)] [([(law1_exactly_a1 p1)] : List (List PV))[0]? = some (law1_exactly_a1 p1), ([(law1_exactly_a2 p2)] : List (List PV))[0]? = some (law1_exactly_a2 p2)] (⟨rfl, rfl, trivial⟩) ?_
     refine zt 18 b5 ?_
     refine zp [] 7 [2,3,25] [(law1_exactly_a1 p1), (law1_exactly_a2 p2)] [(2, .one (.pv (.rp [(law1_exactly_a1 p1)] 0 0))), (3, .one (.pv (.rp [(law1_exactly_a2 p2)] 0 0))), (25, vb (p1.scale != p2.scale))] [] [([(law1_exactly_a1 p1)] : List (List PV))[0]? = some (law1_exactly_a1 p1), ([(law1_exactly_a2 p2)] : List (List PV))[0]? = some (law1_exactly_a2 p2)] (⟨rfl, rfl, trivial⟩) ?_
     exact zt 25 b6 (zg [] 15 [2,3,40] (zd (hJ1 true h _ _ (zk [2,3,40]))))
    ·have h := ift_f b6 h
     rcases Bool.eq_false_or_eq_true (!(p1.s.toList == p2.s.toList)) with b7 | b7
     ·have h := ift_t b7 h
      refine zr ?_
      refine zo [] 6 [2,3,11] [(law1_exactly_a1 p1), (law1_exactly_a2 p2)] [([(law1_exactly_a1 p1)] : List (List PV))[0]? = some (law1_exactly_a1 p1), ([(law1_exactly_a2 p2)] : List (List PV))[0]? = some (law1_exactly_a2 p2)] (⟨rfl, rfl, trivial⟩) ?_
      refine zt 11 b4 ?_
      refine zp [] 7 [2,3,18] [(law1_exactly_a1 p1), (law1_exactly_a2 p2)] [(2, .one (.pv (.rp [(law1_exactly_a1 p1)] 0 0))), (3, .one (.pv (.rp [(law1_exactly_a2 p2)] 0 0))), (18, vb (p1.n != p2.n))] [] [([(law1_exactly_a1 p1)] : List (List PV))[0]? = some (law1_exactly_a1 p1), ([(law1_exactly_a2 p2)] : List (List PV))[0]? = some (law1_exactly_a2 p2)] (⟨rfl, rfl, trivial⟩) ?_
      refine zt 18 b5 ?_
      refine zo [] 7 [2,3,25] [(law1_exactly_a1 p1), (law1_exactly_a2 p2)] [([(law1_exactly_a1 p1)] : List (List PV))[0]? = some (law1_exactly_a1 p1), ([(law1_exactly_a2 p2)] : List (List PV))[0]? = some (law1_exactly_a2 p2)] (⟨rfl, rfl, trivial⟩) ?_
      refine zt 25 b6 ?_
      refine zo [] 7 [2,3,32] [(law1_exactly_a1 p1), (law1_exactly_a2 p2)] [([(law1_exactly_a1 p1)] : List (List PV))[0]? = some (law1_exactly_a1 p1), ([(law1_exactly_a2 p2)] : List (List PV))[0]? = some (law1_exactly_a2 p2)] (⟨rfl, rfl, trivial⟩) ?_
      exact zt 32 b7 (zp [] 8 [2,3,40] [] [(2, .one (.pv (.rp [(law1_exactly_a1 p1)] 0 0))), (3, .one (.pv (.rp [(law1_exactly_a2 p2)] 0 0))), (40, vb true)] [] [] trivial (zd (hJ1 true h _ _ (zk [2,3,40]))))
     ·have h := ift_f b7 h
      refine zr ?_
      refine zo [] 6 [2,3,11] [(law1_exactly_a1 p1), (law1_exactly_a2 p2)] [([(law1_exactly_a1 p1)] : List (List PV))[0]? = some (law1_exactly_a1 p1), ([(law1_exactly_a2 p2)] : List (List PV))[0]? = some (law1_exactly_a2 p2)] (⟨rfl, rfl, trivial⟩) ?_
      refine zt 11 b4 ?_
      refine zo [] 7 [2,3,18] [(law1_exactly_a1 p1), (law1_exactly_a2 p2)] [([(law1_exactly_a1 p1)] : List (List PV))[0]? = some (law1_exactly_a1 p1), ([(law1_exactly_a2 p2)] : List (List PV))[0]? = some (law1_exactly_a2 p2)] (⟨rfl, rfl, trivial⟩) ?_
      refine zt 18 b5 ?_
      refine zp [] 7 [2,3,25] [(law1_exactly_a1 p1), (law1_exactly_a2 p2)] [(2, .one (.pv (.rp [(law1_exactly_a1 p1)] 0 0))), (3, .one (.pv (.rp [(law1_exactly_a2 p2)] 0 0))), (25, vb (p1.scale != p2.scale))] [] [([(law1_exactly_a1 p1)] : List (List PV))[0]? = some (law1_exactly_a1 p1), ([(law1_exactly_a2 p2)] : List (List PV))[0]? = some (law1_exactly_a2 p2)] (⟨rfl, rfl, trivial⟩) ?_
      refine zt 25 b6 ?_
      refine zo [] 7 [2,3,32] [(law1_exactly_a1 p1), (law1_exactly_a2 p2)] [([(law1_exactly_a1 p1)] : List (List PV))[0]? = some (law1_exactly_a1 p1), ([(law1_exactly_a2 p2)] : List (List PV))[0]? = some (law1_exactly_a2 p2)] (⟨rfl, rfl, trivial⟩) ?_
      refine zt 32 b7 ?_
      refine zp [] 3 [2,3,32,35] [[pi p1.kind, pi p1.n, pi p1.scale, .s (.string p1.s), .ro (eValue.els p1.items)]] [(2, .one (.pv (.rp [[pi p1.kind, pi p1.n, pi p1.scale, .s (.string p1.s), .ro (eValue.els p1.items)]] 0 0))), (3, .one (.pv (.rp [[pi p2.kind, pi p2.n, pi p2.scale, .s (.string p2.s), .ro (eValue.els p2.items)]] 0 0))), (32, vb false), (35, vi ((eValue.els p1.items).length : Int))] [] [([[pi p1.kind, pi p1.n, pi p1.scale, .s (.string p1.s), .ro (eValue.els p1.items)]] : List (List PV))[0]? = some [pi p1.kind, pi p1.n, pi p1.scale, .s (.string p1.s), .ro (eValue.els p1.items)]] (⟨rfl, trivial⟩) ?_
      rw [eValue.len p1.items]
      refine zp [] 3 [2,3,32,35,38] [[pi p2.kind, pi p2.n, pi p2.scale, .s (.string p2.s), .ro (eValue.els p2.items)]] [(2, .one (.pv (.rp [[pi p1.kind, pi p1.n, pi p1.scale, .s (.string p1.s), .ro (eValue.els p1.items)]] 0 0))), (3, .one (.pv (.rp [[pi p2.kind, pi p2.n, pi p2.scale, .s (.string p2.s), .ro (eValue.els p2.items)]] 0 0))), (32, vb false), (35, vi (p1.items.length : Int)), (38, vi ((eValue.els p2.items).length : Int))] [] [([[pi p2.kind, pi p2.n, pi p2.scale, .s (.string p2.s), .ro (eValue.els p2.items)]] : List (List PV))[0]? = some [pi p2.kind, pi p2.n, pi p2.scale, .s (.string p2.s), .ro (eValue.els p2.items)]] (⟨rfl, trivial⟩) ?_
      rw [eValue.len p2.items]
      exact zg [] 2 [2,3,40] (zd (hJ1 ((p1.items.length : Int) != (p2.items.length : Int)) h _ _ (zk [2,3,40])))

def ref1_isNumber_j1 (x1 : Bool) : Option Bool :=
    some x1

def ref1_isNumber (p1 : Int) : Option Bool :=
    ift (p1 == (2 : Int))
      (ref1_isNumber_j1 true)
      (ref1_isNumber_j1 (p1 == (3 : Int)))


theorem c_ref1_isNumber (p1 : Int) (r : Bool) (h : ref1_isNumber p1 = some r) : PC Tryd.prog 52 [vi p1] (vb r) := by
 unfold ref1_isNumber at h
 refine PC.of (n := 9) (fn := Tryd.f52) (c := cd Tryd.f52 []) (by kernel_rfl) (by kernel_rfl) (by kernel_rfl) (Nat.le_of_ble_eq_true rfl) (zq fun K1 hK1 => zr (zg [] 1 [0] (zd (hK1 _ _ (zq fun K2 hK2 => ?_)))))
 have hJ1 : ∀ (x1 : Bool), ref1_isNumber_j1 x1 = some r → ∀ fr1 st1, Sub 9 0 [] fr1 st1 [(2, vb x1)] [] → K2 fr1 st1 := by
  intro x1 h fr1 st1 hS
  unfold ref1_isNumber_j1 at h
  refine hK2 _ _ (XW.sub hS ?_)
  refine ze ?_
  obtain rfl := Option.some.inj h
  exact zf [vb x1] (.one (.rfl _ rfl))
 rcases Bool.eq_false_or_eq_true (p1 == (2 : Int)) with b3 | b3
 ·have h := ift_t b3 h
  exact zr (zg [] 3 [0,5] (zt 5 b3 (zp [] 4 [2] [] [(2, vb true)] [] [] trivial (zd (hJ1 true h _ _ (zk [2]))))))
 ·have h := ift_f b3 h
  exact zr (zg [] 3 [0,5] (zt 5 b3 (zg [] 4 [2] (zd (hJ1 (p1 == (3 : Int)) h _ _ (zk [2]))))))

def ref1_within_j1 (x1 : Bool) : Option Bool :=
    some x1

def ref1_within (p1 : Int) (p2 : Int) (p3 : Int) : Option Bool :=
    ift (decide (p2 ≤ p1))
      (ref1_within_j1 (decide (p1 ≤ p3)))
      (ref1_within_j1 false)


theorem c_ref1_within (p1 : Int) (p2 : Int) (p3 : Int) (r : Bool) (h : ref1_within p1 p2 p3 = some r) : PC Tryd.prog 68 [vi p1, vi p2, vi p3] (vb r) := by
 unfold ref1_within at h
 refine PC.of (n := 15) (fn := Tryd.f68) (c := cd Tryd.f68 []) (by kernel_rfl) (by kernel_rfl) (by kernel_rfl) (Nat.le_of_ble_eq_true rfl) (zq fun K1 hK1 => zr (zg [] 1 [0,1,2] (zd (hK1 _ _ (zq fun K2 hK2 => ?_)))))
 have hJ1 : ∀ (x1 : Bool), ref1_within_j1 x1 = some r → ∀ fr1 st1, Sub 15 0 [] fr1 st1 [(6, vb x1)] [] → K2 fr1 st1 := by
  intro x1 h fr1 st1 hS
  unfold ref1_within_j1 at h
  refine hK2 _ _ (XW.sub hS ?_)
  refine ze ?_
  obtain rfl := Option.some.inj h
  exact zf [vb x1] (.one (.rfl _ rfl))
 rcases Bool.eq_false_or_eq_true (decide (p2 ≤ p1)) with b3 | b3
 ·have h := ift_t b3 h
  exact zr (zg [] 4 [0,2,10] (zt 10 b3 (zp [] 5 [6] [] [(6, vb (decide (p1 ≤ p3)))] [] [] trivial (zd (hJ1 (decide (p1 ≤ p3)) h _ _ (zk [6]))))))
 ·have h := ift_f b3 h
  exact zr (zg [] 4 [0,2,10] (zt 10 b3 (zg [] 5 [6] (zd (hJ1 false h _ _ (zk [6]))))))

def ref1_characters_j2 (rec1 : Int → Option Bool) (x2 : Int) (x3 : Bool) : Option Bool :=
    ift x3
      (some false)
      (rec1 (IntKind.i64.wrap (x2 + (1 : Int))))

def ref1_characters_j3 : Option Bool :=
    some true

def ref1_characters_l1 (p1 : ByteArray) : Nat → Int → Option Bool
  | 0, _ => none
  | k1 + 1, x2 =>
    ift (decide (x2 < (p1.size : Int)))
      (grd (0 ≤ x2 ∧ x2 < (p1.size : Int)) <|
       bnd (some (decide (((p1.data.toList.getD x2.toNat 0).toNat : Int) < (32 : Int)))) fun y1 =>
       ift y1
         (ref1_characters_j2 (ref1_characters_l1 p1 k1) x2 true)
         (grd (0 ≤ x2 ∧ x2 < (p1.size : Int)) <|
          ref1_characters_j2 (ref1_characters_l1 p1 k1) x2 (((p1.data.toList.getD x2.toNat 0).toNat : Int) == (127 : Int))))
      (ref1_characters_j3)

def ref1_characters_j1 (p1 : ByteArray) (x1 : Bool) : Option Bool :=
    ift x1
      (some false)
      (ref1_characters_l1 p1 BIG (0 : Int))

def ref1_characters (p1 : ByteArray) : Option Bool :=
    bnd (utf8_ValidString p1) fun r1 =>
    ift (!r1)
      (ref1_characters_j1 p1 true)
      (ref1_characters_j1 p1 (decide ((256 : Int) < (p1.size : Int))))


theorem c_ref1_characters (p1 : ByteArray) (r : Bool) (h : ref1_characters p1 = some r) : PC Tryd.prog 115 [vs p1] (vb r) := by
 unfold ref1_characters at h
 refine PC.of (n := 28) (fn := Tryd.f115) (c := cd Tryd.f115 []) (by kernel_rfl) (by kernel_rfl) (by kernel_rfl) (Nat.le_of_ble_eq_true rfl) (zq fun K1 hK1 => zr (zg [] 1 [0] (zd (hK1 _ _ (zq fun K2 hK2 => zq fun K3 hK3 => ?_)))))
 have hJ1 : ∀ (x1 : Bool), ref1_characters_j1 p1 x1 = some r → ∀ fr1 st1, Sub 28 0 [] fr1 st1 [(0, vs p1), (11, vb x1)] [] → K3 fr1 st1 := by
  intro x1 h fr1 st1 hS
  unfold ref1_characters_j1 at h
  refine hK3 _ _ (XW.sub hS ?_)
  refine zc x1 (fun b6 => ?_) (fun b6 => ?_)
  ·have h := ift_t b6 h
   refine zq fun K7 hK7 => zr (zg [] 1 [2] (zd (hK7 _ _ (ze ?_))))
   obtain rfl := Option.some.inj h
   exact zf [vb false] (.one (.rfl _ rfl))
  ·have h := ift_f b6 h
   refine zs (hK2 _ _ (zq fun K8 hK8 => ?_))
   have hJ3 : ∀ (_ : Unit), ref1_characters_j3 = some r → ∀ fr1 st1, Sub 28 0 [] fr1 st1 [] [] → K8 fr1 st1 := by
    intro _ h fr1 st1 hS
    unfold ref1_characters_j3 at h
    refine hK8 _ _ (XW.sub hS ?_)
    refine zq fun K21 hK21 => zr (zg [] 1 [2] (zd (hK21 _ _ (ze ?_))))
    obtain rfl := Option.some.inj h
    exact zf [vb true] (.one (.rfl _ rfl))
   refine zq fun K9 hK9 => zr (zg [] 1 [0,3] (zd (hK9 _ _ (zb 0 (XW.rounds' BIG (x := cd Tryd.f115 [1,1,0,1,0,0]) (by kernel_rfl) fun Q1 hQ1 => ?_)))))
   have hL1 : ∀ (k1 : Nat) (x2 : Int), ref1_characters_l1 p1 k1 x2 = some r → XR Tryd.prog 28 0 [] (cd Tryd.f115 [1,1,0,1,0,0]) Q1 k1 [(0, vs p1), (3, vi x2)] [] := by
    intro k1
    induction k1 with
    | zero => intro x2 h; rw [ref1_characters_l1.eq_1] at h; cases h
    | succ k1 ih1 =>
     intro x2 h
     rw [ref1_characters_l1.eq_2] at h
     refine zq fun K10 hK10 => zq fun K11 hK11 => zr (zg [] 4 [0,3,15] (zd (hK11 _ _ (zc (decide (x2 < (p1.size : Int))) (fun b12 => ?_) (fun b12 => ?_)))))
     ·have h := ift_t b12 h
      refine zs (hK10 _ _ (zq fun K13 hK13 => zb 1 (zq fun K14 hK14 => ?_)))
      have hJ2 : ∀ (x3 : Bool), ref1_characters_j2 (ref1_characters_l1 p1 k1) x2 x3 = some r → ∀ fr1 st1, Sub 28 0 [] fr1 st1 [(0, vs p1), (3, vi x2), (27, vb x3)] [] → K14 fr1 st1 := by
       intro x3 h fr1 st1 hS
       unfold ref1_characters_j2 at h
       refine hK14 _ _ (XW.sub hS ?_)
       refine zc x3 (fun b19 => ?_) (fun b19 => ?_)
       ·have h := ift_t b19 h
        refine zq fun K20 hK20 => zr (zg [] 1 [2] (zd (hK20 _ _ (ze (hQ1 _ _ _ ?_)))))
        obtain rfl := Option.some.inj h
        exact zf [vb false] (.one (.rfl _ rfl))
       ·have h := ift_f b19 h
        exact zs (hK13 _ _ (zr (zg [] 3 [0,3] (zd (XR.sub (zk [0,3]) (ih1 (IntKind.i64.wrap (x2 + (1 : Int))) h))))))
      obtain ⟨g15, h⟩ := grd_some h
      obtain ⟨y1, hy16, h⟩ := bnd_some h
      rcases Bool.eq_false_or_eq_true y1 with b17 | b17
      ·have h := ift_t b17 h
       refine zr (zp [] 4 [0,3,21] [] [(0, vs p1), (3, vi x2), (21, vb (decide (((p1.data.toList.getD x2.toNat 0).toNat : Int) < (32 : Int))))] [] [0 ≤ x2 ∧ x2 < (p1.size : Int)] (⟨g15, trivial⟩) ?_)
       rw [show (decide (((p1.data.toList.getD x2.toNat 0).toNat : Int) < (32 : Int))) = y1 from Option.some.inj hy16]
       exact zg [] 1 [0,3,22] (zt 22 b17 (zg [] 5 [0,3,27] (zd (hJ2 true h _ _ (zk [0,3,27])))))
      ·have h := ift_f b17 h
       obtain ⟨g18, h⟩ := grd_some h
       refine zr (zp [] 4 [0,3,21] [] [(0, vs p1), (3, vi x2), (21, vb (decide (((p1.data.toList.getD x2.toNat 0).toNat : Int) < (32 : Int))))] [] [0 ≤ x2 ∧ x2 < (p1.size : Int)] (⟨g15, trivial⟩) ?_)
       rw [show (decide (((p1.data.toList.getD x2.toNat 0).toNat : Int) < (32 : Int))) = y1 from Option.some.inj hy16]
       exact zg [] 1 [0,3,22] (zt 22 b17 (zo [] 5 [0,3,27] [] [0 ≤ x2 ∧ x2 < (p1.size : Int)] (⟨g18, trivial⟩) (zd (hJ2 (((p1.data.toList.getD x2.toNat 0).toNat : Int) == (127 : Int)) h _ _ (zk [0,3,27])))))
     ·have h := ift_f b12 h
      exact zx 0 (hQ1 _ _ _ (hJ3 () h _ _ (zk [])))
   exact XR.sub (zk [0,3]) (hL1 BIG (0 : Int) h)
 obtain ⟨r1, c4, h⟩ := bnd_some h
 rcases Bool.eq_false_or_eq_true (!r1) with b5 | b5
 ·have h := ift_t b5 h
  exact zr (zg [] 1 [0,4] (XO.cal 126 [vs p1] (vb r1) [(5, vb r1), (0, vs p1), (4, vs p1)] (by kernel_rfl) (c_utf8_ValidString _ _ c4) rfl rfl (by kernel_rfl) (zg [] 2 [0,7] (zt 7 b5 (zg [] 4 [0,11] (zd (hJ1 true h _ _ (zk [0,11]))))))))
 ·have h := ift_f b5 h
  exact zr (zp [] 1 [0,4] [] [(0, vs p1), (4, vs p1)] [] [] trivial (za (c_utf8_ValidString _ _ c4) (zg [] 2 [0,7] (zt 7 b5 (zp [] 4 [0,11] [] [(0, vs p1), (11, vb (decide ((256 : Int) < (p1.size : Int))))] [] [] trivial (zd (hJ1 (decide ((256 : Int) < (p1.size : Int))) h _ _ (zk [0,11]))))))))

def ref1_alone_j2 (x2 : Bool) : Option Bool :=
    some x2

def ref1_alone_j3 (x3 : Bool) : Option Bool :=
    some x3

def ref1_alone_j4 (x4 : Bool) : Option Bool :=
    some x4

def ref1_alone_j5 (x5 : Bool) : Option Bool :=
    some x5

def ref1_alone_j6 (x6 : Bool) : Option Bool :=
    some x6

def ref1_alone_j7 (x7 : Bool) : Option Bool :=
    some x7

def ref1_alone_j8 (x8 : Bool) : Option Bool :=
    some x8

def ref1_alone_j9 (x9 : Bool) : Option Bool :=
    some x9

def ref1_alone_j1 (p1 : GValue) (x1 : Bool) : Option Bool :=
    ift (p1.kind == (0 : Int))
      (ift x1
         (ift (p1.n == (0 : Int))
            (ref1_alone_j2 (p1.scale == (0 : Int)))
            (ref1_alone_j2 false))
         (ref1_alone_j2 false))
      (ift (p1.kind == (1 : Int))
         (ift x1
            (bnd (ref1_within p1.n (0 : Int) (1 : Int)) fun r1 =>
             ift r1
               (ref1_alone_j3 (p1.scale == (0 : Int)))
               (ref1_alone_j3 false))
            (ref1_alone_j3 false))
         (ift (p1.kind == (2 : Int))
            (ift x1
               (bnd (ref1_within p1.n (-999999999999999999 : Int) (999999999999999999 : Int)) fun r2 =>
                ift r2
                  (ref1_alone_j4 (p1.scale == (0 : Int)))
                  (ref1_alone_j4 false))
               (ref1_alone_j4 false))
            (ift (p1.kind == (3 : Int))
               (ift x1
                  (bnd (ref1_within p1.n (-999999999999999999 : Int) (999999999999999999 : Int)) fun r3 =>
                   ift r3
                     (bnd (ref1_within p1.scale (0 : Int) (12 : Int)) fun r4 =>
                      ref1_alone_j5 r4)
                     (ref1_alone_j5 false))
                  (ref1_alone_j5 false))
               (ift (p1.kind == (4 : Int))
                  (ift ((p1.items.length : Int) == (0 : Int))
                     (ift (p1.n == (0 : Int))
                        (ift (p1.scale == (0 : Int))
                           (bnd (ref1_characters p1.s) fun r5 =>
                            ref1_alone_j6 r5)
                           (ref1_alone_j6 false))
                        (ref1_alone_j6 false))
                     (ref1_alone_j6 false))
                  (ift (p1.kind == (5 : Int))
                     (ift x1
                        (bnd (ref1_within p1.n (-62135596800 : Int) (253402300799 : Int)) fun r6 =>
                         ift r6
                           (ref1_alone_j7 (p1.scale == (0 : Int)))
                           (ref1_alone_j7 false))
                        (ref1_alone_j7 false))
                     (ift (p1.kind == (6 : Int))
                        (ift (p1.s.toList == (ByteArray.mk #[]).toList)
                           (ift (p1.n == (0 : Int))
                              (ift (p1.scale == (0 : Int))
                                 (ref1_alone_j8 (decide ((p1.items.length : Int) ≤ (64 : Int))))
                                 (ref1_alone_j8 false))
                              (ref1_alone_j8 false))
                           (ref1_alone_j8 false))
                        (ift (p1.kind == (7 : Int))
                           (ift (p1.s.toList == (ByteArray.mk #[]).toList)
                              (ift (p1.n == (0 : Int))
                                 (ift (p1.scale == (0 : Int))
                                    (ref1_alone_j9 (decide ((0 : Int) < (p1.items.length : Int))))
                                    (ref1_alone_j9 false))
                                 (ref1_alone_j9 false))
                              (ref1_alone_j9 false))
                           (some false))))))))

def ref1_alone (p1 : GValue) : Option Bool :=
    ift (p1.s.toList == (ByteArray.mk #[]).toList)
      (ref1_alone_j1 p1 ((p1.items.length : Int) == (0 : Int)))
      (ref1_alone_j1 p1 false)

abbrev ref1_alone_a1 (p1 : GValue) : List PV := [pi p1.kind, pi p1.n, pi p1.scale, .s (.string p1.s), .ro (eValue.els p1.items)]

theorem c_ref1_alone (p1 : GValue) (r : Bool) (h : ref1_alone p1 = some r) : PC Tryd.prog 79 [.ag [ci p1.kind, ci p1.n, ci p1.scale, cst p1.s, cl eValue p1.items]] (vb r) := by
 unfold ref1_alone at h
 refine PC.of (n := 143) (fn := Tryd.f79) (c := cd Tryd.f79 []) (by kernel_rfl) (by kernel_rfl) (by kernel_rfl) (Nat.le_of_ble_eq_true rfl) (zq fun K1 hK1 => zr (zg [] 2 [1] (zd (hK1 _ _ (zq fun K2 hK2 => ?_)))))
 have hJ1 : ∀ (x1 : Bool), ref1_alone_j1 p1 x1 = some r → ∀ fr1 st1, Sub 143 0 [] fr1 st1 [(1, .one (.pv (.rp [(ref1_alone_a1 p1)] 0 0))), (3, vb x1)] [] → K2 fr1 st1 := by
  intro x1 h fr1 st1 hS
  unfold ref1_alone_j1 at h
  refine hK2 _ _ (XW.sub hS ?_)
  refine zq fun K4 hK4 => zq fun K5 hK5 => zr (zo [] 2 [1,3,14] [(ref1_alone_a1 p1)] [([(ref1_alone_a1 p1)] : List (List PV))[0]? = some (ref1_alone_a1 p1)] (⟨rfl, trivial⟩) (zd (hK5 _ _ (zb 0 (zq fun K6 hK6 => ?_)))))
  refine zr (zg [] 2 [1,3,14,15] (zd (hK6 _ _ (zc (p1.kind == (0 : Int)) (fun b7 => ?_) (fun b7 => ?_)))))
  ·have h := ift_t b7 h
   refine zq fun K8 hK8 => ?_
   have hJ2 : ∀ (x2 : Bool), ref1_alone_j2 x2 = some r → ∀ fr1 st1, Sub 143 0 [] fr1 st1 [(2, vb x2)] [] → K8 fr1 st1 := by
    intro x2 h fr1 st1 hS
    unfold ref1_alone_j2 at h
    refine hK8 _ _ (XW.sub hS ?_)
    refine ze ?_
    obtain rfl := Option.some.inj h
    exact zf [vb x2] (.one (.rfl _ rfl))
   rcases Bool.eq_false_or_eq_true x1 with b9 | b9
   ·have h := ift_t b9 h
    rcases Bool.eq_false_or_eq_true (p1.n == (0 : Int)) with b10 | b10
    ·have h := ift_t b10 h
     refine zr (zp [] 2 [1,18] [] [(1, .one (.pv (.rp [(ref1_alone_a1 p1)] 0 0))), (18, vb x1)] [] [] trivial (zt 18 b9 (zo [] 5 [1,23] [(ref1_alone_a1 p1)] [([(ref1_alone_a1 p1)] : List (List PV))[0]? = some (ref1_alone_a1 p1)] (⟨rfl, trivial⟩) (zt 23 b10 ?_))))
     exact zo [] 5 [2] [(ref1_alone_a1 p1)] [([(ref1_alone_a1 p1)] : List (List PV))[0]? = some (ref1_alone_a1 p1)] (⟨rfl, trivial⟩) (zd (hJ2 (p1.scale == (0 : Int)) h _ _ (zk [2])))
    ·have h := ift_f b10 h
     exact zr (zp [] 2 [1,18] [] [(1, .one (.pv (.rp [(ref1_alone_a1 p1)] 0 0))), (18, vb x1)] [] [] trivial (zt 18 b9 (zo [] 5 [1,23] [(ref1_alone_a1 p1)] [([(ref1_alone_a1 p1)] : List (List PV))[0]? = some (ref1_alone_a1 p1)] (⟨rfl, trivial⟩) (zt 23 b10 (zg [] 5 [2] (zd (hJ2 false h _ _ (zk [2]))))))))
   ·have h := ift_f b9 h
    exact zr (zp [] 2 [1,18] [] [(1, .one (.pv (.rp [(ref1_alone_a1 p1)] 0 0))), (18, vb x1)] [] [] trivial (zt 18 b9 (zg [] 10 [2] (zd (hJ2 false h _ _ (zk [2]))))))
  ·have h := ift_f b7 h
   refine zq fun K11 hK11 => zr (zp [] 2 [1,3,14,28] [] [(1, .one (.pv (.rp [(ref1_alone_a1 p1)] 0 0))), (3, vb x1), (14, vi p1.kind), (28, vb (p1.kind == (1 : Int)))] [] [] trivial (zd (hK11 _ _ (zc (p1.kind == (1 : Int)) (fun b12 => ?_) (fun b12 => ?_)))))
   ·have h := ift_t b12 h
    refine zq fun K13 hK13 => ?_
    have hJ3 : ∀ (x3 : Bool), ref1_alone_j3 x3 = some r → ∀ fr1 st1, Sub 143 0 [] fr1 st1 [(2, vb x3)] [] → K13 fr1 st1 := by
     intro x3 h fr1 st1 hS
     unfold ref1_alone_j3 at h
     refine hK13 _ _ (XW.sub hS ?_)
     refine ze ?_
     obtain rfl := Option.some.inj h
     exact zf [vb x3] (.one (.rfl _ rfl))
    rcases Bool.eq_false_or_eq_true x1 with b14 | b14
    ·have h := ift_t b14 h
     obtain ⟨r1, c15, h⟩ := bnd_some h
     rcases Bool.eq_false_or_eq_true r1 with b16 | b16
     ·have h := ift_t b16 h
      refine zr (zg [] 2 [1,31] (zt 31 b14 (zo [] 2 [1,31,33] [(ref1_alone_a1 p1)] [([(ref1_alone_a1 p1)] : List (List PV))[0]? = some (ref1_alone_a1 p1)] (⟨rfl, trivial⟩) ?_)))
      refine XO.cal 68 [vi p1.n, vi (0 : Int), vi (1 : Int)] (vb r1) [(34, vb r1), (1, .one (.pv (.rp [(ref1_alone_a1 p1)] 0 0))), (31, vb true), (33, vi p1.n)] (by kernel_rfl) (c_ref1_within _ _ _ _ c15) rfl rfl (by kernel_rfl) (zg [] 2 [1,36] (zt 36 b16 ?_))
      exact zo [] 5 [2] [(ref1_alone_a1 p1)] [([(ref1_alone_a1 p1)] : List (List PV))[0]? = some (ref1_alone_a1 p1)] (⟨rfl, trivial⟩) (zd (hJ3 (p1.scale == (0 : Int)) h _ _ (zk [2])))
     ·have h := ift_f b16 h
      refine zr (zp [] 2 [1,31] [] [(1, .one (.pv (.rp [(ref1_alone_a1 p1)] 0 0))), (31, vb x1)] [] [] trivial (zt 31 b14 (zo [] 2 [1,31,33] [(ref1_alone_a1 p1)] [([(ref1_alone_a1 p1)] : List (List PV))[0]? = some (ref1_alone_a1 p1)] (⟨rfl, trivial⟩) (za (c_ref1_within _ _ _ _ c15) ?_))))
      exact zp [] 2 [1,36] [] [(1, .one (.pv (.rp [(ref1_alone_a1 p1)] 0 0))), (36, vb r1)] [] [] trivial (zt 36 b16 (zg [] 5 [2] (zd (hJ3 false h _ _ (zk [2])))))
    ·have h := ift_f b14 h
     exact zr (zg [] 2 [1,31] (zt 31 b14 (zg [] 10 [2] (zd (hJ3 false h _ _ (zk [2]))))))
   ·have h := ift_f b12 h
    refine zq fun K17 hK17 => zr (zg [] 2 [1,3,14,41] (zd (hK17 _ _ (zc (p1.kind == (2 : Int)) (fun b18 => ?_) (fun b18 => ?_)))))
    ·have h := ift_t b18 h
     refine zq fun K19 hK19 => ?_
     have hJ4 : ∀ (x4 : Bool), ref1_alone_j4 x4 = some r → ∀ fr1 st1, Sub 143 0 [] fr1 st1 [(2, vb x4)] [] → K19 fr1 st1 := by
      intro x4 h fr1 st1 hS
      unfold ref1_alone_j4 at h
      refine hK19 _ _ (XW.sub hS ?_)
      refine ze ?_
      obtain rfl := Option.some.inj h
      exact zf [vb x4] (.one (.rfl _ rfl))
     rcases Bool.eq_false_or_eq_true x1 with b20 | b20
     ·have h := ift_t b20 h
      obtain ⟨r2, c21, h⟩ := bnd_some h
      rcases Bool.eq_false_or_eq_true r2 with b22 | b22
      ·have h := ift_t b22 h
       refine zr (zg [] 2 [1,44] (zt 44 b20 (zp [] 2 [1,44,46] [(ref1_alone_a1 p1)] [(1, .one (.pv (.rp [(ref1_alone_a1 p1)] 0 0))), (44, vb true), (46, vi p1.n)] [] [([(ref1_alone_a1 p1)] : List (List PV))[0]? = some (ref1_alone_a1 p1)] (⟨rfl, trivial⟩) (za (c_ref1_within _ _ _ _ c21) (zg [] 2 [1,49] (zt 49 b22 ?_))))))
       exact zp [] 5 [2] [(ref1_alone_a1 p1)] [(2, vb (p1.scale == (0 : Int)))] [] [([(ref1_alone_a1 p1)] : List (List PV))[0]? = some (ref1_alone_a1 p1)] (⟨rfl, trivial⟩) (zd (hJ4 (p1.scale == (0 : Int)) h _ _ (zk [2])))
      ·have h := ift_f b22 h
       refine zr (zg [] 2 [1,44] (zt 44 b20 (zo [] 2 [1,44,46] [(ref1_alone_a1 p1)] [([(ref1_alone_a1 p1)] : List (List PV))[0]? = some (ref1_alone_a1 p1)] (⟨rfl, trivial⟩) ?_)))
       exact XO.cal 68 [vi p1.n, vi (-999999999999999999 : Int), vi (999999999999999999 : Int)] (vb r2) [(47, vb r2), (1, .one (.pv (.rp [(ref1_alone_a1 p1)] 0 0))), (44, vb true), (46, vi p1.n)] (by kernel_rfl) (c_ref1_within _ _ _ _ c21) rfl rfl (by kernel_rfl) (zg [] 2 [1,49] (zt 49 b22 (zg [] 5 [2] (zd (hJ4 false h _ _ (zk [2]))))))
     ·have h := ift_f b20 h
      exact zr (zg [] 2 [1,44] (zt 44 b20 (zp [] 10 [2] [] [(2, vb false)] [] [] trivial (zd (hJ4 false h _ _ (zk [2]))))))
    ·have h := ift_f b18 h
     refine zq fun K23 hK23 => zr (zg [] 2 [1,3,14,54] (zd (hK23 _ _ (zc (p1.kind == (3 : Int)) (fun b24 => ?_) (fun b24 => ?_)))))
     ·have h := ift_t b24 h
      refine zq fun K25 hK25 => ?_
      have hJ5 : ∀ (x5 : Bool), ref1_alone_j5 x5 = some r → ∀ fr1 st1, Sub 143 0 [] fr1 st1 [(2, vb x5)] [] → K25 fr1 st1 := by
       intro x5 h fr1 st1 hS
       unfold ref1_alone_j5 at h
       refine hK25 _ _ (XW.sub hS ?_)
       refine ze ?_
       obtain rfl := Option.some.inj h
       exact zf [vb x5] (.one (.rfl _ rfl))
      rcases Bool.eq_false_or_eq_true x1 with b26 | b26
      ·have h := ift_t b26 h
       obtain ⟨r3, c27, h⟩ := bnd_some h
       rcases Bool.eq_false_or_eq_true r3 with b28 | b28
       ·have h := ift_t b28 h
        obtain ⟨r4, c29, h⟩ := bnd_some h
        refine zr (zp [] 2 [1,57] [] [(1, .one (.pv (.rp [(ref1_alone_a1 p1)] 0 0))), (57, vb x1)] [] [] trivial (zt 57 b26 (zo [] 2 [1,57,59] [(ref1_alone_a1 p1)] [([(ref1_alone_a1 p1)] : List (List PV))[0]? = some (ref1_alone_a1 p1)] (⟨rfl, trivial⟩) (za (c_ref1_within _ _ _ _ c27) ?_))))
        exact zp [] 2 [1,62] [] [(1, .one (.pv (.rp [(ref1_alone_a1 p1)] 0 0))), (62, vb r3)] [] [] trivial (zt 62 b28 (zo [] 2 [62,64] [(ref1_alone_a1 p1)] [([(ref1_alone_a1 p1)] : List (List PV))[0]? = some (ref1_alone_a1 p1)] (⟨rfl, trivial⟩) (za (c_ref1_within _ _ _ _ c29) (zp [] 2 [2] [] [(2, vb r4)] [] [] trivial (zd (hJ5 r4 h _ _ (zk [2])))))))
       ·have h := ift_f b28 h
        refine zr (zg [] 2 [1,57] (zt 57 b26 (zo [] 2 [1,57,59] [(ref1_alone_a1 p1)] [([(ref1_alone_a1 p1)] : List (List PV))[0]? = some (ref1_alone_a1 p1)] (⟨rfl, trivial⟩) ?_)))
        exact XO.cal 68 [vi p1.n, vi (-999999999999999999 : Int), vi (999999999999999999 : Int)] (vb r3) [(60, vb r3), (1, .one (.pv (.rp [(ref1_alone_a1 p1)] 0 0))), (57, vb true), (59, vi p1.n)] (by kernel_rfl) (c_ref1_within _ _ _ _ c27) rfl rfl (by kernel_rfl) (zg [] 2 [1,62] (zt 62 b28 (zg [] 5 [2] (zd (hJ5 false h _ _ (zk [2]))))))
      ·have h := ift_f b26 h
       exact zr (zp [] 2 [1,57] [] [(1, .one (.pv (.rp [(ref1_alone_a1 p1)] 0 0))), (57, vb x1)] [] [] trivial (zt 57 b26 (zg [] 10 [2] (zd (hJ5 false h _ _ (zk [2]))))))
     ·have h := ift_f b24 h
      refine zq fun K30 hK30 => zr (zp [] 2 [1,3,14,67] [] [(1, .one (.pv (.rp [(ref1_alone_a1 p1)] 0 0))), (3, vb x1), (14, vi p1.kind), (67, vb (p1.kind == (4 : Int)))] [] [] trivial (zd (hK30 _ _ (zc (p1.kind == (4 : Int)) (fun b31 => ?_) (fun b31 => ?_)))))
      ·have h := ift_t b31 h
       refine zq fun K32 hK32 => ?_
       have hJ6 : ∀ (x6 : Bool), ref1_alone_j6 x6 = some r → ∀ fr1 st1, Sub 143 0 [] fr1 st1 [(2, vb x6)] [] → K32 fr1 st1 := by
        intro x6 h fr1 st1 hS
        unfold ref1_alone_j6 at h
        refine hK32 _ _ (XW.sub hS ?_)
        refine ze ?_
        obtain rfl := Option.some.inj h
        exact zf [vb x6] (.one (.rfl _ rfl))
       rcases Bool.eq_false_or_eq_true ((p1.items.length : Int) == (0 : Int)) with b33 | b33
       ·have h := ift_t b33 h
        rcases Bool.eq_false_or_eq_true (p1.n == (0 : Int)) with b34 | b34
        ·have h := ift_t b34 h
         rcases Bool.eq_false_or_eq_true (p1.scale == (0 : Int)) with b35 | b35
         ·have h := ift_t b35 h
          obtain ⟨r5, c36, h⟩ := bnd_some h
          refine zr (zp [] 3 [1,71] [[pi p1.kind, pi p1.n, pi p1.scale, .s (.string p1.s), .ro (eValue.els p1.items)]] [(1, .one (.pv (.rp [[pi p1.kind, pi p1.n, pi p1.scale, .s (.string p1.s), .ro (eValue.els p1.items)]] 0 0))), (71, vi ((eValue.els p1.items).length : Int))] [] [([[pi p1.kind, pi p1.n, pi p1.scale, .s (.string p1.s), .ro (eValue.els p1.items)]] : List (List PV))[0]? = some [pi p1.kind, pi p1.n, pi p1.scale, .s (.string p1.s), .ro (eValue.els p1.items)]] (⟨rfl, trivial⟩) ?_)
          rw [eValue.len p1.items]
          refine zg [] 2 [1,73] (zt 73 b33 (zo [] 5 [1,78] [(ref1_alone_a1 p1)] [([(ref1_alone_a1 p1)] : List (List PV))[0]? = some (ref1_alone_a1 p1)] (⟨rfl, trivial⟩) (zt 78 b34 ?_)))
          refine zp [] 5 [1,83] [(ref1_alone_a1 p1)] [(1, .one (.pv (.rp [(ref1_alone_a1 p1)] 0 0))), (83, vb (p1.scale == (0 : Int)))] [] [([(ref1_alone_a1 p1)] : List (List PV))[0]? = some (ref1_alone_a1 p1)] (⟨rfl, trivial⟩) (zt 83 b35 ?_)
          exact zo [] 2 [83,85] [(ref1_alone_a1 p1)] [([(ref1_alone_a1 p1)] : List (List PV))[0]? = some (ref1_alone_a1 p1)] (⟨rfl, trivial⟩) (za (c_ref1_characters _ _ c36) (zp [] 2 [2] [] [(2, vb r5)] [] [] trivial (zd (hJ6 r5 h _ _ (zk [2])))))
         ·have h := ift_f b35 h
          refine zr (zp [] 3 [1,71] [[pi p1.kind, pi p1.n, pi p1.scale, .s (.string p1.s), .ro (eValue.els p1.items)]] [(1, .one (.pv (.rp [[pi p1.kind, pi p1.n, pi p1.scale, .s (.string p1.s), .ro (eValue.els p1.items)]] 0 0))), (71, vi ((eValue.els p1.items).length : Int))] [] [([[pi p1.kind, pi p1.n, pi p1.scale, .s (.string p1.s), .ro (eValue.els p1.items)]] : List (List PV))[0]? = some [pi p1.kind, pi p1.n, pi p1.scale, .s (.string p1.s), .ro (eValue.els p1.items)]] (⟨rfl, trivial⟩) ?_)
          rw [eValue.len p1.items]
          refine zg [] 2 [1,73] (zt 73 b33 (zo [] 5 [1,78] [(ref1_alone_a1 p1)] [([(ref1_alone_a1 p1)] : List (List PV))[0]? = some (ref1_alone_a1 p1)] (⟨rfl, trivial⟩) (zt 78 b34 ?_)))
          exact zp [] 5 [1,83] [(ref1_alone_a1 p1)] [(1, .one (.pv (.rp [(ref1_alone_a1 p1)] 0 0))), (83, vb (p1.scale == (0 : Int)))] [] [([(ref1_alone_a1 p1)] : List (List PV))[0]? = some (ref1_alone_a1 p1)] (⟨rfl, trivial⟩) (zt 83 b35 (zg [] 5 [2] (zd (hJ6 false h _ _ (zk [2])))))
        ·have h := ift_f b34 h
         refine zr (zp [] 3 [1,71] [[pi p1.kind, pi p1.n, pi p1.scale, .s (.string p1.s), .ro (eValue.els p1.items)]] [(1, .one (.pv (.rp [[pi p1.kind, pi p1.n, pi p1.scale, .s (.string p1.s), .ro (eValue.els p1.items)]] 0 0))), (71, vi ((eValue.els p1.items).length : Int))] [] [([[pi p1.kind, pi p1.n, pi p1.scale, .s (.string p1.s), .ro (eValue.els p1.items)]] : List (List PV))[0]? = some [pi p1.kind, pi p1.n, pi p1.scale, .s (.string p1.s), .ro (eValue.els p1.items)]] (⟨rfl, trivial⟩) ?_)
         rw [eValue.len p1.items]
         exact zg [] 2 [1,73] (zt 73 b33 (zo [] 5 [1,78] [(ref1_alone_a1 p1)] [([(ref1_alone_a1 p1)] : List (List PV))[0]? = some (ref1_alone_a1 p1)] (⟨rfl, trivial⟩) (zt 78 b34 (zp [] 10 [2] [] [(2, vb false)] [] [] trivial (zd (hJ6 false h _ _ (zk [2])))))))
       ·have h := ift_f b33 h
        refine zr (zp [] 3 [1,71] [[pi p1.kind, pi p1.n, pi p1.scale, .s (.string p1.s), .ro (eValue.els p1.items)]] [(1, .one (.pv (.rp [[pi p1.kind, pi p1.n, pi p1.scale, .s (.string p1.s), .ro (eValue.els p1.items)]] 0 0))), (71, vi ((eValue.els p1.items).length : Int))] [] [([[pi p1.kind, pi p1.n, pi p1.scale, .s (.string p1.s), .ro (eValue.els p1.items)]] : List (List PV))[0]? = some [pi p1.kind, pi p1.n, pi p1.scale, .s (.string p1.s), .ro (eValue.els p1.items)]] (⟨rfl, trivial⟩) ?_)
        rw [eValue.len p1.items]
        exact zg [] 2 [1,73] (zt 73 b33 (zg [] 15 [2] (zd (hJ6 false h _ _ (zk [2])))))
      ·have h := ift_f b31 h
       refine zq fun K37 hK37 => zr (zg [] 2 [1,3,14,88] (zd (hK37 _ _ (zc (p1.kind == (5 : Int)) (fun b38 => ?_) (fun b38 => ?_)))))
       ·have h := ift_t b38 h
        refine zq fun K39 hK39 => ?_
        have hJ7 : ∀ (x7 : Bool), ref1_alone_j7 x7 = some r → ∀ fr1 st1, Sub 143 0 [] fr1 st1 [(2, vb x7)] [] → K39 fr1 st1 := by
         intro x7 h fr1 st1 hS
         unfold ref1_alone_j7 at h
         refine hK39 _ _ (XW.sub hS ?_)
         refine ze ?_
         obtain rfl := Option.some.inj h
         exact zf [vb x7] (.one (.rfl _ rfl))
        rcases Bool.eq_false_or_eq_true x1 with b40 | b40
        ·have h := ift_t b40 h
         obtain ⟨r6, c41, h⟩ := bnd_some h
         rcases Bool.eq_false_or_eq_true r6 with b42 | b42
         ·have h := ift_t b42 h
          refine zr (zg [] 2 [1,91] (zt 91 b40 (zp [] 2 [1,91,93] [(ref1_alone_a1 p1)] [(1, .one (.pv (.rp [(ref1_alone_a1 p1)] 0 0))), (91, vb true), (93, vi p1.n)] [] [([(ref1_alone_a1 p1)] : List (List PV))[0]? = some (ref1_alone_a1 p1)] (⟨rfl, trivial⟩) (za (c_ref1_within _ _ _ _ c41) (zg [] 2 [1,96] (zt 96 b42 ?_))))))
          exact zp [] 5 [2] [(ref1_alone_a1 p1)] [(2, vb (p1.scale == (0 : Int)))] [] [([(ref1_alone_a1 p1)] : List (List PV))[0]? = some (ref1_alone_a1 p1)] (⟨rfl, trivial⟩) (zd (hJ7 (p1.scale == (0 : Int)) h _ _ (zk [2])))
         ·have h := ift_f b42 h
          refine zr (zg [] 2 [1,91] (zt 91 b40 (zo [] 2 [1,91,93] [(ref1_alone_a1 p1)] [([(ref1_alone_a1 p1)] : List (List PV))[0]? = some (ref1_alone_a1 p1)] (⟨rfl, trivial⟩) ?_)))
          exact XO.cal 68 [vi p1.n, vi (-62135596800 : Int), vi (253402300799 : Int)] (vb r6) [(94, vb r6), (1, .one (.pv (.rp [(ref1_alone_a1 p1)] 0 0))), (91, vb true), (93, vi p1.n)] (by kernel_rfl) (c_ref1_within _ _ _ _ c41) rfl rfl (by kernel_rfl) (zg [] 2 [1,96] (zt 96 b42 (zg [] 5 [2] (zd (hJ7 false h _ _ (zk [2]))))))
        ·have h := ift_f b40 h
         exact zr (zg [] 2 [1,91] (zt 91 b40 (zp [] 10 [2] [] [(2, vb false)] [] [] trivial (zd (hJ7 false h _ _ (zk [2]))))))
       ·have h := ift_f b38 h
        refine zq fun K43 hK43 => zr (zg [] 2 [1,14,101] (zd (hK43 _ _ (zc (p1.kind == (6 : Int)) (fun b44 => ?_) (fun b44 => ?_)))))
        ·have h := ift_t b44 h
         refine zq fun K45 hK45 => ?_
         have hJ8 : ∀ (x8 : Bool), ref1_alone_j8 x8 = some r → ∀ fr1 st1, Sub 143 0 [] fr1 st1 [(2, vb x8)] [] → K45 fr1 st1 := by
          intro x8 h fr1 st1 hS
          unfold ref1_alone_j8 at h
          refine hK45 _ _ (XW.sub hS ?_)
          refine ze ?_
          obtain rfl := Option.some.inj h
          exact zf [vb x8] (.one (.rfl _ rfl))
         rcases Bool.eq_false_or_eq_true (p1.s.toList == (ByteArray.mk #[]).toList) with b46 | b46
         ·have h := ift_t b46 h
          rcases Bool.eq_false_or_eq_true (p1.n == (0 : Int)) with b47 | b47
          ·have h := ift_t b47 h
           rcases Bool.eq_false_or_eq_true (p1.scale == (0 : Int)) with b48 | b48
           ·have h := ift_t b48 h
            refine zr (zp [] 4 [1,106] [(ref1_alone_a1 p1)] [(1, .one (.pv (.rp [(ref1_alone_a1 p1)] 0 0))), (106, vb (p1.s.toList == (ByteArray.mk #[]).toList))] [] [([(ref1_alone_a1 p1)] : List (List PV))[0]? = some (ref1_alone_a1 p1)] (⟨rfl, trivial⟩) (zt 106 b46 ?_))
            refine zo [] 5 [1,111] [(ref1_alone_a1 p1)] [([(ref1_alone_a1 p1)] : List (List PV))[0]? = some (ref1_alone_a1 p1)] (⟨rfl, trivial⟩) (zt 111 b47 ?_)
            refine zo [] 5 [1,116] [(ref1_alone_a1 p1)] [([(ref1_alone_a1 p1)] : List (List PV))[0]? = some (ref1_alone_a1 p1)] (⟨rfl, trivial⟩) (zt 116 b48 ?_)
            refine zp [] 3 [116,119] [[pi p1.kind, pi p1.n, pi p1.scale, .s (.string p1.s), .ro (eValue.els p1.items)]] [(116, vb true), (119, vi ((eValue.els p1.items).length : Int))] [] [([[pi p1.kind, pi p1.n, pi p1.scale, .s (.string p1.s), .ro (eValue.els p1.items)]] : List (List PV))[0]? = some [pi p1.kind, pi p1.n, pi p1.scale, .s (.string p1.s), .ro (eValue.els p1.items)]] (⟨rfl, trivial⟩) ?_
            rw [eValue.len p1.items]
            exact zg [] 3 [2] (zd (hJ8 (decide ((p1.items.length : Int) ≤ (64 : Int))) h _ _ (zk [2])))
           ·have h := ift_f b48 h
            refine zr (zo [] 4 [1,106] [(ref1_alone_a1 p1)] [([(ref1_alone_a1 p1)] : List (List PV))[0]? = some (ref1_alone_a1 p1)] (⟨rfl, trivial⟩) (zt 106 b46 ?_))
            refine zp [] 5 [1,111] [(ref1_alone_a1 p1)] [(1, .one (.pv (.rp [(ref1_alone_a1 p1)] 0 0))), (111, vb (p1.n == (0 : Int)))] [] [([(ref1_alone_a1 p1)] : List (List PV))[0]? = some (ref1_alone_a1 p1)] (⟨rfl, trivial⟩) (zt 111 b47 ?_)
            exact zo [] 5 [1,116] [(ref1_alone_a1 p1)] [([(ref1_alone_a1 p1)] : List (List PV))[0]? = some (ref1_alone_a1 p1)] (⟨rfl, trivial⟩) (zt 116 b48 (zg [] 6 [2] (zd (hJ8 false h _ _ (zk [2])))))
          ·have h := ift_f b47 h
           refine zr (zp [] 4 [1,106] [(ref1_alone_a1 p1)] [(1, .one (.pv (.rp [(ref1_alone_a1 p1)] 0 0))), (106, vb (p1.s.toList == (ByteArray.mk #[]).toList))] [] [([(ref1_alone_a1 p1)] : List (List PV))[0]? = some (ref1_alone_a1 p1)] (⟨rfl, trivial⟩) (zt 106 b46 ?_))
           exact zo [] 5 [1,111] [(ref1_alone_a1 p1)] [([(ref1_alone_a1 p1)] : List (List PV))[0]? = some (ref1_alone_a1 p1)] (⟨rfl, trivial⟩) (zt 111 b47 (zg [] 11 [2] (zd (hJ8 false h _ _ (zk [2])))))
         ·have h := ift_f b46 h
          exact zr (zp [] 4 [1,106] [(ref1_alone_a1 p1)] [(1, .one (.pv (.rp [(ref1_alone_a1 p1)] 0 0))), (106, vb (p1.s.toList == (ByteArray.mk #[]).toList))] [] [([(ref1_alone_a1 p1)] : List (List PV))[0]? = some (ref1_alone_a1 p1)] (⟨rfl, trivial⟩) (zt 106 b46 (zg [] 16 [2] (zd (hJ8 false h _ _ (zk [2]))))))
        ·have h := ift_f b44 h
         refine zq fun K49 hK49 => zr (zp [] 2 [1,122] [] [(1, .one (.pv (.rp [(ref1_alone_a1 p1)] 0 0))), (122, vb (p1.kind == (7 : Int)))] [] [] trivial (zd (hK49 _ _ (zc (p1.kind == (7 : Int)) (fun b50 => ?_) (fun b50 => ?_)))))
         ·have h := ift_t b50 h
          refine zq fun K51 hK51 => ?_
          have hJ9 : ∀ (x9 : Bool), ref1_alone_j9 x9 = some r → ∀ fr1 st1, Sub 143 0 [] fr1 st1 [(2, vb x9)] [] → K51 fr1 st1 := by
           intro x9 h fr1 st1 hS
           unfold ref1_alone_j9 at h
           refine hK51 _ _ (XW.sub hS ?_)
           refine ze ?_
           obtain rfl := Option.some.inj h
           exact zf [vb x9] (.one (.rfl _ rfl))
          rcases Bool.eq_false_or_eq_true (p1.s.toList == (ByteArray.mk #[]).toList) with b52 | b52
          ·have h := ift_t b52 h
           rcases Bool.eq_false_or_eq_true (p1.n == (0 : Int)) with b53 | b53
           ·have h := ift_t b53 h
            rcases Bool.eq_false_or_eq_true (p1.scale == (0 : Int)) with b54 | b54
            ·have h := ift_t b54 h
             refine zr (zo [] 4 [1,127] [(ref1_alone_a1 p1)] [([(ref1_alone_a1 p1)] : List (List PV))[0]? = some (ref1_alone_a1 p1)] (⟨rfl, trivial⟩) (zt 127 b52 ?_))
             refine zo [] 5 [1,132] [(ref1_alone_a1 p1)] [([(ref1_alone_a1 p1)] : List (List PV))[0]? = some (ref1_alone_a1 p1)] (⟨rfl, trivial⟩) (zt 132 b53 ?_)
             refine zp [] 5 [1,137] [(ref1_alone_a1 p1)] [(1, .one (.pv (.rp [(ref1_alone_a1 p1)] 0 0))), (137, vb (p1.scale == (0 : Int)))] [] [([(ref1_alone_a1 p1)] : List (List PV))[0]? = some (ref1_alone_a1 p1)] (⟨rfl, trivial⟩) (zt 137 b54 ?_)
             refine zp [] 3 [137,140] [[pi p1.kind, pi p1.n, pi p1.scale, .s (.string p1.s), .ro (eValue.els p1.items)]] [(137, vb true), (140, vi ((eValue.els p1.items).length : Int))] [] [([[pi p1.kind, pi p1.n, pi p1.scale, .s (.string p1.s), .ro (eValue.els p1.items)]] : List (List PV))[0]? = some [pi p1.kind, pi p1.n, pi p1.scale, .s (.string p1.s), .ro (eValue.els p1.items)]] (⟨rfl, trivial⟩) ?_
             rw [eValue.len p1.items]
             exact zg [] 3 [2] (zd (hJ9 (decide ((0 : Int) < (p1.items.length : Int))) h _ _ (zk [2])))
            ·have h := ift_f b54 h
             refine zr (zo [] 4 [1,127] [(ref1_alone_a1 p1)] [([(ref1_alone_a1 p1)] : List (List PV))[0]? = some (ref1_alone_a1 p1)] (⟨rfl, trivial⟩) (zt 127 b52 ?_))
             refine zp [] 5 [1,132] [(ref1_alone_a1 p1)] [(1, .one (.pv (.rp [(ref1_alone_a1 p1)] 0 0))), (132, vb (p1.n == (0 : Int)))] [] [([(ref1_alone_a1 p1)] : List (List PV))[0]? = some (ref1_alone_a1 p1)] (⟨rfl, trivial⟩) (zt 132 b53 ?_)
             exact zo [] 5 [1,137] [(ref1_alone_a1 p1)] [([(ref1_alone_a1 p1)] : List (List PV))[0]? = some (ref1_alone_a1 p1)] (⟨rfl, trivial⟩) (zt 137 b54 (zg [] 6 [2] (zd (hJ9 false h _ _ (zk [2])))))
           ·have h := ift_f b53 h
            refine zr (zo [] 4 [1,127] [(ref1_alone_a1 p1)] [([(ref1_alone_a1 p1)] : List (List PV))[0]? = some (ref1_alone_a1 p1)] (⟨rfl, trivial⟩) (zt 127 b52 ?_))
            exact zo [] 5 [1,132] [(ref1_alone_a1 p1)] [([(ref1_alone_a1 p1)] : List (List PV))[0]? = some (ref1_alone_a1 p1)] (⟨rfl, trivial⟩) (zt 132 b53 (zp [] 11 [2] [] [(2, vb false)] [] [] trivial (zd (hJ9 false h _ _ (zk [2])))))
          ·have h := ift_f b52 h
           exact zr (zo [] 4 [1,127] [(ref1_alone_a1 p1)] [([(ref1_alone_a1 p1)] : List (List PV))[0]? = some (ref1_alone_a1 p1)] (⟨rfl, trivial⟩) (zt 127 b52 (zg [] 16 [2] (zd (hJ9 false h _ _ (zk [2]))))))
         ·have h := ift_f b50 h
          refine zs (hK4 _ _ (zq fun K55 hK55 => zr (zg [] 1 [2] (zd (hK55 _ _ (ze ?_))))))
          obtain rfl := Option.some.inj h
          exact zf [vb false] (.one (.rfl _ rfl))
 rcases Bool.eq_false_or_eq_true (p1.s.toList == (ByteArray.mk #[]).toList) with b3 | b3
 ·have h := ift_t b3 h
  refine zr (zo [] 4 [1,7] [(ref1_alone_a1 p1)] [([(ref1_alone_a1 p1)] : List (List PV))[0]? = some (ref1_alone_a1 p1)] (⟨rfl, trivial⟩) (zt 7 b3 ?_))
  refine zp [] 3 [1,7,10] [[pi p1.kind, pi p1.n, pi p1.scale, .s (.string p1.s), .ro (eValue.els p1.items)]] [(1, .one (.pv (.rp [[pi p1.kind, pi p1.n, pi p1.scale, .s (.string p1.s), .ro (eValue.els p1.items)]] 0 0))), (7, vb true), (10, vi ((eValue.els p1.items).length : Int))] [] [([[pi p1.kind, pi p1.n, pi p1.scale, .s (.string p1.s), .ro (eValue.els p1.items)]] : List (List PV))[0]? = some [pi p1.kind, pi p1.n, pi p1.scale, .s (.string p1.s), .ro (eValue.els p1.items)]] (⟨rfl, trivial⟩) ?_
  rw [eValue.len p1.items]
  exact zg [] 3 [1,3] (zd (hJ1 ((p1.items.length : Int) == (0 : Int)) h _ _ (zk [1,3])))
 ·have h := ift_f b3 h
  exact zr (zo [] 4 [1,7] [(ref1_alone_a1 p1)] [([(ref1_alone_a1 p1)] : List (List PV))[0]? = some (ref1_alone_a1 p1)] (⟨rfl, trivial⟩) (zt 7 b3 (zp [] 6 [1,3] [] [(1, .one (.pv (.rp [(ref1_alone_a1 p1)] 0 0))), (3, vb false)] [] [] trivial (zd (hJ1 false h _ _ (zk [1,3]))))))

def ref1_sound_j3 (z3 : Int) : Option (Bool × Int) :=
    some (true, z3)

def ref1_sound_l1 (q_ref1_sound : GValue → Int → Int → Option (Bool × Int)) (p1 : GValue) (p2 : Int) : Nat → Int → Int → Option (Bool × Int)
  | 0, _, _ => none
  | k1 + 1, z2, x2 =>
    ift (decide (x2 < (p1.items.length : Int)))
      (bnd (at? p1.items x2) fun e1 =>
       bnd (q_ref1_sound e1 (IntKind.i64.wrap (p2 + (1 : Int))) z2) fun r2 =>
       ift (!r2.1)
         (some (false, r2.2))
         ((ref1_sound_l1 q_ref1_sound p1 p2 k1) r2.2 (IntKind.i64.wrap (x2 + (1 : Int)))))
      (ref1_sound_j3 z2)

def ref1_sound_j2 (q_ref1_sound : GValue → Int → Int → Option (Bool × Int)) (p1 : GValue) (p2 : Int) (z1 : Int) (x1 : Bool) : Option (Bool × Int) :=
    ift x1
      (some (false, z1))
      (ref1_sound_l1 q_ref1_sound p1 p2 BIG z1 (0 : Int))

def ref1_sound_j1 (q_ref1_sound : GValue → Int → Int → Option (Bool × Int)) (p1 : GValue) (p2 : Int) (z1 : Int) : Option (Bool × Int) :=
    ift (decide ((4 : Int) < p2))
      (ref1_sound_j2 q_ref1_sound p1 p2 z1 true)
      (ift (decide ((256 : Int) < z1))
         (ref1_sound_j2 q_ref1_sound p1 p2 z1 true)
         (bnd (ref1_alone p1) fun r1 =>
          ref1_sound_j2 q_ref1_sound p1 p2 z1 (!r1)))

def ref1_sound : Nat → GValue → Int → Int → Option (Bool × Int)
  | 0, _, _, _ => none
  | k0 + 1, p1, p2, p3 =>
    ift (p1.kind != (0 : Int))
      (ref1_sound_j1 (ref1_sound k0) p1 p2 (IntKind.i64.wrap (p3 + (1 : Int))))
      (ref1_sound_j1 (ref1_sound k0) p1 p2 p3)

abbrev ref1_sound_a1 (p1 : GValue) : List CV := [ci p1.kind, ci p1.n, ci p1.scale, cst p1.s, cl eValue p1.items]
abbrev ref1_sound_a2 (p1 : GValue) : List PV := [pi p1.kind, pi p1.n, pi p1.scale, .s (.string p1.s), .ro (eValue.els p1.items)]
abbrev ref1_sound_a3 (e1 : GValue) : List CV := [ci e1.kind, ci e1.n, ci e1.scale, cst e1.s, cl eValue e1.items]

theorem c_ref1_sound : ∀ (k0 : Nat) (p1 : GValue) (p2 : Int) (p3 : Int) (r : (Bool × Int)), ref1_sound k0 p1 p2 p3 = some r → MC Tryd.prog 32 [.ag (ref1_sound_a1 p1), vi p2, .one (.pt 0 0 0 0)] [.box [ci p3]] (vb r.1) [.box [ci r.2]]
 | 0, _, _, _, r, h => by rw [ref1_sound.eq_1] at h; cases h
 | k0 + 1, p1, p2, p3, r, h => by
  rw [ref1_sound.eq_2] at h
  refine MC.of 1 (n := 46) (fn := Tryd.f32) (c := cd Tryd.f32 []) (by kernel_rfl) (by kernel_rfl) (by kernel_rfl) (Nat.le_of_ble_eq_true rfl) rfl (zq fun K1 hK1 => zr (zg [] 2 [1,2,3] (zd (hK1 _ _ (zq fun K2 hK2 => ?_)))))
  have hJ1 : ∀ (z1 : Int), ref1_sound_j1 (ref1_sound k0) p1 p2 z1 = some r → ∀ fr1 st1, Sub 46 1 [] fr1 st1 [(1, vi p2), (2, .one (.pt 0 0 0 0)), (3, .one (.pv (.rp [(ref1_sound_a2 p1)] 0 0)))] [.box [ci z1]] → K2 fr1 st1 := by
   intro z1 h fr1 st1 hS
   unfold ref1_sound_j1 at h
   refine hK2 _ _ (XW.sub hS ?_)
   refine zq fun K5 hK5 => zq fun K6 hK6 => ?_
   have hJ2 : ∀ (x1 : Bool), ref1_sound_j2 (ref1_sound k0) p1 p2 z1 x1 = some r → ∀ fr1 st1, Sub 46 1 [] fr1 st1 [(1, vi p2), (2, .one (.pt 0 0 0 0)), (3, .one (.pv (.rp [(ref1_sound_a2 p1)] 0 0))), (28, vb x1)] [.box [ci z1]] → K6 fr1 st1 := by
    intro x1 h fr1 st1 hS
    unfold ref1_sound_j2 at h
    refine hK6 _ _ (XW.sub hS ?_)
    refine zc x1 (fun b10 => ?_) (fun b10 => ?_)
    ·have h := ift_t b10 h
     refine zq fun K11 hK11 => zr (zp [] 1 [6] [] [(6, vb false)] [.box [ci z1]] [] trivial (zd (hK11 _ _ (ze ?_))))
     obtain rfl := Option.some.inj h
     exact FinM.fin (.inr rfl) [] [vb false] [] (by kernel_rfl) trivial (by kernel_rfl) (by kernel_rfl) (.one (.rfl _ rfl))
    ·have h := ift_f b10 h
     refine zs (hK5 _ _ (zq fun K12 hK12 => ?_))
     have hJ3 : ∀ (z3 : Int), ref1_sound_j3 z3 = some r → ∀ fr1 st1, Sub 46 1 [] fr1 st1 [] [.box [ci z3]] → K12 fr1 st1 := by
      intro z3 h fr1 st1 hS
      unfold ref1_sound_j3 at h
      refine hK12 _ _ (XW.sub hS ?_)
      refine zq fun K24 hK24 => zr (zp [] 1 [6] [] [(6, vb true)] [.box [ci z3]] [] trivial (zd (hK24 _ _ (ze ?_))))
      obtain rfl := Option.some.inj h
      exact FinM.fin (.inr rfl) [] [vb true] [] (by kernel_rfl) trivial (by kernel_rfl) (by kernel_rfl) (.one (.rfl _ rfl))
     refine zq fun K13 hK13 => zr (zp [] 3 [1,2,3,31] [[pi p1.kind, pi p1.n, pi p1.scale, .s (.string p1.s), .ro (eValue.els p1.items)]] [(1, vi p2), (2, .one (.pt 0 0 0 0)), (3, .one (.pv (.rp [[pi p1.kind, pi p1.n, pi p1.scale, .s (.string p1.s), .ro (eValue.els p1.items)]] 0 0))), (31, vi ((eValue.els p1.items).length : Int))] [.box [ci z1]] [([[pi p1.kind, pi p1.n, pi p1.scale, .s (.string p1.s), .ro (eValue.els p1.items)]] : List (List PV))[0]? = some [pi p1.kind, pi p1.n, pi p1.scale, .s (.string p1.s), .ro (eValue.els p1.items)]] (⟨rfl, trivial⟩) ?_)
     rw [eValue.len p1.items]
     refine zg [] 1 [1,2,3,31,32] (zd (hK13 _ _ (zb 0 (XW.rounds' BIG (x := cd Tryd.f32 [1,1,1,0,1,0,0]) (by kernel_rfl) fun Q1 hQ1 => ?_))))
     have hL1 : ∀ (k1 : Nat) (z2 : Int) (x2 : Int), ref1_sound_l1 (ref1_sound k0) p1 p2 k1 z2 x2 = some r → XR Tryd.prog 46 1 [] (cd Tryd.f32 [1,1,1,0,1,0,0]) Q1 k1 [(1, vi p2), (2, .one (.pt 0 0 0 0)), (3, .one (.pv (.rp [(ref1_sound_a2 p1)] 0 0))), (31, vi (p1.items.length : Int)), (32, vi x2)] [.box [ci z2]] := by
      intro k1
      induction k1 with
      | zero => intro z2 x2 h; rw [ref1_sound_l1.eq_1] at h; cases h
      | succ k1 ih1 =>
       intro z2 x2 h
       rw [ref1_sound_l1.eq_2] at h
       refine zq fun K14 hK14 => zr (zg [] 1 [1,2,3,31,32,33] (zd (hK14 _ _ (zq fun K15 hK15 => zc (decide (x2 < (p1.items.length : Int))) (fun b16 => ?_) (fun b16 => ?_)))))
       ·have h := ift_t b16 h
        refine zs (hK15 _ _ (zq fun K17 hK17 => zb 1 (zq fun K18 hK18 => zr (zg [] 2 [1,2,3,7,31,32] (zd ?_)))))
        refine hK18 _ _ (zq fun K19 hK19 => ?_)
        obtain ⟨e1, a20, h⟩ := bnd_some h
        obtain ⟨r2, c21, h⟩ := bnd_some h
        refine zr ?_
        refine zp [] 8 [1,2,3,31,32,39,41,42] [(ref1_sound_a2 p1), [pi e1.kind, pi e1.n, pi e1.scale, .s (.string e1.s), .ro (eValue.els e1.items)]] [(1, vi p2), (2, .one (.pt 0 0 0 0)), (3, .one (.pv (.rp [(ref1_sound_a2 p1)] 0 0))), (31, vi (p1.items.length : Int)), (32, vi x2), (39, .ag (ref1_sound_a3 e1)), (41, vi (IntKind.i64.wrap (p2 + (1 : Int)))), (42, .one (.pt 0 0 0 0))] [.box [ci z2]] [([(ref1_sound_a2 p1)] : List (List PV))[0]? = some (ref1_sound_a2 p1), 0 ≤ x2 ∧ x2 < ((eValue.els p1.items).length : Int) ∧ elemsOk 5 (eValue.els p1.items), (eValue.els p1.items)[x2.toNat]? = some [pi e1.kind, pi e1.n, pi e1.scale, .s (.string e1.s), .ro (eValue.els e1.items)]] (⟨rfl, eValue.inb a20, ((eValue.get a20).trans (by cases e1; rfl)), trivial⟩) ?_
        refine XO.calm 32 [.ag (ref1_sound_a3 e1), vi (IntKind.i64.wrap (p2 + (1 : Int))), .one (.pt 0 0 0 0)] [.box [ci z2]] [.box [ci r2.2]] (vb r2.1) [0] [(43, vb r2.1), (1, vi p2), (2, .one (.pt 0 0 0 0)), (3, .one (.pv (.rp [(ref1_sound_a2 p1)] 0 0))), (31, vi (p1.items.length : Int)), (32, vi x2), (39, .ag (ref1_sound_a3 e1)), (41, vi (IntKind.i64.wrap (p2 + (1 : Int)))), (42, .one (.pt 0 0 0 0))] [.box [ci r2.2]] (by kernel_rfl) (c_ref1_sound k0 _ _ _ _ c21) (by kernel_rfl) (by kernel_rfl) (by kernel_rfl) (by kernel_rfl) ?_
        refine zg [] 1 [1,2,3,31,32,44] (zd (hK19 _ _ (zc (!r2.1) (fun b22 => ?_) (fun b22 => ?_))))
        ·have h := ift_t b22 h
         refine zq fun K23 hK23 => zr (zp [] 1 [6] [] [(6, vb false)] [.box [ci r2.2]] [] trivial (zd (hK23 _ _ (ze (hQ1 _ _ _ ?_)))))
         obtain rfl := Option.some.inj h
         exact FinM.fin (.inr rfl) [] [vb false] [] (by kernel_rfl) trivial (by kernel_rfl) (by kernel_rfl) (.one (.rfl _ rfl))
        ·have h := ift_f b22 h
         exact zs (hK17 _ _ (zr (zg [] 2 [1,2,3,31,32] (zd (XR.sub (zk [1,2,3,31,32]) (ih1 r2.2 (IntKind.i64.wrap (x2 + (1 : Int))) h))))))
       ·have h := ift_f b16 h
        exact zx 0 (hQ1 _ _ _ (hJ3 z2 h _ _ (zk [])))
     exact XR.sub (zk [1,2,3,31,32]) (hL1 BIG z1 (0 : Int) h)
   rcases Bool.eq_false_or_eq_true (decide ((4 : Int) < p2)) with b7 | b7
   ·have h := ift_t b7 h
    exact zr (zg [] 3 [1,2,3,18] (zt 18 b7 (zg [] 10 [1,2,3,28] (zd (hJ2 true h _ _ (zk [1,2,3,28]))))))
   ·have h := ift_f b7 h
    rcases Bool.eq_false_or_eq_true (decide ((256 : Int) < z1)) with b8 | b8
    ·have h := ift_t b8 h
     exact zr (zp [] 3 [1,2,3,18] [] [(1, vi p2), (2, .one (.pt 0 0 0 0)), (3, .one (.pv (.rp [(ref1_sound_a2 p1)] 0 0))), (18, vb (decide ((4 : Int) < p2)))] [.box [ci z1]] [] trivial (zt 18 b7 (zg [] 6 [1,2,3,24] (zt 24 b8 (zg [] 4 [1,2,3,28] (zd (hJ2 true h _ _ (zk [1,2,3,28]))))))))
    ·have h := ift_f b8 h
     obtain ⟨r1, c9, h⟩ := bnd_some h
     refine zr (zp [] 3 [1,2,3,18] [] [(1, vi p2), (2, .one (.pt 0 0 0 0)), (3, .one (.pv (.rp [(ref1_sound_a2 p1)] 0 0))), (18, vb (decide ((4 : Int) < p2)))] [.box [ci z1]] [] trivial (zt 18 b7 (zg [] 6 [1,2,3,24] (zt 24 b8 ?_))))
     refine zo [] 1 [1,2,3,24,25] [(ref1_sound_a2 p1)] [([(ref1_sound_a2 p1)] : List (List PV))[0]? = some (ref1_sound_a2 p1)] (⟨rfl, trivial⟩) ?_
     exact XO.cal 79 [.ag (ref1_sound_a1 p1)] (vb r1) [(26, vb r1), (1, vi p2), (2, .one (.pt 0 0 0 0)), (3, .one (.pv (.rp [(ref1_sound_a2 p1)] 0 0))), (24, vb false), (25, .ag (ref1_sound_a1 p1))] (by kernel_rfl) (c_ref1_alone _ _ c9) rfl rfl (by kernel_rfl) (zg [] 2 [1,2,3,28] (zd (hJ2 (!r1) h _ _ (zk [1,2,3,28]))))
  refine zq fun K3 hK3 => zr (zo [] 3 [1,2,3,10] [(ref1_sound_a2 p1)] [([(ref1_sound_a2 p1)] : List (List PV))[0]? = some (ref1_sound_a2 p1)] (⟨rfl, trivial⟩) (zd (hK3 _ _ (zc (p1.kind != (0 : Int)) (fun b4 => ?_) (fun b4 => ?_)))))
  ·have h := ift_t b4 h
   exact zr (zp [] 6 [1,2,3] [] [(1, vi p2), (2, .one (.pt 0 0 0 0)), (3, .one (.pv (.rp [(ref1_sound_a2 p1)] 0 0)))] [.box [ci (IntKind.i64.wrap (p3 + (1 : Int)))]] [] trivial (zd (hJ1 (IntKind.i64.wrap (p3 + (1 : Int))) h _ _ (zk [1,2,3]))))
  ·have h := ift_f b4 h
   exact zs (hJ1 p3 h _ _ (zk [1,2,3]))

def ref1_Sound (p1 : GValue) : Option Bool :=
    bnd (ref1_sound BIG p1 (1 : Int) (0 : Int)) fun r1 =>
    some r1.1

abbrev ref1_Sound_a1 (p1 : GValue) : List CV := [ci p1.kind, ci p1.n, ci p1.scale, cst p1.s, cl eValue p1.items]
abbrev ref1_Sound_a2 (p1 : GValue) : List PV := [pi p1.kind, pi p1.n, pi p1.scale, .s (.string p1.s), .ro (eValue.els p1.items)]

theorem c_ref1_Sound (p1 : GValue) (r : Bool) (h : ref1_Sound p1 = some r) : PC Tryd.prog 11 [.ag (ref1_Sound_a1 p1)] (vb r) := by
 unfold ref1_Sound at h
 refine PC.of (n := 6) (fn := Tryd.f11) (c := cd Tryd.f11 []) (by kernel_rfl) (by kernel_rfl) (by kernel_rfl) (Nat.le_of_ble_eq_true rfl) (zq fun K1 hK1 => zr (zg [3] 2 [1] (zd (hK1 _ _ (zq fun K2 hK2 => zr ?_)))))
 refine zg [3] 2 [1,3] (zd (hK2 _ _ (zq fun K3 hK3 => ?_)))
 obtain ⟨r1, c4, h⟩ := bnd_some h
 refine zr (zp [3] 1 [3,4] [(ref1_Sound_a2 p1)] [(3, .one (.pt 0 0 0 0)), (4, .ag (ref1_Sound_a1 p1))] [.box [ci (0 : Int)]] [([(ref1_Sound_a2 p1)] : List (List PV))[0]? = some (ref1_Sound_a2 p1)] (⟨rfl, trivial⟩) ?_)
 refine XO.calm 32 [.ag (ref1_Sound_a1 p1), vi (1 : Int), .one (.pt 0 0 0 0)] [.box [ci (0 : Int)]] [.box [ci r1.2]] (vb r1.1) [0] [(5, vb r1.1), (3, .one (.pt 0 0 0 0)), (4, .ag (ref1_Sound_a1 p1))] [.box [ci r1.2]] (by kernel_rfl) (c_ref1_sound BIG _ _ _ _ c4) (by kernel_rfl) (by kernel_rfl) (by kernel_rfl) (by kernel_rfl) (zg [3] 1 [2] (zd (hK3 _ _ (ze ?_))))
 obtain rfl := Option.some.inj h
 exact zf [vb r1.1] (.one (.rfl _ rfl))

def ref1_wideOf_j1 (rec1 : List Int → Int → Option RWide) (l1 : List Int) (x1 : Int) (x2 : Int) : Option RWide :=
    grd (l1.length + 1 ≤ 4294967296) <|
    rec1 (l1 ++ [x2]) (IntKind.i64.wrap (x1.tdiv (10 : Int)))

def ref1_wideOf_j2 (p1 : Int) (l2 : List Int) : Option RWide :=
    some (RWide.mk (decide (p1 < (0 : Int))) l2)

def ref1_wideOf_l1 (p1 : Int) : Nat → List Int → Int → Option RWide
  | 0, _, _ => none
  | k1 + 1, l1, x1 =>
    ift (x1 != (0 : Int))
      (ift (decide ((x1.tmod (10 : Int)) < (0 : Int)))
         (ref1_wideOf_j1 (ref1_wideOf_l1 p1 k1) l1 x1 (IntKind.i64.wrap (0 - (x1.tmod (10 : Int)))))
         (ref1_wideOf_j1 (ref1_wideOf_l1 p1 k1) l1 x1 (x1.tmod (10 : Int))))
      (ref1_wideOf_j2 p1 l1)

def ref1_wideOf (p1 : Int) : Option RWide :=
    ref1_wideOf_l1 p1 BIG [] p1

abbrev ref1_wideOf_a1 : List CV := [cb false, .pv (.s (.slice none 0 0))]

theorem c_ref1_wideOf (p1 : Int) (r : RWide) (h : ref1_wideOf p1 = some r) : PC Tryd.prog 55 [vi p1] (.ag [cb r.below, cl eI r.d]) := by
 unfold ref1_wideOf at h
 refine PC.of (n := 25) (fn := Tryd.f55) (c := cd Tryd.f55 []) (by kernel_rfl) (by kernel_rfl) (by kernel_rfl) (Nat.le_of_ble_eq_true rfl) (zq fun K1 hK1 => zr (zg [2] 1 [0,2] (zd (hK1 _ _ (zq fun K2 hK2 => zr ?_)))))
 refine zg [2] 1 [0,2,3] (zd (hK2 _ _ (zq fun K3 hK3 => ?_)))
 have hJ2 : ∀ (l2 : List Int), ref1_wideOf_j2 p1 l2 = some r → ∀ fr1 st1, Sub 25 0 [] fr1 st1 [(0, vi p1), (2, .one (.pt 0 0 0 0)), (3, .one (.sl 1 1 0 l2.length))] [.box ref1_wideOf_a1, .arr 1 (eI.els l2)] → K3 fr1 st1 := by
  intro l2 h fr1 st1 hS
  unfold ref1_wideOf_j2 at h
  refine hK3 _ _ (XW.sub hS ?_)
  refine zq fun K14 hK14 => zr (zg [2] 5 [2] (zd (hK14 _ _ (ze ?_))))
  obtain rfl := Option.some.inj h
  exact zf [.ag [cb (decide (p1 < (0 : Int))), .sl 1 1 0 l2.length]] (.ag (.cons (.rfl _ rfl) (.cons (cf_sl eI l2 rfl rfl rfl) .nil)))
 refine zq fun K4 hK4 => zr (zp [2] 2 [0,2,3,4] [] [(0, vi p1), (2, .one (.pt 0 0 0 0)), (3, .one (.pv (.s (.slice none 0 0)))), (4, vi p1)] [.box [cb false, .pv (.s (.slice none 0 0))]] [] trivial (zd (hK4 _ _ (zb 0 (XW.sub (Sub.list (t := 3) (sz := 1) rfl) (XW.rounds' BIG (x := cd Tryd.f55 [1,1,0,1,0,0]) (by kernel_rfl) fun Q1 hQ1 => ?_))))))
 have hL1 : ∀ (k1 : Nat) (l1 : List Int) (x1 : Int), ref1_wideOf_l1 p1 k1 l1 x1 = some r → XR Tryd.prog 25 0 [] (cd Tryd.f55 [1,1,0,1,0,0]) Q1 k1 [(0, vi p1), (2, .one (.pt 0 0 0 0)), (3, .one (.sl 1 1 0 l1.length)), (4, vi x1)] [.box ref1_wideOf_a1, .arr 1 (eI.els l1)] := by
  intro k1
  induction k1 with
  | zero => intro l1 x1 h; rw [ref1_wideOf_l1.eq_1] at h; cases h
  | succ k1 ih1 =>
   intro l1 x1 h
   rw [ref1_wideOf_l1.eq_2] at h
   refine zq fun K5 hK5 => zq fun K6 hK6 => zr (zg [2] 2 [0,2,3,4,8] (zd (hK6 _ _ (zc (x1 != (0 : Int)) (fun b7 => ?_) (fun b7 => ?_)))))
   ·have h := ift_t b7 h
    refine zs (hK5 _ _ (zq fun K8 hK8 => zb 1 (zq fun K9 hK9 => zr (zo [2] 3 [0,2,3,4,5] [] [(10 : Int) ≠ 0] (⟨by decide, trivial⟩) (zd ?_)))))
    refine hK9 _ _ (zq fun K10 hK10 => ?_)
    have hJ1 : ∀ (x2 : Int), ref1_wideOf_j1 (ref1_wideOf_l1 p1 k1) l1 x1 x2 = some r → ∀ fr1 st1, Sub 25 0 [] fr1 st1 [(0, vi p1), (2, .one (.pt 0 0 0 0)), (3, .one (.sl 1 1 0 l1.length)), (4, vi x1), (5, vi x2)] [.box ref1_wideOf_a1, .arr 1 (eI.els l1)] → K10 fr1 st1 := by
     intro x2 h fr1 st1 hS
     unfold ref1_wideOf_j1 at h
     refine hK10 _ _ (XW.sub hS ?_)
     obtain ⟨g13, h⟩ := grd_some h
     refine zr (zp [2] 4 [0,2,4,20] [] [(0, vi p1), (2, .one (.pt 0 0 0 0)), (4, vi x1), (20, .one (.sl 1 1 0 (l1.length + (eI.els [x2]).length)))] [.box [cb false, .pv (.s (.slice none 0 0))], .arr 1 (eI.els l1 ++ eI.els [x2])] [elemsOk 1 (eI.els [x2]), l1.length = (eI.els l1).length, l1.length + (eI.els [x2]).length ≤ 4294967296] (⟨eI.ok _, (eI.len l1).symm, g13, trivial⟩) ?_)
     rw [show l1.length + (eI.els [x2]).length = (l1 ++ [x2]).length from eI.lapp _ _]
     rw [show eI.els l1 ++ eI.els [x2] = eI.els (l1 ++ [x2]) from eI.app2 _ _]
     exact zg [2] 1 [0,2,3,4] (zd (hK8 _ _ (zr (zo [2] 3 [0,2,3,4] [] [(10 : Int) ≠ 0] (⟨by decide, trivial⟩) (zd (XR.sub (zk [0,2,3,4]) (ih1 (l1 ++ [x2]) (IntKind.i64.wrap (x1.tdiv (10 : Int))) h)))))))
    refine zq fun K11 hK11 => zr (zp [2] 2 [0,2,3,4,5,14] [] [(0, vi p1), (2, .one (.pt 0 0 0 0)), (3, .one (.sl 1 1 0 l1.length)), (4, vi x1), (5, vi (x1.tmod (10 : Int))), (14, vb (decide ((x1.tmod (10 : Int)) < (0 : Int))))] [.box ref1_wideOf_a1, .arr 1 (eI.els l1)] [] trivial (zd (hK11 _ _ (zc (decide ((x1.tmod (10 : Int)) < (0 : Int))) (fun b12 => ?_) (fun b12 => ?_)))))
    ·have h := ift_t b12 h
     exact zr (zg [2] 3 [0,2,3,4,5] (zd (hJ1 (IntKind.i64.wrap (0 - (x1.tmod (10 : Int)))) h _ _ (zk [0,2,3,4,5]))))
    ·have h := ift_f b12 h
     exact zs (hJ1 (x1.tmod (10 : Int)) h _ _ (zk [0,2,3,4,5]))
   ·have h := ift_f b7 h
    exact zx 0 (hQ1 _ _ _ (hJ2 l1 h _ _ (zk [0,2,3])))
 exact XR.sub (zk [0,2,3,4]) (hL1 BIG [] p1 h)

def ref1_tens (p1 : RWide) (p2 : Int) : Option RWide :=
    ift ((p1.d.length : Int) == (0 : Int))
      (some p1)
      (grd (0 ≤ p2 ∧ p2 ≤ p2 ∧ p2 ≤ 4294967296) <|
       grd ((List.replicate p2.toNat (0 : Int)).length + p1.d.length ≤ 4294967296) <|
       some (RWide.mk p1.below ((List.replicate p2.toNat (0 : Int)) ++ p1.d)))

abbrev ref1_tens_a1 (p1 : RWide) : List PV := [.s (.bool p1.below), .ro (eI.els p1.d)]

theorem c_ref1_tens (p1 : RWide) (p2 : Int) (r : RWide) (h : ref1_tens p1 p2 = some r) : PC Tryd.prog 56 [.ag [cb p1.below, cl eI p1.d], vi p2] (.ag [cb r.below, cl eI r.d]) := by
 unfold ref1_tens at h
 refine PC.of (n := 18) (fn := Tryd.f56) (c := cd Tryd.f56 []) (by kernel_rfl) (by kernel_rfl) (by kernel_rfl) (Nat.le_of_ble_eq_true rfl) (zq fun K1 hK1 => zr (zg [4] 2 [1,2,4] (zd (hK1 _ _ (zq fun K2 hK2 => zq fun K3 hK3 => ?_)))))
 refine zr (zp [4] 3 [1,2,4,7] [[.s (.bool p1.below), .ro (eI.els p1.d)]] [(1, vi p2), (2, .one (.pv (.rp [[.s (.bool p1.below), .ro (eI.els p1.d)]] 0 0))), (4, .one (.pt 0 0 0 0)), (7, vi ((eI.els p1.d).length : Int))] [.box [cb false, .pv (.s (.slice none 0 0))]] [([[.s (.bool p1.below), .ro (eI.els p1.d)]] : List (List PV))[0]? = some [.s (.bool p1.below), .ro (eI.els p1.d)]] (⟨rfl, trivial⟩) ?_)
 rw [eI.len p1.d]
 refine zg [4] 1 [1,2,4,8] (zd (hK3 _ _ (zc ((p1.d.length : Int) == (0 : Int)) (fun b4 => ?_) (fun b4 => ?_))))
 ·have h := ift_t b4 h
  refine zq fun K5 hK5 => zr (zo [4] 2 [4] [(ref1_tens_a1 p1)] [([(ref1_tens_a1 p1)] : List (List PV))[0]? = some (ref1_tens_a1 p1)] (⟨rfl, trivial⟩) (zd (hK5 _ _ (ze ?_))))
  obtain rfl := Option.some.inj h
  exact zf [.ag [cb p1.below, cl eI p1.d]] (.ag (.cons (.rfl _ rfl) (.cons (.rfl _ rfl) .nil)))
 ·have h := ift_f b4 h
  refine zs (hK2 _ _ (zq fun K6 hK6 => ?_))
  obtain ⟨g8, h⟩ := grd_some h
  obtain ⟨g9, h⟩ := grd_some h
  refine XW.sub (Sub.dead 1) ?_
  refine XW.drwG 7 [1, 2] [([], []), ([], []), ([], []), ([1], [1]), ([], []), ([], []), ([1], [1])] [(16, .one (.sl 1 1 0 (((List.replicate p2.toNat (0 : Int)) ++ p1.d).length))), (15, vl eI p1.d), (14, .one (.pv (.rp [(ref1_tens_a1 p1)] 0 1))), (13, .j), (12, vi p2), (11, vb p1.below), (10, .one (.pv (.rp [(ref1_tens_a1 p1)] 0 0))), (1, vi p2), (2, .one (.pv (.rp [(ref1_tens_a1 p1)] 0 0))), (4, .one (.pt 0 0 0 0)), (8, vb ((p1.d.length : Int) == (0 : Int)))] [.box [cb false, .pv (.s (.slice none 0 0))], .arr 1 (eI.els ((List.replicate p2.toNat (0 : Int)) ++ p1.d))] (by kernel_rfl) (by kernel_rfl) ?_ ?_
  ·refine GY.go 3 [(ref1_tens_a1 p1)] [(12, vi p2), (11, vb p1.below), (10, .one (.pv (.rp [(ref1_tens_a1 p1)] 0 0))), (1, vi p2), (2, .one (.pv (.rp [(ref1_tens_a1 p1)] 0 0))), (4, .one (.pt 0 0 0 0)), (8, vb ((p1.d.length : Int) == (0 : Int)))] [([(ref1_tens_a1 p1)] : List (List PV))[0]? = some (ref1_tens_a1 p1)] (by kernel_rfl) (⟨rfl, trivial⟩) ?_
   refine GY.new false 1 [] [(13, .one (.sl 1 1 0 p2.toNat)), (12, vi p2), (11, vb p1.below), (10, .one (.pv (.rp [[.s (.bool p1.below), .ro (eI.els p1.d)]] 0 0))), (1, vi p2), (2, .one (.pv (.rp [[.s (.bool p1.below), .ro (eI.els p1.d)]] 0 0))), (4, .one (.pt 0 0 0 0)), (8, vb ((p1.d.length : Int) == (0 : Int)))] [1] [.box [cb false, .pv (.s (.slice none 0 0))], .arr 1 (List.replicate p2.toNat [pi (0 : Int)])] [0 ≤ p2, p2 ≤ p2, p2 ≤ 4294967296] (by kernel_rfl) (by kernel_rfl) (⟨g8.1, g8.2.1, g8.2.2, trivial⟩) ?_
   rw [show List.replicate p2.toNat [pi (0 : Int)] = eI.els (List.replicate p2.toNat (0 : Int)) from eI.rep _ (0 : Int)]
   refine GY.go 2 [(ref1_tens_a1 p1)] [(15, vl eI p1.d), (14, .one (.pv (.rp [(ref1_tens_a1 p1)] 0 1))), (13, .one (.sl 1 1 0 p2.toNat)), (12, vi p2), (11, vb p1.below), (10, .one (.pv (.rp [(ref1_tens_a1 p1)] 0 0))), (1, vi p2), (2, .one (.pv (.rp [(ref1_tens_a1 p1)] 0 0))), (4, .one (.pt 0 0 0 0)), (8, vb ((p1.d.length : Int) == (0 : Int)))] [([(ref1_tens_a1 p1)] : List (List PV))[0]? = some (ref1_tens_a1 p1)] (by kernel_rfl) (⟨rfl, trivial⟩) ?_
   refine GY.wr [] [(16, .one (.sl 1 1 0 (p2.toNat + (eI.els p1.d).length))), (15, vl eI p1.d), (14, .one (.pv (.rp [[.s (.bool p1.below), .ro (eI.els p1.d)]] 0 1))), (13, .j), (12, vi p2), (11, vb p1.below), (10, .one (.pv (.rp [[.s (.bool p1.below), .ro (eI.els p1.d)]] 0 0))), (1, vi p2), (2, .one (.pv (.rp [[.s (.bool p1.below), .ro (eI.els p1.d)]] 0 0))), (4, .one (.pt 0 0 0 0)), (8, vb ((p1.d.length : Int) == (0 : Int)))] [1] [.box [cb false, .pv (.s (.slice none 0 0))], .arr 1 (eI.els (List.replicate p2.toNat (0 : Int)) ++ eI.els p1.d)] [elemsOk 1 (eI.els p1.d), p2.toNat = (eI.els (List.replicate p2.toNat (0 : Int))).length, p2.toNat + (eI.els p1.d).length ≤ 4294967296] (by kernel_rfl) (by kernel_rfl) (⟨eI.ok _, (by simp [Enc.len]), (by simp [Enc.len] at *; omega), trivial⟩) ?_
   rw [show p2.toNat + (eI.els p1.d).length = ((List.replicate p2.toNat (0 : Int)) ++ p1.d).length from (by simp [Enc.len] <;> omega)]
   rw [show eI.els (List.replicate p2.toNat (0 : Int)) ++ eI.els p1.d = eI.els ((List.replicate p2.toNat (0 : Int)) ++ p1.d) from eI.app2 _ _]
   exact GY.done (by kernel_rfl) (by kernel_rfl)
  refine zp [4] 2 [4] [] [(4, .one (.pt 0 0 0 0))] [.box [cb p1.below, .sl 1 1 0 (((List.replicate p2.toNat (0 : Int)) ++ p1.d).length)], .arr 1 (eI.els ((List.replicate p2.toNat (0 : Int)) ++ p1.d))] [] trivial (zd (hK6 _ _ (ze ?_)))
  obtain rfl := Option.some.inj h
  exact zf [.ag [cb p1.below, .sl 1 1 0 (((List.replicate p2.toNat (0 : Int)) ++ p1.d).length)]] (.ag (.cons (.rfl _ rfl) (.cons (cf_sl eI ((List.replicate p2.toNat (0 : Int)) ++ p1.d) rfl rfl rfl) .nil)))

def ref1_cut_j3 (x3 : List Int) (z1 : Bool) : Option RWide :=
    some (RWide.mk z1 x3)

def ref1_cut_j2 (p1 : Bool) (x3 : List Int) : Option RWide :=
    ift p1
      (ref1_cut_j3 x3 (decide ((0 : Int) < (x3.length : Int))))
      (ref1_cut_j3 x3 false)

def ref1_cut_j1 (rec1 : List Int → Option RWide) (p1 : Bool) (x1 : List Int) (x2 : Bool) : Option RWide :=
    ift x2
      (grd (0 ≤ (0 : Int) ∧ (0 : Int) ≤ (IntKind.i64.wrap ((x1.length : Int) - (1 : Int))) ∧ (IntKind.i64.wrap ((x1.length : Int) - (1 : Int))) ≤ (x1.length : Int)) <|
       rec1 ((x1.drop (0 : Int).toNat).take ((IntKind.i64.wrap ((x1.length : Int) - (1 : Int))).toNat - (0 : Int).toNat)))
      (ref1_cut_j2 p1 x1)

def ref1_cut_l1 (p1 : Bool) : Nat → List Int → Option RWide
  | 0, _ => none
  | k1 + 1, x1 =>
    ift (decide ((0 : Int) < (x1.length : Int)))
      (bnd (at? x1 (IntKind.i64.wrap ((x1.length : Int) - (1 : Int)))) fun e1 =>
       ref1_cut_j1 (ref1_cut_l1 p1 k1) p1 x1 (e1 == (0 : Int)))
      (ref1_cut_j1 (ref1_cut_l1 p1 k1) p1 x1 false)

def ref1_cut (p1 : Bool) (p2 : (List Int)) : Option RWide :=
    ref1_cut_l1 p1 BIG p2

abbrev ref1_cut_a1 : St := [.box [cb false, .pv (.s (.slice none 0 0))]]

theorem c_ref1_cut (p1 : Bool) (p2 : (List Int)) (r : RWide) (h : ref1_cut p1 p2 = some r) : PC Tryd.prog 102 [vb p1, vl eI p2] (.ag [cb r.below, cl eI r.d]) := by
 unfold ref1_cut at h
 refine PC.of (n := 30) (fn := Tryd.f102) (c := cd Tryd.f102 []) (by kernel_rfl) (by kernel_rfl) (by kernel_rfl) (Nat.le_of_ble_eq_true rfl) (zq fun K1 hK1 => zr (zg [4] 1 [0,1,4] (zd (hK1 _ _ (zq fun K2 hK2 => ?_)))))
 have hJ2 : ∀ (x3 : List Int), ref1_cut_j2 p1 x3 = some r → ∀ fr1 st1, Sub 30 0 [] fr1 st1 [(0, vb p1), (1, vl eI x3), (4, .one (.pt 0 0 0 0))] ref1_cut_a1 → K2 fr1 st1 := by
  intro x3 h fr1 st1 hS
  unfold ref1_cut_j2 at h
  refine hK2 _ _ (XW.sub hS ?_)
  refine zq fun K9 hK9 => ?_
  have hJ3 : ∀ (z1 : Bool), ref1_cut_j3 x3 z1 = some r → ∀ fr1 st1, Sub 30 0 [] fr1 st1 [(4, .one (.pt 0 0 0 0))] [.box [cb z1, cl eI x3]] → K9 fr1 st1 := by
   intro z1 h fr1 st1 hS
   unfold ref1_cut_j3 at h
   refine hK9 _ _ (XW.sub hS ?_)
   refine ze ?_
   obtain rfl := Option.some.inj h
   exact zf [.ag [cb z1, cl eI x3]] (.ag (.cons (.rfl _ rfl) (.cons (.rfl _ rfl) .nil)))
  rcases Bool.eq_false_or_eq_true p1 with b10 | b10
  ·have h := ift_t b10 h
   refine zr (zg [4] 2 [1,4,23] (zt 23 b10 (zp [4] 2 [1,4,23,25] [] [(1, vl eI x3), (4, .one (.pt 0 0 0 0)), (23, vb true), (25, vi ((eI.els x3).length : Int))] [.box [cb false, .pv (.s (.slice none 0 0))]] [] trivial ?_)))
   rw [eI.len x3]
   exact zg [4] 5 [4] (zd (hJ3 (decide ((0 : Int) < (x3.length : Int))) h _ _ (zk [4])))
  ·have h := ift_f b10 h
   exact zr (zg [4] 2 [1,4,23] (zt 23 b10 (zp [4] 7 [4] [] [(4, .one (.pt 0 0 0 0))] [.box [cb false, cl eI x3]] [] trivial (zd (hJ3 false h _ _ (zk [4]))))))
 refine zb 0 (XW.rounds' BIG (x := cd Tryd.f102 [1,0,0,0]) (by kernel_rfl) fun Q1 hQ1 => ?_)
 have hL1 : ∀ (k1 : Nat) (x1 : List Int), ref1_cut_l1 p1 k1 x1 = some r → XR Tryd.prog 30 0 [] (cd Tryd.f102 [1,0,0,0]) Q1 k1 [(0, vb p1), (1, vl eI x1), (4, .one (.pt 0 0 0 0))] ref1_cut_a1 := by
  intro k1
  induction k1 with
  | zero => intro x1 h; rw [ref1_cut_l1.eq_1] at h; cases h
  | succ k1 ih1 =>
   intro x1 h
   rw [ref1_cut_l1.eq_2] at h
   refine zq fun K3 hK3 => zq fun K4 hK4 => ?_
   have hJ1 : ∀ (x2 : Bool), ref1_cut_j1 (ref1_cut_l1 p1 k1) p1 x1 x2 = some r → ∀ fr1 st1, Sub 30 0 [] fr1 st1 [(0, vb p1), (1, vl eI x1), (4, .one (.pt 0 0 0 0)), (16, vb x2)] ref1_cut_a1 → K4 fr1 st1 := by
    intro x2 h fr1 st1 hS
    unfold ref1_cut_j1 at h
    refine hK4 _ _ (XW.sub hS ?_)
    refine zc x2 (fun b7 => ?_) (fun b7 => ?_)
    ·have h := ift_t b7 h
     refine zs (hK3 _ _ (zb 1 ?_))
     obtain ⟨g8, h⟩ := grd_some h
     refine zr (zp [4] 3 [0,4,17,19] [] [(0, vb p1), (4, .one (.pt 0 0 0 0)), (17, vl eI x1), (19, vi ((eI.els x1).length : Int))] [.box [cb false, .pv (.s (.slice none 0 0))]] [] trivial ?_)
     rw [eI.len x1]
     refine zp [4] 2 [0,4,21] [] [(0, vb p1), (4, .one (.pt 0 0 0 0)), (21, .one (.pv (.ro (((eI.els x1).drop (0 : Int).toNat).take ((IntKind.i64.wrap ((x1.length : Int) - (1 : Int))).toNat - (0 : Int).toNat)))))] [.box [cb false, .pv (.s (.slice none 0 0))]] [(0 ≤ (0 : Int) ∧ (0 : Int) ≤ (IntKind.i64.wrap ((x1.length : Int) - (1 : Int))) ∧ (IntKind.i64.wrap ((x1.length : Int) - (1 : Int))) ≤ ((eI.els x1).length : Int)) ∧ elemsOk 1 (eI.els x1)] (⟨eI.cutOk g8, trivial⟩) ?_
     rw [show ((eI.els x1).drop (0 : Int).toNat).take ((IntKind.i64.wrap ((x1.length : Int) - (1 : Int))).toNat - (0 : Int).toNat) = eI.els ((x1.drop (0 : Int).toNat).take ((IntKind.i64.wrap ((x1.length : Int) - (1 : Int))).toNat - (0 : Int).toNat)) from eI.cut _ _ _]
     exact zg [4] 1 [0,1,4] (zd (XR.sub (zk [0,1,4]) (ih1 ((x1.drop (0 : Int).toNat).take ((IntKind.i64.wrap ((x1.length : Int) - (1 : Int))).toNat - (0 : Int).toNat)) h)))
    ·have h := ift_f b7 h
     exact zx 0 (hQ1 _ _ _ (hJ2 x1 h _ _ (zk [0,1,4])))
   rcases Bool.eq_false_or_eq_true (decide ((0 : Int) < (x1.length : Int))) with b5 | b5
   ·have h := ift_t b5 h
    obtain ⟨e1, a6, h⟩ := bnd_some h
    refine zr (zp [4] 2 [0,1,4,6] [] [(0, vb p1), (1, vl eI x1), (4, .one (.pt 0 0 0 0)), (6, vi ((eI.els x1).length : Int))] [.box [cb false, .pv (.s (.slice none 0 0))]] [] trivial ?_)
    rw [eI.len x1]
    refine zg [4] 2 [0,1,4,8] (zt 8 b5 (zp [4] 3 [0,1,4,8,9,11] [] [(0, vb p1), (1, vl eI x1), (4, .one (.pt 0 0 0 0)), (8, vb true), (9, vl eI x1), (11, vi ((eI.els x1).length : Int))] [.box [cb false, .pv (.s (.slice none 0 0))]] [] trivial ?_))
    rw [eI.len x1]
    exact zo [4] 5 [0,1,4,16] [[pi e1]] [0 ≤ (IntKind.i64.wrap ((x1.length : Int) - (1 : Int))) ∧ (IntKind.i64.wrap ((x1.length : Int) - (1 : Int))) < ((eI.els x1).length : Int) ∧ elemsOk 1 (eI.els x1), (eI.els x1)[(IntKind.i64.wrap ((x1.length : Int) - (1 : Int))).toNat]? = some [pi e1]] (⟨eI.inb a6, (eI.get a6), trivial⟩) (zd (hJ1 (e1 == (0 : Int)) h _ _ (zk [0,1,4,16])))
   ·have h := ift_f b5 h
    refine zr (zp [4] 2 [0,1,4,6] [] [(0, vb p1), (1, vl eI x1), (4, .one (.pt 0 0 0 0)), (6, vi ((eI.els x1).length : Int))] [.box [cb false, .pv (.s (.slice none 0 0))]] [] trivial ?_)
    rw [eI.len x1]
    exact zg [4] 2 [0,1,4,8] (zt 8 b5 (zg [4] 8 [0,1,4,16] (zd (hJ1 false h _ _ (zk [0,1,4,16])))))
 exact XR.sub (zk [0,1,4]) (hL1 BIG p2 h)

def ref1_most_j1 : Option Int :=
    some (0 : Int)

def ref1_most_l1 (p1 : (List Int)) (p2 : (List Int)) : Nat → Int → Option Int
  | 0, _ => none
  | k1 + 1, x1 =>
    ift (decide ((0 : Int) ≤ x1))
      (bnd (at? p1 x1) fun e1 =>
       bnd (at? p2 x1) fun e2 =>
       ift (e1 != e2)
         (some (IntKind.i64.wrap (e1 - e2)))
         ((ref1_most_l1 p1 p2 k1) (IntKind.i64.wrap (x1 - (1 : Int)))))
      (ref1_most_j1)

def ref1_most (p1 : (List Int)) (p2 : (List Int)) : Option Int :=
    ift ((p1.length : Int) != (p2.length : Int))
      (some (IntKind.i64.wrap ((p1.length : Int) - (p2.length : Int))))
      (ref1_most_l1 p1 p2 BIG (IntKind.i64.wrap ((p1.length : Int) - (1 : Int))))

abbrev ref1_most_a1 (p1 : (List Int)) (p2 : (List Int)) (x1 : Int) (e1 : Int) (e2 : Int) : Fr := [(39, vi e2), (38, .one (.pv (.rp (eI.els p2) x1.toNat 0))), (37, vi x1), (36, vl eI p2), (35, vi e1), (34, .one (.pv (.rp (eI.els p1) x1.toNat 0))), (33, vi x1), (32, vl eI p1), (0, vl eI p1), (1, vl eI p2), (5, vi x1), (31, vb (e1 != e2))]

theorem c_ref1_most (p1 : (List Int)) (p2 : (List Int)) (r : Int) (h : ref1_most p1 p2 = some r) : PC Tryd.prog 100 [vl eI p1, vl eI p2] (vi r) := by
 unfold ref1_most at h
 refine PC.of (n := 41) (fn := Tryd.f100) (c := cd Tryd.f100 []) (by kernel_rfl) (by kernel_rfl) (by kernel_rfl) (Nat.le_of_ble_eq_true rfl) (zq fun K1 hK1 => zr (zg [] 1 [0,1] (zd (hK1 _ _ (zq fun K2 hK2 => zq fun K3 hK3 => ?_)))))
 refine zr (zp [] 2 [0,1,7] [] [(0, vl eI p1), (1, vl eI p2), (7, vi ((eI.els p1).length : Int))] [] [] trivial ?_)
 rw [eI.len p1]
 refine zp [] 2 [0,1,7,9] [] [(0, vl eI p1), (1, vl eI p2), (7, vi (p1.length : Int)), (9, vi ((eI.els p2).length : Int))] [] [] trivial ?_
 rw [eI.len p2]
 refine zg [] 1 [0,1,10] (zd (hK3 _ _ (zc ((p1.length : Int) != (p2.length : Int)) (fun b4 => ?_) (fun b4 => ?_))))
 ·have h := ift_t b4 h
  refine zq fun K5 hK5 => zr (zp [] 2 [1,12] [] [(1, vl eI p2), (12, vi ((eI.els p1).length : Int))] [] [] trivial ?_)
  rw [eI.len p1]
  refine zp [] 2 [12,14] [] [(12, vi (p1.length : Int)), (14, vi ((eI.els p2).length : Int))] [] [] trivial ?_
  rw [eI.len p2]
  refine zg [] 2 [4] (zd (hK5 _ _ (ze ?_)))
  obtain rfl := Option.some.inj h
  exact zf [vi (IntKind.i64.wrap ((p1.length : Int) - (p2.length : Int)))] (.one (.rfl _ rfl))
 ·have h := ift_f b4 h
  refine zs (hK2 _ _ (zq fun K6 hK6 => ?_))
  have hJ1 : ∀ (_ : Unit), ref1_most_j1 = some r → ∀ fr1 st1, Sub 41 0 [] fr1 st1 [] [] → K6 fr1 st1 := by
   intro _ h fr1 st1 hS
   unfold ref1_most_j1 at h
   refine hK6 _ _ (XW.sub hS ?_)
   refine zq fun K17 hK17 => zr (zg [] 1 [4] (zd (hK17 _ _ (ze ?_))))
   obtain rfl := Option.some.inj h
   exact zf [vi (0 : Int)] (.one (.rfl _ rfl))
  refine zq fun K7 hK7 => zr (zp [] 2 [0,1,17] [] [(0, vl eI p1), (1, vl eI p2), (17, vi ((eI.els p1).length : Int))] [] [] trivial ?_)
  rw [eI.len p1]
  refine zg [] 2 [0,1,5] (zd (hK7 _ _ (zb 0 (XW.rounds' BIG (x := cd Tryd.f100 [1,1,0,1,0,0]) (by kernel_rfl) fun Q1 hQ1 => ?_))))
  have hL1 : ∀ (k1 : Nat) (x1 : Int), ref1_most_l1 p1 p2 k1 x1 = some r → XR Tryd.prog 41 0 [] (cd Tryd.f100 [1,1,0,1,0,0]) Q1 k1 [(0, vl eI p1), (1, vl eI p2), (5, vi x1)] [] := by
   intro k1
   induction k1 with
   | zero => intro x1 h; rw [ref1_most_l1.eq_1] at h; cases h
   | succ k1 ih1 =>
    intro x1 h
    rw [ref1_most_l1.eq_2] at h
    refine zq fun K8 hK8 => zq fun K9 hK9 => zr (zg [] 2 [0,1,5,20] (zd (hK9 _ _ (zc (decide ((0 : Int) ≤ x1)) (fun b10 => ?_) (fun b10 => ?_)))))
    ·have h := ift_t b10 h
     refine zs (hK8 _ _ (zq fun K11 hK11 => zb 1 (zq fun K12 hK12 => ?_)))
     obtain ⟨e1, a13, h⟩ := bnd_some h
     obtain ⟨e2, a14, h⟩ := bnd_some h
     refine zw 8 [(30, vi e2), (29, .one (.pv (.rp (eI.els p2) x1.toNat 0))), (28, vi x1), (27, vl eI p2), (26, vi e1), (25, .one (.pv (.rp (eI.els p1) x1.toNat 0))), (24, vi x1), (23, vl eI p1), (0, vl eI p1), (1, vl eI p2), (5, vi x1), (20, vb (decide ((0 : Int) ≤ x1)))] ?_ ?_
     ·exact zyo 8 [[pi e1], [pi e2]] [0 ≤ x1 ∧ x1 < ((eI.els p1).length : Int) ∧ elemsOk 1 (eI.els p1), (eI.els p1)[x1.toNat]? = some [pi e1], 0 ≤ x1 ∧ x1 < ((eI.els p2).length : Int) ∧ elemsOk 1 (eI.els p2), (eI.els p2)[x1.toNat]? = some [pi e2]] (⟨eI.inb a13, (eI.get a13), eI.inb a14, (eI.get a14), trivial⟩) zyd
     refine zg [] 1 [0,1,5,31] (zd (hK12 _ _ (zc (e1 != e2) (fun b15 => ?_) (fun b15 => ?_))))
     ·have h := ift_t b15 h
      refine zq fun K16 hK16 => zw 8 (ref1_most_a1 p1 p2 x1 e1 e2) ?_ ?_
      ·exact DX.go 8 [[pi e1], [pi e2]] (ref1_most_a1 p1 p2 x1 e1 e2) [0 ≤ x1 ∧ x1 < ((eI.els p1).length : Int) ∧ elemsOk 1 (eI.els p1), (eI.els p1)[x1.toNat]? = some [pi e1], 0 ≤ x1 ∧ x1 < ((eI.els p2).length : Int) ∧ elemsOk 1 (eI.els p2), (eI.els p2)[x1.toNat]? = some [pi e2]] (by kernel_rfl) (⟨eI.inb a13, (eI.get a13), eI.inb a14, (eI.get a14), trivial⟩) zyd
      refine zp [] 2 [4] [] [(4, vi (IntKind.i64.wrap (e1 - e2)))] [] [] trivial (zd (hK16 _ _ (ze (hQ1 _ _ _ ?_))))
      obtain rfl := Option.some.inj h
      exact zf [vi (IntKind.i64.wrap (e1 - e2))] (.one (.rfl _ rfl))
     ·have h := ift_f b15 h
      exact zs (hK11 _ _ (zr (zg [] 3 [0,1,5] (zd (XR.sub (zk [0,1,5]) (ih1 (IntKind.i64.wrap (x1 - (1 : Int))) h))))))
    ·have h := ift_f b10 h
     exact zx 0 (hQ1 _ _ _ (hJ1 () h _ _ (zk [])))
  exact XR.sub (zk [0,1,5]) (hL1 BIG (IntKind.i64.wrap ((p1.length : Int) - (1 : Int))) h)

def ref1_minus_j2 (rec1 : List Int → Int → Int → Option (List Int)) (l1 : List Int) (x2 : Int) (x4 : Int) (x5 : Int) : Option (List Int) :=
    grd (l1.length + 1 ≤ 4294967296) <|
    rec1 (l1 ++ [x5]) x4 (IntKind.i64.wrap (x2 + (1 : Int)))

def ref1_minus_j1 (rec1 : List Int → Int → Int → Option (List Int)) (l1 : List Int) (x2 : Int) (x3 : Int) : Option (List Int) :=
    ift (decide (x3 < (0 : Int)))
      (ref1_minus_j2 rec1 l1 x2 (1 : Int) (IntKind.i64.wrap (x3 + (10 : Int))))
      (ref1_minus_j2 rec1 l1 x2 (0 : Int) x3)

def ref1_minus_j3 (l2 : List Int) : Option (List Int) :=
    bnd (ref1_cut false l2) fun r1 =>
    some r1.d

def ref1_minus_l1 (p1 : (List Int)) (p2 : (List Int)) : Nat → List Int → Int → Int → Option (List Int)
  | 0, _, _, _ => none
  | k1 + 1, l1, x1, x2 =>
    ift (decide (x2 < (p1.length : Int)))
      (bnd (at? p1 x2) fun e1 =>
       ift (decide (x2 < (p2.length : Int)))
         (bnd (at? p2 x2) fun e2 =>
          ref1_minus_j1 (ref1_minus_l1 p1 p2 k1) l1 x2 (IntKind.i64.wrap ((IntKind.i64.wrap (e1 - x1)) - e2)))
         (ref1_minus_j1 (ref1_minus_l1 p1 p2 k1) l1 x2 (IntKind.i64.wrap (e1 - x1))))
      (ref1_minus_j3 l1)

def ref1_minus (p1 : (List Int)) (p2 : (List Int)) : Option (List Int) :=
    ref1_minus_l1 p1 p2 BIG [] (0 : Int) (0 : Int)


theorem c_ref1_minus (p1 : (List Int)) (p2 : (List Int)) (r : (List Int)) (h : ref1_minus p1 p2 = some r) : PC Tryd.prog 119 [vl eI p1, vl eI p2] (vl eI r) := by
 unfold ref1_minus at h
 refine PC.of (n := 42) (fn := Tryd.f119) (c := cd Tryd.f119 []) (by kernel_rfl) (by kernel_rfl) (by kernel_rfl) (Nat.le_of_ble_eq_true rfl) (zq fun K1 hK1 => zr (zg [] 1 [0,1] (zd (hK1 _ _ (zq fun K2 hK2 => zr ?_)))))
 refine zg [] 1 [0,1,5] (zd (hK2 _ _ (zq fun K3 hK3 => zr (zp [] 1 [0,1,5,6] [] [(0, vl eI p1), (1, vl eI p2), (5, .one (.pv (.s (.slice none 0 0)))), (6, vi (0 : Int))] [] [] trivial (zd (hK3 _ _ ?_))))))
 refine zq fun K4 hK4 => ?_
 have hJ3 : ∀ (l2 : List Int), ref1_minus_j3 l2 = some r → ∀ fr1 st1, Sub 42 0 [] fr1 st1 [(5, .one (.sl 0 1 0 l2.length))] [.arr 1 (eI.els l2)] → K4 fr1 st1 := by
  intro l2 h fr1 st1 hS
  unfold ref1_minus_j3 at h
  refine hK4 _ _ (XW.sub hS ?_)
  refine zq fun K22 hK22 => ?_
  obtain ⟨r1, c23, h⟩ := bnd_some h
  refine zr (zp [] 1 [39] [] [(39, .one (.sl 0 1 0 l2.length))] [.arr 1 (eI.els l2)] [] trivial (XO.sub (Sub.kill (fr' := [(39, vl eI l2)]) 0 (Nat.zero_le _) (by kernel_rfl) ⟨.one (cf_sl eI l2 rfl rfl rfl), trivial⟩) (za (c_ref1_cut _ _ _ c23) (zg [] 2 [4] (zd (hK22 _ _ (ze ?_)))))))
  obtain rfl := Option.some.inj h
  exact zf [vl eI r1.d] (.one (.rfl _ rfl))
 refine zq fun K5 hK5 => zr (zp [] 2 [0,1,5,6,10] [] [(0, vl eI p1), (1, vl eI p2), (5, .one (.pv (.s (.slice none 0 0)))), (6, vi (0 : Int)), (10, vi ((eI.els p1).length : Int))] [] [] trivial ?_)
 rw [eI.len p1]
 refine zp [] 1 [0,1,5,6,10,11] [] [(0, vl eI p1), (1, vl eI p2), (5, .one (.pv (.s (.slice none 0 0)))), (6, vi (0 : Int)), (10, vi (p1.length : Int)), (11, vi (0 : Int))] [] [] trivial (zd (hK5 _ _ (zb 0 (XW.sub (Sub.list (t := 5) (sz := 1) rfl) (XW.rounds' BIG (x := cd Tryd.f119 [1,1,1,0,1,0,0]) (by kernel_rfl) fun Q1 hQ1 => ?_)))))
 have hL1 : ∀ (k1 : Nat) (l1 : List Int) (x1 : Int) (x2 : Int), ref1_minus_l1 p1 p2 k1 l1 x1 x2 = some r → XR Tryd.prog 42 0 [] (cd Tryd.f119 [1,1,1,0,1,0,0]) Q1 k1 [(0, vl eI p1), (1, vl eI p2), (5, .one (.sl 0 1 0 l1.length)), (6, vi x1), (10, vi (p1.length : Int)), (11, vi x2)] [.arr 1 (eI.els l1)] := by
  intro k1
  induction k1 with
  | zero => intro l1 x1 x2 h; rw [ref1_minus_l1.eq_1] at h; cases h
  | succ k1 ih1 =>
   intro l1 x1 x2 h
   rw [ref1_minus_l1.eq_2] at h
   refine zq fun K6 hK6 => zr (zg [] 1 [0,1,5,6,10,11,12] (zd (hK6 _ _ (zq fun K7 hK7 => zc (decide (x2 < (p1.length : Int))) (fun b8 => ?_) (fun b8 => ?_)))))
   ·have h := ift_t b8 h
    refine zs (hK7 _ _ (zq fun K9 hK9 => zb 1 (zq fun K10 hK10 => zr (zg [] 2 [0,1,5,6,7,10,11] (zd ?_)))))
    refine hK10 _ _ (zq fun K11 hK11 => ?_)
    obtain ⟨e1, a12, h⟩ := bnd_some h
    refine zr (zp [] 7 [0,1,5,7,8,10,11] [[pi e1]] [(0, vl eI p1), (1, vl eI p2), (5, .one (.sl 0 1 0 l1.length)), (7, vi x2), (8, vi (IntKind.i64.wrap (e1 - x1))), (10, vi (p1.length : Int)), (11, vi x2)] [.arr 1 (eI.els l1)] [0 ≤ x2 ∧ x2 < ((eI.els p1).length : Int) ∧ elemsOk 1 (eI.els p1), (eI.els p1)[x2.toNat]? = some [pi e1]] (⟨eI.inb a12, (eI.get a12), trivial⟩) (zd (hK11 _ _ (zq fun K13 hK13 => ?_))))
    have hJ1 : ∀ (x3 : Int), ref1_minus_j1 (ref1_minus_l1 p1 p2 k1) l1 x2 x3 = some r → ∀ fr1 st1, Sub 42 0 [] fr1 st1 [(0, vl eI p1), (1, vl eI p2), (5, .one (.sl 0 1 0 l1.length)), (8, vi x3), (10, vi (p1.length : Int)), (11, vi x2)] [.arr 1 (eI.els l1)] → K13 fr1 st1 := by
     intro x3 h fr1 st1 hS
     unfold ref1_minus_j1 at h
     refine hK13 _ _ (XW.sub hS ?_)
     refine zq fun K17 hK17 => zr (zg [] 1 [0,1,5,6,8,10,11] (zd (hK17 _ _ (zq fun K18 hK18 => ?_))))
     have hJ2 : ∀ (x4 : Int) (x5 : Int), ref1_minus_j2 (ref1_minus_l1 p1 p2 k1) l1 x2 x4 x5 = some r → ∀ fr1 st1, Sub 42 0 [] fr1 st1 [(0, vl eI p1), (1, vl eI p2), (5, .one (.sl 0 1 0 l1.length)), (6, vi x4), (8, vi x5), (10, vi (p1.length : Int)), (11, vi x2)] [.arr 1 (eI.els l1)] → K18 fr1 st1 := by
      intro x4 x5 h fr1 st1 hS
      unfold ref1_minus_j2 at h
      refine hK18 _ _ (XW.sub hS ?_)
      obtain ⟨g21, h⟩ := grd_some h
      refine zr (zp [] 4 [0,1,6,10,11,37] [] [(0, vl eI p1), (1, vl eI p2), (6, vi x4), (10, vi (p1.length : Int)), (11, vi x2), (37, .one (.sl 0 1 0 (l1.length + (eI.els [x5]).length)))] [.arr 1 (eI.els l1 ++ eI.els [x5])] [elemsOk 1 (eI.els [x5]), l1.length = (eI.els l1).length, l1.length + (eI.els [x5]).length ≤ 4294967296] (⟨eI.ok _, (eI.len l1).symm, g21, trivial⟩) ?_)
      rw [show l1.length + (eI.els [x5]).length = (l1 ++ [x5]).length from eI.lapp _ _]
      rw [show eI.els l1 ++ eI.els [x5] = eI.els (l1 ++ [x5]) from eI.app2 _ _]
      exact zg [] 1 [0,1,5,6,10,11] (zd (hK9 _ _ (zr (zg [] 2 [0,1,5,6,10,11] (zd (XR.sub (zk [0,1,5,6,10,11]) (ih1 (l1 ++ [x5]) x4 (IntKind.i64.wrap (x2 + (1 : Int))) h)))))))
     refine zq fun K19 hK19 => zr (zg [] 2 [0,1,5,6,8,10,11,31] (zd (hK19 _ _ (zc (decide (x3 < (0 : Int))) (fun b20 => ?_) (fun b20 => ?_)))))
     ·have h := ift_t b20 h
      exact zr (zp [] 4 [0,1,5,6,8,10,11] [] [(0, vl eI p1), (1, vl eI p2), (5, .one (.sl 0 1 0 l1.length)), (6, vi (1 : Int)), (8, vi (IntKind.i64.wrap (x3 + (10 : Int)))), (10, vi (p1.length : Int)), (11, vi x2)] [.arr 1 (eI.els l1)] [] trivial (zd (hJ2 (1 : Int) (IntKind.i64.wrap (x3 + (10 : Int))) h _ _ (zk [0,1,5,6,8,10,11]))))
     ·have h := ift_f b20 h
      exact zs (hJ2 (0 : Int) x3 h _ _ (zk [0,1,5,6,8,10,11]))
    refine zq fun K14 hK14 => zr (zp [] 3 [0,1,5,7,8,10,11,20,22] [] [(0, vl eI p1), (1, vl eI p2), (5, .one (.sl 0 1 0 l1.length)), (7, vi x2), (8, vi (IntKind.i64.wrap (e1 - x1))), (10, vi (p1.length : Int)), (11, vi x2), (20, vi x2), (22, vi ((eI.els p2).length : Int))] [.arr 1 (eI.els l1)] [] trivial ?_)
    rw [eI.len p2]
    refine zg [] 1 [0,1,5,7,8,10,11,23] (zd (hK14 _ _ (zc (decide (x2 < (p2.length : Int))) (fun b15 => ?_) (fun b15 => ?_))))
    ·have h := ift_t b15 h
     obtain ⟨e2, a16, h⟩ := bnd_some h
     exact zr (zo [] 7 [0,1,5,8,10,11] [[pi e2]] [0 ≤ x2 ∧ x2 < ((eI.els p2).length : Int) ∧ elemsOk 1 (eI.els p2), (eI.els p2)[x2.toNat]? = some [pi e2]] (⟨eI.inb a16, (eI.get a16), trivial⟩) (zd (hJ1 (IntKind.i64.wrap ((IntKind.i64.wrap (e1 - x1)) - e2)) h _ _ (zk [0,1,5,8,10,11]))))
    ·have h := ift_f b15 h
     exact zs (hJ1 (IntKind.i64.wrap (e1 - x1)) h _ _ (zk [0,1,5,8,10,11]))
   ·have h := ift_f b8 h
    exact zx 0 (hQ1 _ _ _ (hJ3 l1 h _ _ (zk [5])))
 exact XR.sub (zk [0,1,5,6,10,11]) (hL1 BIG [] (0 : Int) (0 : Int) h)

def ref1_divide_j1 (rec1 : List Int → List Int → Int → Option ((List Int) × (List Int))) (x2 : Int) (l3 : List Int) (x4 : List Int) : Option ((List Int) × (List Int)) :=
    rec1 l3 x4 (IntKind.i64.wrap (x2 - (1 : Int)))

def ref1_divide_l2 (rec1 : List Int → List Int → Int → Option ((List Int) × (List Int))) (p2 : (List Int)) (x2 : Int) : Nat → List Int → List Int → Option ((List Int) × (List Int))
  | 0, _, _ => none
  | k2 + 1, l2, x3 =>
    bnd (ref1_most x3 p2) fun r2 =>
    ift (decide ((0 : Int) ≤ r2))
      (bnd (ref1_minus x3 p2) fun r3 =>
       bnd (at? l2 x2) fun e2 =>
       (ref1_divide_l2 rec1 p2 x2 k2) (l2.set x2.toNat (IntKind.i64.wrap (e2 + (1 : Int)))) r3)
      (ref1_divide_j1 rec1 x2 l2 x3)

def ref1_divide_j2 (l4 : List Int) (x5 : List Int) : Option ((List Int) × (List Int)) :=
    bnd (ref1_cut false l4) fun r4 =>
    some (r4.d, x5)

def ref1_divide_l1 (p1 : (List Int)) (p2 : (List Int)) : Nat → List Int → List Int → Int → Option ((List Int) × (List Int))
  | 0, _, _, _ => none
  | k1 + 1, l1, x1, x2 =>
    ift (decide ((0 : Int) ≤ x2))
      (bnd (at? p1 x2) fun e1 =>
       grd ([e1].length + x1.length ≤ 4294967296) <|
       bnd (ref1_cut false ([e1] ++ x1)) fun r1 =>
       ref1_divide_l2 (ref1_divide_l1 p1 p2 k1) p2 x2 BIG l1 r1.d)
      (ref1_divide_j2 l1 x1)

def ref1_divide (p1 : (List Int)) (p2 : (List Int)) : Option ((List Int) × (List Int)) :=
    grd (0 ≤ (p1.length : Int) ∧ (p1.length : Int) ≤ (p1.length : Int) ∧ (p1.length : Int) ≤ 4294967296) <|
    ref1_divide_l1 p1 p2 BIG (List.replicate (p1.length : Int).toNat (0 : Int)) [] (IntKind.i64.wrap ((p1.length : Int) - (1 : Int)))


theorem c_ref1_divide (p1 : (List Int)) (p2 : (List Int)) (r : ((List Int) × (List Int))) (h : ref1_divide p1 p2 = some r) : PC Tryd.prog 99 [vl eI p1, vl eI p2] (.tp [vl eI r.1, vl eI r.2]) := by
 unfold ref1_divide at h
 refine PC.of (n := 43) (fn := Tryd.f99) (c := cd Tryd.f99 []) (by kernel_rfl) (by kernel_rfl) (by kernel_rfl) (Nat.le_of_ble_eq_true rfl) (zq fun K1 hK1 => zr (zg [21] 2 [0,1,5] (zd (hK1 _ _ (zq fun K2 hK2 => ?_)))))
 obtain ⟨g4, h⟩ := grd_some h
 refine zr (zp [21] 2 [0,1,5,8] [] [(0, vl eI p1), (1, vl eI p2), (5, .one (.pv (.s (.slice none 0 0)))), (8, vi ((eI.els p1).length : Int))] [] [] trivial ?_)
 rw [eI.len p1]
 refine zp [21] 1 [0,1,5,9] [] [(0, vl eI p1), (1, vl eI p2), (5, .one (.pv (.s (.slice none 0 0)))), (9, .one (.sl 0 1 0 ((p1.length : Int).toNat)))] [.arr 1 (List.replicate (p1.length : Int).toNat [pi (0 : Int)])] [0 ≤ (p1.length : Int), (p1.length : Int) ≤ (p1.length : Int), (p1.length : Int) ≤ 4294967296] (⟨g4.1, g4.2.1, g4.2.2, trivial⟩) ?_
 rw [show List.replicate (p1.length : Int).toNat [pi (0 : Int)] = eI.els (List.replicate (p1.length : Int).toNat (0 : Int)) from eI.rep _ (0 : Int)]
 refine zg [21] 1 [0,1,4,5] (zd (hK2 _ _ (zq fun K5 hK5 => ?_)))
 have hJ2 : ∀ (l4 : List Int) (x5 : List Int), ref1_divide_j2 l4 x5 = some r → ∀ fr1 st1, Sub 43 0 [] fr1 st1 [(4, .one (.sl 0 1 0 l4.length)), (5, vl eI x5)] [.arr 1 (eI.els l4)] → K5 fr1 st1 := by
  intro l4 x5 h fr1 st1 hS
  unfold ref1_divide_j2 at h
  refine hK5 _ _ (XW.sub hS ?_)
  refine zq fun K22 hK22 => ?_
  obtain ⟨r4, c23, h⟩ := bnd_some h
  refine zr (zp [21] 1 [5,39] [] [(5, vl eI x5), (39, .one (.sl 0 1 0 l4.length))] [.arr 1 (eI.els l4)] [] trivial (XO.sub (Sub.kill (fr' := [(5, vl eI x5), (39, vl eI l4)]) 0 (Nat.zero_le _) (by kernel_rfl) ⟨.one (.rfl _ rfl), .one (cf_sl eI l4 rfl rfl rfl), trivial⟩) (za (c_ref1_cut _ _ _ c23) (zg [21] 4 [4,5] (zd (hK22 _ _ (ze ?_)))))))
  obtain rfl := Option.some.inj h
  exact zf [vl eI r4.d, vl eI x5] (.tpc (.one (.rfl _ rfl)) (.tpc (.one (.rfl _ rfl)) (.tp0)))
 refine zq fun K6 hK6 => zr (zp [21] 2 [0,1,4,5,11] [] [(0, vl eI p1), (1, vl eI p2), (4, .one (.sl 0 1 0 ((p1.length : Int).toNat))), (5, .one (.pv (.s (.slice none 0 0)))), (11, vi ((eI.els p1).length : Int))] [.arr 1 (eI.els (List.replicate (p1.length : Int).toNat (0 : Int)))] [] trivial ?_)
 rw [eI.len p1]
 refine zg [21] 2 [0,1,4,5,6] (zd (hK6 _ _ (zb 0 (XW.rounds' BIG (x := cd Tryd.f99 [1,1,0,1,0,0]) (by kernel_rfl) fun Q1 hQ1 => ?_))))
 have hL1 : ∀ (k1 : Nat) (l1 : List Int) (x1 : List Int) (x2 : Int), ref1_divide_l1 p1 p2 k1 l1 x1 x2 = some r → XR Tryd.prog 43 0 [] (cd Tryd.f99 [1,1,0,1,0,0]) Q1 k1 [(0, vl eI p1), (1, vl eI p2), (4, .one (.sl 0 1 0 l1.length)), (5, vl eI x1), (6, vi x2)] [.arr 1 (eI.els l1)] := by
  intro k1
  induction k1 with
  | zero => intro l1 x1 x2 h; rw [ref1_divide_l1.eq_1] at h; cases h
  | succ k1 ih1 =>
   intro l1 x1 x2 h
   rw [ref1_divide_l1.eq_2] at h
   refine zq fun K7 hK7 => zq fun K8 hK8 => zr (zg [21] 2 [0,1,4,5,6,14] (zd (hK8 _ _ (zc (decide ((0 : Int) ≤ x2)) (fun b9 => ?_) (fun b9 => ?_)))))
   ·have h := ift_t b9 h
    refine zs (hK7 _ _ (zq fun K10 hK10 => ?_))
    have hJ1 : ∀ (l3 : List Int) (x4 : List Int), ref1_divide_j1 (ref1_divide_l1 p1 p2 k1) x2 l3 x4 = some r → ∀ fr1 st1, Sub 43 0 [] fr1 st1 [(0, vl eI p1), (1, vl eI p2), (4, .one (.sl 0 1 0 l3.length)), (5, vl eI x4), (6, vi x2)] [.arr 1 (eI.els l3)] → K10 fr1 st1 := by
     intro l3 x4 h fr1 st1 hS
     unfold ref1_divide_j1 at h
     refine hK10 _ _ (XW.sub hS ?_)
     exact zr (zg [21] 3 [0,1,4,5,6] (zd (XR.sub (zk [0,1,4,5,6]) (ih1 l3 x4 (IntKind.i64.wrap (x2 - (1 : Int))) h))))
    refine zb 1 (zq fun K11 hK11 => ?_)
    obtain ⟨e1, a12, h⟩ := bnd_some h
    obtain ⟨g13, h⟩ := grd_some h
    obtain ⟨r1, c14, h⟩ := bnd_some h
    refine zr (zp [21] 7 [0,1,4,6,23] [[pi e1]] [(0, vl eI p1), (1, vl eI p2), (4, .one (.sl 0 1 0 l1.length)), (6, vi x2), (23, .one (.sl 1 1 0 (1 + (eI.els x1).length)))] [.arr 1 (eI.els l1), .arr 1 (eI.els [e1] ++ eI.els x1)] [0 ≤ x2 ∧ x2 < ((eI.els p1).length : Int) ∧ elemsOk 1 (eI.els p1), (eI.els p1)[x2.toNat]? = some [pi e1], elemsOk 1 (eI.els x1), 1 = (eI.els [e1]).length, 1 + (eI.els x1).length ≤ 4294967296] (⟨eI.inb a12, (eI.get a12), eI.ok _, (by simp [Enc.len]), (by simp [Enc.len] at *; omega), trivial⟩) ?_)
    rw [show 1 + (eI.els x1).length = ([e1] ++ x1).length from (by simp [Enc.len] <;> omega)]
    rw [show eI.els [e1] ++ eI.els x1 = eI.els ([e1] ++ x1) from eI.app2 _ _]
    refine XO.sub (Sub.kill (fr' := [(0, vl eI p1), (1, vl eI p2), (4, .one (.sl 0 1 0 l1.length)), (6, vi x2), (23, vl eI ([e1] ++ x1))]) 1 (Nat.zero_le _) (by kernel_rfl) ⟨.one (.rfl _ rfl), .one (.rfl _ rfl), .one (.rfl _ rfl), .one (.rfl _ rfl), .one (cf_sl eI ([e1] ++ x1) rfl rfl rfl), trivial⟩) (za (c_ref1_cut _ _ _ c14) (zg [21] 2 [0,1,4,5,6] (zd (hK11 _ _ (zb 2 (XW.rounds' BIG (x := cd Tryd.f99 [1,1,0,1,0,0,1,0,0,1,0,0]) (by kernel_rfl) fun Q2 hQ2 => ?_))))))
    have hL2 : ∀ (k2 : Nat) (l2 : List Int) (x3 : List Int), ref1_divide_l2 (ref1_divide_l1 p1 p2 k1) p2 x2 k2 l2 x3 = some r → XR Tryd.prog 43 0 [] (cd Tryd.f99 [1,1,0,1,0,0,1,0,0,1,0,0]) Q2 k2 [(0, vl eI p1), (1, vl eI p2), (4, .one (.sl 0 1 0 l2.length)), (5, vl eI x3), (6, vi x2)] [.arr 1 (eI.els l2), .dead] := by
     intro k2
     induction k2 with
     | zero => intro l2 x3 h; rw [ref1_divide_l2.eq_1] at h; cases h
     | succ k2 ih2 =>
      intro l2 x3 h
      rw [ref1_divide_l2.eq_2] at h
      refine zq fun K15 hK15 => zq fun K16 hK16 => ?_
      obtain ⟨r2, c17, h⟩ := bnd_some h
      refine zr (zg [21] 2 [0,1,4,5,6,26,27] (za (c_ref1_most _ _ _ c17) (zp [21] 1 [0,1,4,5,6,29] [] [(0, vl eI p1), (1, vl eI p2), (4, .one (.sl 0 1 0 l2.length)), (5, vl eI x3), (6, vi x2), (29, vb (decide ((0 : Int) ≤ r2)))] [.arr 1 (eI.els l2), .dead] [] trivial (zd (hK16 _ _ (zc (decide ((0 : Int) ≤ r2)) (fun b18 => ?_) (fun b18 => ?_)))))))
      ·have h := ift_t b18 h
       refine zs (hK15 _ _ (zb 3 (zq fun K19 hK19 => ?_)))
       obtain ⟨r3, c20, h⟩ := bnd_some h
       refine zr (zg [21] 2 [0,1,4,6,30,31] (za (c_ref1_minus _ _ _ c20) (zp [21] 1 [0,1,4,5,6] [] [(0, vl eI p1), (1, vl eI p2), (4, .one (.sl 0 1 0 l2.length)), (5, vl eI r3), (6, vi x2)] [.arr 1 (eI.els l2), .dead] [] trivial (zd (hK19 _ _ ?_)))))
       obtain ⟨e2, a21, h⟩ := bnd_some h
       refine zr (zp [21] 7 [0,1,4,5,6] [[pi e2], [pi e2]] [(0, vl eI p1), (1, vl eI p2), (4, .one (.sl 0 1 0 l2.length)), (5, vl eI r3), (6, vi x2)] [.arr 1 ((eI.els l2).set (0 + x2.toNat) [pi (IntKind.i64.wrap (e2 + (1 : Int)))]), .dead] [0 ≤ x2 ∧ x2 < ((l2.length : Nat) : Int), (eI.els l2)[(0 + x2.toNat)]? = some [pi e2], 0 ≤ x2 ∧ x2 < ((l2.length : Nat) : Int), (eI.els l2)[(0 + x2.toNat)]? = some [pi e2]] (⟨Enc.inb' a21, (eI.get0 a21), Enc.inb' a21, (eI.get0 a21), trivial⟩) ?_)
       rw [show (eI.els l2).set (0 + x2.toNat) [pi (IntKind.i64.wrap (e2 + (1 : Int)))] = eI.els (l2.set x2.toNat (IntKind.i64.wrap (e2 + (1 : Int)))) from eI.set0 _ _ (IntKind.i64.wrap (e2 + (1 : Int)))]
       exact zd (XR.sub (Sub.trans (Sub.pick (fr' := [(0, vl eI p1), (1, vl eI p2), (4, .one (.sl 0 1 0 l2.length)), (5, vl eI r3), (6, vi x2)]) [0,1,4,5,6] (by kernel_rfl)) (Sub.frame (fr' := [(0, vl eI p1), (1, vl eI p2), (4, .one (.sl 0 1 0 (l2.set x2.toNat (IntKind.i64.wrap (e2 + (1 : Int)))).length)), (5, vl eI r3), (6, vi x2)]) ⟨.rfl _, .rfl _, ALe.of_eq (show (.one (.sl 0 1 0 l2.length) : AV) = .one (.sl 0 1 0 (l2.set x2.toNat (IntKind.i64.wrap (e2 + (1 : Int)))).length) from by simp), .rfl _, .rfl _, trivial⟩)) (ih2 (l2.set x2.toNat (IntKind.i64.wrap (e2 + (1 : Int)))) r3 h))
      ·have h := ift_f b18 h
       exact zx 2 (hQ2 _ _ _ (hJ1 l2 x3 h _ _ (Sub.trans (Sub.pick (fr' := [(0, vl eI p1), (1, vl eI p2), (4, .one (.sl 0 1 0 l2.length)), (5, vl eI x3), (6, vi x2)]) [0,1,4,5,6] (by kernel_rfl)) (Sub.take (fr' := [(0, vl eI p1), (1, vl eI p2), (4, .one (.sl 0 1 0 l2.length)), (5, vl eI x3), (6, vi x2)]) 1 (Nat.zero_le _) (by kernel_rfl) (by kernel_rfl)))))
    exact XR.sub (zk [0,1,4,5,6]) (hL2 BIG l1 r1.d h)
   ·have h := ift_f b9 h
    exact zx 0 (hQ1 _ _ _ (hJ2 l1 x1 h _ _ (zk [4,5])))
 exact XR.sub (Sub.trans (Sub.pick (fr' := [(0, vl eI p1), (1, vl eI p2), (4, .one (.sl 0 1 0 ((p1.length : Int).toNat))), (5, .one (.pv (.s (.slice none 0 0)))), (6, vi (IntKind.i64.wrap ((p1.length : Int) - (1 : Int))))]) [0,1,4,5,6] (by kernel_rfl)) (Sub.frame (fr' := [(0, vl eI p1), (1, vl eI p2), (4, .one (.sl 0 1 0 (List.replicate (p1.length : Int).toNat (0 : Int)).length)), (5, vl eI []), (6, vi (IntKind.i64.wrap ((p1.length : Int) - (1 : Int))))]) ⟨.rfl _, .rfl _, ALe.of_eq (show (.one (.sl 0 1 0 ((p1.length : Int).toNat)) : AV) = .one (.sl 0 1 0 (List.replicate (p1.length : Int).toNat (0 : Int)).length) from by simp), .one .nl, .rfl _, trivial⟩)) (hL1 BIG (List.replicate (p1.length : Int).toNat (0 : Int)) [] (IntKind.i64.wrap ((p1.length : Int) - (1 : Int))) h)

def ref1_plus_j3 (rec1 : List Int → Int → Int → Option (List Int)) (l1 : List Int) (x2 : Int) (x5 : Int) : Option (List Int) :=
    grd (l1.length + 1 ≤ 4294967296) <|
    rec1 (l1 ++ [(x5.tmod (10 : Int))]) (IntKind.i64.wrap (x5.tdiv (10 : Int))) (IntKind.i64.wrap (x2 + (1 : Int)))

def ref1_plus_j2 (rec1 : List Int → Int → Int → Option (List Int)) (p2 : (List Int)) (l1 : List Int) (x2 : Int) (x4 : Int) : Option (List Int) :=
    ift (decide (x2 < (p2.length : Int)))
      (bnd (at? p2 x2) fun e2 =>
       ref1_plus_j3 rec1 l1 x2 (IntKind.i64.wrap (x4 + e2)))
      (ref1_plus_j3 rec1 l1 x2 x4)

def ref1_plus_j4 (l2 : List Int) : Option (List Int) :=
    some l2

def ref1_plus_j1 (rec1 : List Int → Int → Int → Option (List Int)) (p1 : (List Int)) (p2 : (List Int)) (l1 : List Int) (x1 : Int) (x2 : Int) (x3 : Bool) : Option (List Int) :=
    ift x3
      (ift (decide (x2 < (p1.length : Int)))
         (bnd (at? p1 x2) fun e1 =>
          ref1_plus_j2 rec1 p2 l1 x2 (IntKind.i64.wrap (x1 + e1)))
         (ref1_plus_j2 rec1 p2 l1 x2 x1))
      (ref1_plus_j4 l1)

def ref1_plus_l1 (p1 : (List Int)) (p2 : (List Int)) : Nat → List Int → Int → Int → Option (List Int)
  | 0, _, _, _ => none
  | k1 + 1, l1, x1, x2 =>
    ift (decide (x2 < (p1.length : Int)))
      (ref1_plus_j1 (ref1_plus_l1 p1 p2 k1) p1 p2 l1 x1 x2 true)
      (ift (decide (x2 < (p2.length : Int)))
         (ref1_plus_j1 (ref1_plus_l1 p1 p2 k1) p1 p2 l1 x1 x2 true)
         (ref1_plus_j1 (ref1_plus_l1 p1 p2 k1) p1 p2 l1 x1 x2 (decide ((0 : Int) < x1))))

def ref1_plus (p1 : (List Int)) (p2 : (List Int)) : Option (List Int) :=
    ref1_plus_l1 p1 p2 BIG [] (0 : Int) (0 : Int)


theorem c_ref1_plus (p1 : (List Int)) (p2 : (List Int)) (r : (List Int)) (h : ref1_plus p1 p2 = some r) : PC Tryd.prog 101 [vl eI p1, vl eI p2] (vl eI r) := by
 unfold ref1_plus at h
 refine PC.of (n := 54) (fn := Tryd.f101) (c := cd Tryd.f101 []) (by kernel_rfl) (by kernel_rfl) (by kernel_rfl) (Nat.le_of_ble_eq_true rfl) (zq fun K1 hK1 => zr (zg [] 1 [0,1] (zd (hK1 _ _ (zq fun K2 hK2 => zr ?_)))))
 refine zg [] 1 [0,1,5] (zd (hK2 _ _ (zq fun K3 hK3 => zr (zp [] 1 [0,1,5,6] [] [(0, vl eI p1), (1, vl eI p2), (5, .one (.pv (.s (.slice none 0 0)))), (6, vi (0 : Int))] [] [] trivial (zd (hK3 _ _ ?_))))))
 refine zq fun K4 hK4 => ?_
 have hJ4 : ∀ (l2 : List Int), ref1_plus_j4 l2 = some r → ∀ fr1 st1, Sub 54 0 [] fr1 st1 [(5, .one (.sl 0 1 0 l2.length))] [.arr 1 (eI.els l2)] → K4 fr1 st1 := by
  intro l2 h fr1 st1 hS
  unfold ref1_plus_j4 at h
  refine hK4 _ _ (XW.sub hS ?_)
  refine zq fun K23 hK23 => zr (zg [] 2 [4] (zd (hK23 _ _ (ze ?_))))
  obtain rfl := Option.some.inj h
  exact zf [.one (.sl 0 1 0 l2.length)] (.one (cf_sl eI l2 rfl rfl rfl))
 refine zq fun K5 hK5 => zr (zp [] 1 [0,1,5,6,7] [] [(0, vl eI p1), (1, vl eI p2), (5, .one (.pv (.s (.slice none 0 0)))), (6, vi (0 : Int)), (7, vi (0 : Int))] [] [] trivial (zd (hK5 _ _ (zb 0 (XW.sub (Sub.list (t := 5) (sz := 1) rfl) (XW.rounds' BIG (x := cd Tryd.f101 [1,1,1,0,1,0,0]) (by kernel_rfl) fun Q1 hQ1 => ?_))))))
 have hL1 : ∀ (k1 : Nat) (l1 : List Int) (x1 : Int) (x2 : Int), ref1_plus_l1 p1 p2 k1 l1 x1 x2 = some r → XR Tryd.prog 54 0 [] (cd Tryd.f101 [1,1,1,0,1,0,0]) Q1 k1 [(0, vl eI p1), (1, vl eI p2), (5, .one (.sl 0 1 0 l1.length)), (6, vi x1), (7, vi x2)] [.arr 1 (eI.els l1)] := by
  intro k1
  induction k1 with
  | zero => intro l1 x1 x2 h; rw [ref1_plus_l1.eq_1] at h; cases h
  | succ k1 ih1 =>
   intro l1 x1 x2 h
   rw [ref1_plus_l1.eq_2] at h
   refine zq fun K6 hK6 => zq fun K7 hK7 => ?_
   have hJ1 : ∀ (x3 : Bool), ref1_plus_j1 (ref1_plus_l1 p1 p2 k1) p1 p2 l1 x1 x2 x3 = some r → ∀ fr1 st1, Sub 54 0 [] fr1 st1 [(0, vl eI p1), (1, vl eI p2), (5, .one (.sl 0 1 0 l1.length)), (6, vi x1), (7, vi x2), (22, vb x3)] [.arr 1 (eI.els l1)] → K7 fr1 st1 := by
    intro x3 h fr1 st1 hS
    unfold ref1_plus_j1 at h
    refine hK7 _ _ (XW.sub hS ?_)
    refine zc x3 (fun b10 => ?_) (fun b10 => ?_)
    ·have h := ift_t b10 h
     refine zs (hK6 _ _ (zq fun K11 hK11 => zb 1 (zq fun K12 hK12 => zr (zg [] 2 [0,1,5,7,8] (zd ?_)))))
     refine hK12 _ _ (zq fun K13 hK13 => ?_)
     have hJ2 : ∀ (x4 : Int), ref1_plus_j2 (ref1_plus_l1 p1 p2 k1) p2 l1 x2 x4 = some r → ∀ fr1 st1, Sub 54 0 [] fr1 st1 [(0, vl eI p1), (1, vl eI p2), (5, .one (.sl 0 1 0 l1.length)), (7, vi x2), (8, vi x4)] [.arr 1 (eI.els l1)] → K13 fr1 st1 := by
      intro x4 h fr1 st1 hS
      unfold ref1_plus_j2 at h
      refine hK13 _ _ (XW.sub hS ?_)
      refine zq fun K17 hK17 => ?_
      have hJ3 : ∀ (x5 : Int), ref1_plus_j3 (ref1_plus_l1 p1 p2 k1) l1 x2 x5 = some r → ∀ fr1 st1, Sub 54 0 [] fr1 st1 [(0, vl eI p1), (1, vl eI p2), (5, .one (.sl 0 1 0 l1.length)), (7, vi x2), (8, vi x5)] [.arr 1 (eI.els l1)] → K17 fr1 st1 := by
       intro x5 h fr1 st1 hS
       unfold ref1_plus_j3 at h
       refine hK17 _ _ (XW.sub hS ?_)
       refine zq fun K21 hK21 => ?_
       obtain ⟨g22, h⟩ := grd_some h
       refine zr (zp [] 5 [0,1,7,8,50] [] [(0, vl eI p1), (1, vl eI p2), (7, vi x2), (8, vi x5), (50, .one (.sl 0 1 0 (l1.length + (eI.els [(x5.tmod (10 : Int))]).length)))] [.arr 1 (eI.els l1 ++ eI.els [(x5.tmod (10 : Int))])] [(10 : Int) ≠ 0, elemsOk 1 (eI.els [(x5.tmod (10 : Int))]), l1.length = (eI.els l1).length, l1.length + (eI.els [(x5.tmod (10 : Int))]).length ≤ 4294967296] (⟨by decide, eI.ok _, (eI.len l1).symm, g22, trivial⟩) ?_)
       rw [show l1.length + (eI.els [(x5.tmod (10 : Int))]).length = (l1 ++ [(x5.tmod (10 : Int))]).length from eI.lapp _ _]
       rw [show eI.els l1 ++ eI.els [(x5.tmod (10 : Int))] = eI.els (l1 ++ [(x5.tmod (10 : Int))]) from eI.app2 _ _]
       refine zg [] 1 [0,1,5,7,8] (zd (hK21 _ _ (zr (zo [] 3 [0,1,5,6,7] [] [(10 : Int) ≠ 0] (⟨by decide, trivial⟩) (zd (hK11 _ _ (zr ?_)))))))
       exact zp [] 3 [0,1,5,6,7] [] [(0, vl eI p1), (1, vl eI p2), (5, .one (.sl 0 1 0 ((l1 ++ [(x5.tmod (10 : Int))]).length))), (6, vi (IntKind.i64.wrap (x5.tdiv (10 : Int)))), (7, vi (IntKind.i64.wrap (x2 + (1 : Int))))] [.arr 1 (eI.els (l1 ++ [(x5.tmod (10 : Int))]))] [] trivial (zd (XR.sub (zk [0,1,5,6,7]) (ih1 (l1 ++ [(x5.tmod (10 : Int))]) (IntKind.i64.wrap (x5.tdiv (10 : Int))) (IntKind.i64.wrap (x2 + (1 : Int))) h)))
      refine zq fun K18 hK18 => zr (zp [] 3 [0,1,5,7,8,36,38] [] [(0, vl eI p1), (1, vl eI p2), (5, .one (.sl 0 1 0 l1.length)), (7, vi x2), (8, vi x4), (36, vi x2), (38, vi ((eI.els p2).length : Int))] [.arr 1 (eI.els l1)] [] trivial ?_)
      rw [eI.len p2]
      refine zg [] 1 [0,1,5,7,8,39] (zd (hK18 _ _ (zc (decide (x2 < (p2.length : Int))) (fun b19 => ?_) (fun b19 => ?_))))
      ·have h := ift_t b19 h
       obtain ⟨e2, a20, h⟩ := bnd_some h
       exact zr (zo [] 7 [0,1,5,7,8] [[pi e2]] [0 ≤ x2 ∧ x2 < ((eI.els p2).length : Int) ∧ elemsOk 1 (eI.els p2), (eI.els p2)[x2.toNat]? = some [pi e2]] (⟨eI.inb a20, (eI.get a20), trivial⟩) (zd (hJ3 (IntKind.i64.wrap (x4 + e2)) h _ _ (zk [0,1,5,7,8]))))
      ·have h := ift_f b19 h
       exact zs (hJ3 x4 h _ _ (zk [0,1,5,7,8]))
     refine zq fun K14 hK14 => zr (zp [] 3 [0,1,5,7,8,26,28] [] [(0, vl eI p1), (1, vl eI p2), (5, .one (.sl 0 1 0 l1.length)), (7, vi x2), (8, vi x1), (26, vi x2), (28, vi ((eI.els p1).length : Int))] [.arr 1 (eI.els l1)] [] trivial ?_)
     rw [eI.len p1]
     refine zg [] 1 [0,1,5,7,8,29] (zd (hK14 _ _ (zc (decide (x2 < (p1.length : Int))) (fun b15 => ?_) (fun b15 => ?_))))
     ·have h := ift_t b15 h
      obtain ⟨e1, a16, h⟩ := bnd_some h
      exact zr (zo [] 7 [0,1,5,7,8] [[pi e1]] [0 ≤ x2 ∧ x2 < ((eI.els p1).length : Int) ∧ elemsOk 1 (eI.els p1), (eI.els p1)[x2.toNat]? = some [pi e1]] (⟨eI.inb a16, (eI.get a16), trivial⟩) (zd (hJ2 (IntKind.i64.wrap (x1 + e1)) h _ _ (zk [0,1,5,7,8]))))
     ·have h := ift_f b15 h
      exact zs (hJ2 x1 h _ _ (zk [0,1,5,7,8]))
    ·have h := ift_f b10 h
     exact zx 0 (hQ1 _ _ _ (hJ4 l1 h _ _ (zk [5])))
   rcases Bool.eq_false_or_eq_true (decide (x2 < (p1.length : Int))) with b8 | b8
   ·have h := ift_t b8 h
    refine zr (zp [] 3 [0,1,5,6,7,9,11] [] [(0, vl eI p1), (1, vl eI p2), (5, .one (.sl 0 1 0 l1.length)), (6, vi x1), (7, vi x2), (9, vi x2), (11, vi ((eI.els p1).length : Int))] [.arr 1 (eI.els l1)] [] trivial ?_)
    rw [eI.len p1]
    exact zg [] 2 [0,1,5,6,7,13] (zt 13 b8 (zg [] 9 [0,1,5,6,7,22] (zd (hJ1 true h _ _ (zk [0,1,5,6,7,22])))))
   ·have h := ift_f b8 h
    rcases Bool.eq_false_or_eq_true (decide (x2 < (p2.length : Int))) with b9 | b9
    ·have h := ift_t b9 h
     refine zr (zp [] 3 [0,1,5,6,7,9,11] [] [(0, vl eI p1), (1, vl eI p2), (5, .one (.sl 0 1 0 l1.length)), (6, vi x1), (7, vi x2), (9, vi x2), (11, vi ((eI.els p1).length : Int))] [.arr 1 (eI.els l1)] [] trivial ?_)
     rw [eI.len p1]
     refine zg [] 2 [0,1,5,6,7,13] (zt 13 b8 (zp [] 3 [0,1,5,6,7,13,14,16] [] [(0, vl eI p1), (1, vl eI p2), (5, .one (.sl 0 1 0 l1.length)), (6, vi x1), (7, vi x2), (13, vb false), (14, vi x2), (16, vi ((eI.els p2).length : Int))] [.arr 1 (eI.els l1)] [] trivial ?_))
     rw [eI.len p2]
     exact zg [] 3 [0,1,5,6,7,19] (zt 19 b9 (zg [] 3 [0,1,5,6,7,22] (zd (hJ1 true h _ _ (zk [0,1,5,6,7,22])))))
    ·have h := ift_f b9 h
     refine zr (zp [] 3 [0,1,5,6,7,9,11] [] [(0, vl eI p1), (1, vl eI p2), (5, .one (.sl 0 1 0 l1.length)), (6, vi x1), (7, vi x2), (9, vi x2), (11, vi ((eI.els p1).length : Int))] [.arr 1 (eI.els l1)] [] trivial ?_)
     rw [eI.len p1]
     refine zg [] 2 [0,1,5,6,7,13] (zt 13 b8 (zp [] 3 [0,1,5,6,7,13,14,16] [] [(0, vl eI p1), (1, vl eI p2), (5, .one (.sl 0 1 0 l1.length)), (6, vi x1), (7, vi x2), (13, vb false), (14, vi x2), (16, vi ((eI.els p2).length : Int))] [.arr 1 (eI.els l1)] [] trivial ?_))
     rw [eI.len p2]
     exact zg [] 3 [0,1,5,6,7,19] (zt 19 b9 (zg [] 3 [0,1,5,6,7,22] (zd (hJ1 (decide ((0 : Int) < x1)) h _ _ (zk [0,1,5,6,7,22])))))
 exact XR.sub (zk [0,1,5,6,7]) (hL1 BIG [] (0 : Int) (0 : Int) h)

def ref1_even_j2 (p1 : RWide) (p2 : RWide) (x2 : List Int) : Option RWide :=
    bnd (ref1_cut (!(p1.below == p2.below)) x2) fun r5 =>
    some r5

def ref1_even_j1 (p1 : RWide) (p2 : RWide) (r1 : ((List Int) × (List Int))) (x1 : Bool) : Option RWide :=
    ift x1
      (bnd (ref1_plus r1.1 [(1 : Int)]) fun r4 =>
       ref1_even_j2 p1 p2 r4)
      (ref1_even_j2 p1 p2 r1.1)

def ref1_even (p1 : RWide) (p2 : RWide) : Option RWide :=
    bnd (ref1_divide p1.d p2.d) fun r1 =>
    bnd (ref1_plus r1.2 r1.2) fun r2 =>
    bnd (ref1_most r2 p2.d) fun r3 =>
    ift (decide ((0 : Int) < r3))
      (ref1_even_j1 p1 p2 r1 true)
      (ift (r3 == (0 : Int))
         (ift (decide ((0 : Int) < (r1.1.length : Int)))
            (bnd (at? r1.1 (0 : Int)) fun e1 =>
             ref1_even_j1 p1 p2 r1 ((e1.tmod (2 : Int)) == (1 : Int)))
            (ref1_even_j1 p1 p2 r1 false))
         (ref1_even_j1 p1 p2 r1 false))

abbrev ref1_even_a1 (p1 : RWide) : List PV := [.s (.bool p1.below), .ro (eI.els p1.d)]
abbrev ref1_even_a2 (p2 : RWide) : List PV := [.s (.bool p2.below), .ro (eI.els p2.d)]
abbrev ref1_even_a3 : List CV := [cb false, .pv (.s (.slice none 0 0))]

theorem c_ref1_even (p1 : RWide) (p2 : RWide) (r : RWide) (h : ref1_even p1 p2 = some r) : PC Tryd.prog 54 [.ag [cb p1.below, cl eI p1.d], .ag [cb p2.below, cl eI p2.d]] (.ag [cb r.below, cl eI r.d]) := by
 unfold ref1_even at h
 refine PC.of (n := 50) (fn := Tryd.f54) (c := cd Tryd.f54 []) (by kernel_rfl) (by kernel_rfl) (by kernel_rfl) (Nat.le_of_ble_eq_true rfl) (zq fun K1 hK1 => zr (zg [4] 3 [2,3,4] (zd (hK1 _ _ (zq fun K2 hK2 => ?_)))))
 obtain ⟨r1, c3, h⟩ := bnd_some h
 refine zr (zo [4] 4 [2,3,4,10,12] [(ref1_even_a1 p1), (ref1_even_a2 p2)] [([(ref1_even_a1 p1)] : List (List PV))[0]? = some (ref1_even_a1 p1), ([(ref1_even_a2 p2)] : List (List PV))[0]? = some (ref1_even_a2 p2)] (⟨rfl, rfl, trivial⟩) ?_)
 refine XO.cal 99 [vl eI p1.d, vl eI p2.d] (.tp [vl eI r1.1, vl eI r1.2]) [(13, .tp [vl eI r1.1, vl eI r1.2]), (2, .one (.pv (.rp [(ref1_even_a1 p1)] 0 0))), (3, .one (.pv (.rp [(ref1_even_a2 p2)] 0 0))), (4, .one (.pt 0 0 0 0)), (10, vl eI p1.d), (12, vl eI p2.d)] (by kernel_rfl) (c_ref1_divide _ _ _ c3) rfl rfl (by kernel_rfl) (zg [4] 5 [2,3,4,5,6] (zd (hK2 _ _ (zq fun K4 hK4 => ?_))))
 obtain ⟨r2, c5, h⟩ := bnd_some h
 obtain ⟨r3, c6, h⟩ := bnd_some h
 refine zw 5 [(20, vl eI p2.d), (19, .one (.pv (.rp [(ref1_even_a2 p2)] 0 1))), (18, vl eI r2), (17, vl eI r1.2), (16, vl eI r1.2), (2, .one (.pv (.rp [(ref1_even_a1 p1)] 0 0))), (3, .one (.pv (.rp [(ref1_even_a2 p2)] 0 0))), (4, .one (.pt 0 0 0 0)), (5, vl eI r1.1), (6, vl eI r1.2)] ?_ ?_
 ·exact zyg 2 (DX.cal 101 [vl eI r1.2, vl eI r1.2] (vl eI r2) [(18, vl eI r2), (17, vl eI r1.2), (16, vl eI r1.2), (2, .one (.pv (.rp [(ref1_even_a1 p1)] 0 0))), (3, .one (.pv (.rp [(ref1_even_a2 p2)] 0 0))), (4, .one (.pt 0 0 0 0)), (5, vl eI r1.1), (6, vl eI r1.2)] (by kernel_rfl) (c_ref1_plus _ _ _ c5) rfl rfl (by kernel_rfl) (zyo 2 [(ref1_even_a2 p2)] [([(ref1_even_a2 p2)] : List (List PV))[0]? = some (ref1_even_a2 p2)] (⟨rfl, trivial⟩) zyd))
 refine za (c_ref1_most _ _ _ c6) (zp [4] 1 [2,3,4,5,7] [] [(2, .one (.pv (.rp [(ref1_even_a1 p1)] 0 0))), (3, .one (.pv (.rp [(ref1_even_a2 p2)] 0 0))), (4, .one (.pt 0 0 0 0)), (5, vl eI r1.1), (7, vi r3)] [.box ref1_even_a3] [] trivial (zd (hK4 _ _ (zq fun K7 hK7 => ?_))))
 have hJ2 : ∀ (x2 : List Int), ref1_even_j2 p1 p2 x2 = some r → ∀ fr1 st1, Sub 50 0 [] fr1 st1 [(2, .one (.pv (.rp [(ref1_even_a1 p1)] 0 0))), (3, .one (.pv (.rp [(ref1_even_a2 p2)] 0 0))), (4, .one (.pt 0 0 0 0)), (5, vl eI x2)] [.box ref1_even_a3] → K7 fr1 st1 := by
  intro x2 h fr1 st1 hS
  unfold ref1_even_j2 at h
  refine hK7 _ _ (XW.sub hS ?_)
  refine zq fun K15 hK15 => ?_
  obtain ⟨r5, c16, h⟩ := bnd_some h
  refine zr (zo [4] 6 [4,47,48] [(ref1_even_a1 p1), (ref1_even_a2 p2)] [([(ref1_even_a1 p1)] : List (List PV))[0]? = some (ref1_even_a1 p1), ([(ref1_even_a2 p2)] : List (List PV))[0]? = some (ref1_even_a2 p2)] (⟨rfl, rfl, trivial⟩) (za (c_ref1_cut _ _ _ c16) (zp [4] 1 [4] [] [(4, .one (.pt 0 0 0 0))] [.box [cb r5.below, cl eI r5.d]] [] trivial (zd (hK15 _ _ (ze ?_))))))
  obtain rfl := Option.some.inj h
  exact zf [.ag [cb r5.below, cl eI r5.d]] (.ag (.cons (.rfl _ rfl) (.cons (.rfl _ rfl) .nil)))
 refine zq fun K8 hK8 => ?_
 have hJ1 : ∀ (x1 : Bool), ref1_even_j1 p1 p2 r1 x1 = some r → ∀ fr1 st1, Sub 50 0 [] fr1 st1 [(2, .one (.pv (.rp [(ref1_even_a1 p1)] 0 0))), (3, .one (.pv (.rp [(ref1_even_a2 p2)] 0 0))), (4, .one (.pt 0 0 0 0)), (5, vl eI r1.1), (39, vb x1)] [.box ref1_even_a3] → K8 fr1 st1 := by
  intro x1 h fr1 st1 hS
  unfold ref1_even_j1 at h
  refine hK8 _ _ (XW.sub hS ?_)
  refine zc x1 (fun b13 => ?_) (fun b13 => ?_)
  ·have h := ift_t b13 h
   obtain ⟨r4, c14, h⟩ := bnd_some h
   exact zr (zg [4] 2 [2,3,4,40,41] (za (c_ref1_plus _ _ _ c14) (zp [4] 1 [2,3,4,5] [] [(2, .one (.pv (.rp [(ref1_even_a1 p1)] 0 0))), (3, .one (.pv (.rp [(ref1_even_a2 p2)] 0 0))), (4, .one (.pt 0 0 0 0)), (5, vl eI r4)] [.box ref1_even_a3] [] trivial (zd (hJ2 r4 h _ _ (zk [2,3,4,5]))))))
  ·have h := ift_f b13 h
   exact zs (hJ2 r1.1 h _ _ (zk [2,3,4,5]))
 rcases Bool.eq_false_or_eq_true (decide ((0 : Int) < r3)) with b9 | b9
 ·have h := ift_t b9 h
  exact zr (zg [4] 3 [2,3,4,5,7,24] (zt 24 b9 (zg [4] 15 [2,3,4,5,39] (zd (hJ1 true h _ _ (zk [2,3,4,5,39]))))))
 ·have h := ift_f b9 h
  rcases Bool.eq_false_or_eq_true (r3 == (0 : Int)) with b10 | b10
  ·have h := ift_t b10 h
   rcases Bool.eq_false_or_eq_true (decide ((0 : Int) < (r1.1.length : Int))) with b11 | b11
   ·have h := ift_t b11 h
    obtain ⟨e1, a12, h⟩ := bnd_some h
    refine zr (zp [4] 3 [2,3,4,5,7,24] [] [(2, .one (.pv (.rp [(ref1_even_a1 p1)] 0 0))), (3, .one (.pv (.rp [(ref1_even_a2 p2)] 0 0))), (4, .one (.pt 0 0 0 0)), (5, vl eI r1.1), (7, vi r3), (24, vb (decide ((0 : Int) < r3)))] [.box ref1_even_a3] [] trivial (zt 24 b9 (zg [4] 3 [2,3,4,5,24,27] (zt 27 b10 ?_))))
    refine zp [4] 2 [2,3,4,5,24,27,29] [] [(2, .one (.pv (.rp [[.s (.bool p1.below), .ro (eI.els p1.d)]] 0 0))), (3, .one (.pv (.rp [[.s (.bool p2.below), .ro (eI.els p2.d)]] 0 0))), (4, .one (.pt 0 0 0 0)), (5, vl eI r1.1), (24, vb false), (27, vb true), (29, vi ((eI.els r1.1).length : Int))] [.box [cb false, .pv (.s (.slice none 0 0))]] [] trivial ?_
    rw [eI.len r1.1]
    exact zg [4] 3 [2,3,4,5,24,32] (zt 32 b11 (zo [4] 7 [2,3,4,5,39] [[pi e1]] [0 ≤ (0 : Int) ∧ (0 : Int) < ((eI.els r1.1).length : Int) ∧ elemsOk 1 (eI.els r1.1), (eI.els r1.1)[(0 : Int).toNat]? = some [pi e1], (2 : Int) ≠ 0] (⟨eI.inb a12, (eI.get a12), by decide, trivial⟩) (zd (hJ1 ((e1.tmod (2 : Int)) == (1 : Int)) h _ _ (zk [2,3,4,5,39])))))
   ·have h := ift_f b11 h
    refine zr (zp [4] 3 [2,3,4,5,7,24] [] [(2, .one (.pv (.rp [(ref1_even_a1 p1)] 0 0))), (3, .one (.pv (.rp [(ref1_even_a2 p2)] 0 0))), (4, .one (.pt 0 0 0 0)), (5, vl eI r1.1), (7, vi r3), (24, vb (decide ((0 : Int) < r3)))] [.box ref1_even_a3] [] trivial (zt 24 b9 (zg [4] 3 [2,3,4,5,24,27] (zt 27 b10 ?_))))
    refine zp [4] 2 [2,3,4,5,24,27,29] [] [(2, .one (.pv (.rp [[.s (.bool p1.below), .ro (eI.els p1.d)]] 0 0))), (3, .one (.pv (.rp [[.s (.bool p2.below), .ro (eI.els p2.d)]] 0 0))), (4, .one (.pt 0 0 0 0)), (5, vl eI r1.1), (24, vb false), (27, vb true), (29, vi ((eI.els r1.1).length : Int))] [.box [cb false, .pv (.s (.slice none 0 0))]] [] trivial ?_
    rw [eI.len r1.1]
    exact zg [4] 3 [2,3,4,5,24,32] (zt 32 b11 (zg [4] 7 [2,3,4,5,39] (zd (hJ1 false h _ _ (zk [2,3,4,5,39])))))
  ·have h := ift_f b10 h
   exact zr (zp [4] 3 [2,3,4,5,7,24] [] [(2, .one (.pv (.rp [(ref1_even_a1 p1)] 0 0))), (3, .one (.pv (.rp [(ref1_even_a2 p2)] 0 0))), (4, .one (.pt 0 0 0 0)), (5, vl eI r1.1), (7, vi r3), (24, vb (decide ((0 : Int) < r3)))] [.box ref1_even_a3] [] trivial (zt 24 b9 (zg [4] 3 [2,3,4,5,24,27] (zt 27 b10 (zg [4] 12 [2,3,4,5,39] (zd (hJ1 false h _ _ (zk [2,3,4,5,39]))))))))

def ref1_small_j2 (x4 : Int) : Option (Int × Bool) :=
    some (x4, true)

def ref1_small_j1 (p1 : RWide) (x3 : Int) : Option (Int × Bool) :=
    ift p1.below
      (ref1_small_j2 (IntKind.i64.wrap (0 - x3)))
      (ref1_small_j2 x3)

def ref1_small_l1 (p1 : RWide) : Nat → Int → Int → Option (Int × Bool)
  | 0, _, _ => none
  | k1 + 1, x1, x2 =>
    ift (decide ((0 : Int) ≤ x2))
      (bnd (at? p1.d x2) fun e1 =>
       (ref1_small_l1 p1 k1) (IntKind.i64.wrap ((IntKind.i64.wrap ((10 : Int) * x1)) + e1)) (IntKind.i64.wrap (x2 - (1 : Int))))
      (ref1_small_j1 p1 x1)

def ref1_small (p1 : RWide) : Option (Int × Bool) :=
    ift (decide ((18 : Int) < (p1.d.length : Int)))
      (some ((0 : Int), false))
      (ref1_small_l1 p1 BIG (0 : Int) (IntKind.i64.wrap ((p1.d.length : Int) - (1 : Int))))

abbrev ref1_small_a1 (p1 : RWide) : List PV := [.s (.bool p1.below), .ro (eI.els p1.d)]

theorem c_ref1_small (p1 : RWide) (r : (Int × Bool)) (h : ref1_small p1 = some r) : PC Tryd.prog 98 [.ag [cb p1.below, cl eI p1.d]] (.tp [vi r.1, vb r.2]) := by
 unfold ref1_small at h
 refine PC.of (n := 31) (fn := Tryd.f98) (c := cd Tryd.f98 []) (by kernel_rfl) (by kernel_rfl) (by kernel_rfl) (Nat.le_of_ble_eq_true rfl) (zq fun K1 hK1 => zr (zg [] 3 [1] (zd (hK1 _ _ (zq fun K2 hK2 => zq fun K3 hK3 => ?_)))))
 refine zr (zp [] 3 [1,8] [[.s (.bool p1.below), .ro (eI.els p1.d)]] [(1, .one (.pv (.rp [[.s (.bool p1.below), .ro (eI.els p1.d)]] 0 0))), (8, vi ((eI.els p1.d).length : Int))] [] [([[.s (.bool p1.below), .ro (eI.els p1.d)]] : List (List PV))[0]? = some [.s (.bool p1.below), .ro (eI.els p1.d)]] (⟨rfl, trivial⟩) ?_)
 rw [eI.len p1.d]
 refine zg [] 1 [1,9] (zd (hK3 _ _ (zc (decide ((18 : Int) < (p1.d.length : Int))) (fun b4 => ?_) (fun b4 => ?_))))
 ·have h := ift_t b4 h
  refine zq fun K5 hK5 => zr (zg [] 2 [2,3] (zd (hK5 _ _ (ze ?_))))
  obtain rfl := Option.some.inj h
  exact zf [vi (0 : Int), vb false] (.tpc (.one (.rfl _ rfl)) (.tpc (.one (.rfl _ rfl)) (.tp0)))
 ·have h := ift_f b4 h
  refine zs (hK2 _ _ (zq fun K6 hK6 => zr (zp [] 1 [1,4] [] [(1, .one (.pv (.rp [(ref1_small_a1 p1)] 0 0))), (4, vi (0 : Int))] [] [] trivial (zd (hK6 _ _ (zq fun K7 hK7 => ?_))))))
  have hJ1 : ∀ (x3 : Int), ref1_small_j1 p1 x3 = some r → ∀ fr1 st1, Sub 31 0 [] fr1 st1 [(1, .one (.pv (.rp [(ref1_small_a1 p1)] 0 0))), (4, vi x3)] [] → K7 fr1 st1 := by
   intro x3 h fr1 st1 hS
   unfold ref1_small_j1 at h
   refine hK7 _ _ (XW.sub hS ?_)
   refine zq fun K14 hK14 => ?_
   have hJ2 : ∀ (x4 : Int), ref1_small_j2 x4 = some r → ∀ fr1 st1, Sub 31 0 [] fr1 st1 [(4, vi x4)] [] → K14 fr1 st1 := by
    intro x4 h fr1 st1 hS
    unfold ref1_small_j2 at h
    refine hK14 _ _ (XW.sub hS ?_)
    refine zq fun K17 hK17 => zr (zg [] 3 [2,3] (zd (hK17 _ _ (ze ?_))))
    obtain rfl := Option.some.inj h
    exact zf [vi x4, vb true] (.tpc (.one (.rfl _ rfl)) (.tpc (.one (.rfl _ rfl)) (.tp0)))
   refine zq fun K15 hK15 => zr (zo [] 2 [4,27] [(ref1_small_a1 p1)] [([(ref1_small_a1 p1)] : List (List PV))[0]? = some (ref1_small_a1 p1)] (⟨rfl, trivial⟩) (zd (hK15 _ _ (zc p1.below (fun b16 => ?_) (fun b16 => ?_)))))
   ·have h := ift_t b16 h
    exact zr (zg [] 3 [4] (zd (hJ2 (IntKind.i64.wrap (0 - x3)) h _ _ (zk [4]))))
   ·have h := ift_f b16 h
    exact zs (hJ2 x3 h _ _ (zk [4]))
  refine zq fun K8 hK8 => zr (zp [] 3 [1,4,12] [[.s (.bool p1.below), .ro (eI.els p1.d)]] [(1, .one (.pv (.rp [[.s (.bool p1.below), .ro (eI.els p1.d)]] 0 0))), (4, vi (0 : Int)), (12, vi ((eI.els p1.d).length : Int))] [] [([[.s (.bool p1.below), .ro (eI.els p1.d)]] : List (List PV))[0]? = some [.s (.bool p1.below), .ro (eI.els p1.d)]] (⟨rfl, trivial⟩) ?_)
  rw [eI.len p1.d]
  refine zg [] 2 [1,4,5] (zd (hK8 _ _ (zb 0 (XW.rounds' BIG (x := cd Tryd.f98 [1,1,1,0,1,0,0]) (by kernel_rfl) fun Q1 hQ1 => ?_))))
  have hL1 : ∀ (k1 : Nat) (x1 : Int) (x2 : Int), ref1_small_l1 p1 k1 x1 x2 = some r → XR Tryd.prog 31 0 [] (cd Tryd.f98 [1,1,1,0,1,0,0]) Q1 k1 [(1, .one (.pv (.rp [(ref1_small_a1 p1)] 0 0))), (4, vi x1), (5, vi x2)] [] := by
   intro k1
   induction k1 with
   | zero => intro x1 x2 h; rw [ref1_small_l1.eq_1] at h; cases h
   | succ k1 ih1 =>
    intro x1 x2 h
    rw [ref1_small_l1.eq_2] at h
    refine zq fun K9 hK9 => zq fun K10 hK10 => zr (zg [] 2 [1,4,5,15] (zd (hK10 _ _ (zc (decide ((0 : Int) ≤ x2)) (fun b11 => ?_) (fun b11 => ?_)))))
    ·have h := ift_t b11 h
     refine zs (hK9 _ _ (zq fun K12 hK12 => zb 1 ?_))
     obtain ⟨e1, a13, h⟩ := bnd_some h
     refine zr (zo [] 9 [1,4,5] [(ref1_small_a1 p1), [pi e1]] [([(ref1_small_a1 p1)] : List (List PV))[0]? = some (ref1_small_a1 p1), 0 ≤ x2 ∧ x2 < ((eI.els p1.d).length : Int) ∧ elemsOk 1 (eI.els p1.d), (eI.els p1.d)[x2.toNat]? = some [pi e1]] (⟨rfl, eI.inb a13, (eI.get a13), trivial⟩) (zd (hK12 _ _ (zr (zp [] 3 [1,4,5] [] [(1, .one (.pv (.rp [(ref1_small_a1 p1)] 0 0))), (4, vi (IntKind.i64.wrap ((IntKind.i64.wrap ((10 : Int) * x1)) + e1))), (5, vi (IntKind.i64.wrap (x2 - (1 : Int))))] [] [] trivial (zd ?_))))))
     exact XR.sub (zk [1,4,5]) (ih1 (IntKind.i64.wrap ((IntKind.i64.wrap ((10 : Int) * x1)) + e1)) (IntKind.i64.wrap (x2 - (1 : Int))) h)
    ·have h := ift_f b11 h
     exact zx 0 (hQ1 _ _ _ (hJ1 x1 h _ _ (zk [1,4])))
  exact XR.sub (zk [1,4,5]) (hL1 BIG (0 : Int) (IntKind.i64.wrap ((p1.d.length : Int) - (1 : Int))) h)

def ref1_number (p1 : Int) (p2 : RWide) (p3 : Int) : Option GValue :=
    bnd (ref1_small p2) fun r1 =>
    ift (!r1.2)
      (some (GValue.mk (0 : Int) (0 : Int) (0 : Int) ByteArray.empty []))
      (bnd (ref1_Sound (GValue.mk p1 r1.1 p3 ByteArray.empty [])) fun r2 =>
       ift (!r2)
         (some (GValue.mk (0 : Int) (0 : Int) (0 : Int) ByteArray.empty []))
         (some (GValue.mk p1 r1.1 p3 ByteArray.empty [])))

abbrev ref1_number_a1 : List CV := [ci (0 : Int), ci (0 : Int), ci (0 : Int), cst ByteArray.empty, .pv (.s (.slice none 0 0))]
abbrev ref1_number_a2 (p1 : Int) (p3 : Int) (r1 : (Int × Bool)) : List CV := [ci p1, ci r1.1, ci p3, cst ByteArray.empty, .pv (.s (.slice none 0 0))]

theorem c_ref1_number (p1 : Int) (p2 : RWide) (p3 : Int) (r : GValue) (h : ref1_number p1 p2 p3 = some r) : PC Tryd.prog 53 [vi p1, .ag [cb p2.below, cl eI p2.d], vi p3] (.ag [ci r.kind, ci r.n, ci r.scale, cst r.s, cl eValue r.items]) := by
 unfold ref1_number at h
 refine PC.of (n := 27) (fn := Tryd.f53) (c := cd Tryd.f53 []) (by kernel_rfl) (by kernel_rfl) (by kernel_rfl) (Nat.le_of_ble_eq_true rfl) (zq fun K1 hK1 => zr (zg [6, 9] 2 [0,2,4,6] (zd (hK1 _ _ (zq fun K2 hK2 => ?_)))))
 obtain ⟨r1, c3, h⟩ := bnd_some h
 refine zr (zo [6, 9] 1 [0,2,6,11] [[.s (.bool p2.below), .ro (eI.els p2.d)]] [([[.s (.bool p2.below), .ro (eI.els p2.d)]] : List (List PV))[0]? = some [.s (.bool p2.below), .ro (eI.els p2.d)]] (⟨rfl, trivial⟩) (XO.cal 98 [.ag [cb p2.below, cl eI p2.d]] (.tp [vi r1.1, vb r1.2]) [(12, .tp [vi r1.1, vb r1.2]), (0, vi p1), (2, vi p3), (6, .one (.pt 0 0 0 0)), (11, .ag [cb p2.below, cl eI p2.d])] (by kernel_rfl) (c_ref1_small _ _ c3) rfl rfl (by kernel_rfl) (zg [6, 9] 5 [0,2,6,7,8] (zd (hK2 _ _ (zq fun K4 hK4 => zq fun K5 hK5 => ?_))))))
 refine zr (zg [6, 9] 2 [0,2,6,7,16] (zd (hK5 _ _ (zc (!r1.2) (fun b6 => ?_) (fun b6 => ?_)))))
 ·have h := ift_t b6 h
  refine zq fun K7 hK7 => zr (zp [6, 9] 2 [6] [] [(6, .one (.pt 0 0 0 0))] [.box ref1_number_a1] [] trivial (zd (hK7 _ _ (ze ?_))))
  obtain rfl := Option.some.inj h
  exact zf [.ag ref1_number_a1] (.ag (.cons (.rfl _ rfl) (.cons (.rfl _ rfl) (.cons (.rfl _ rfl) (.cons (.rfl _ rfl) (.cons (.nl) .nil))))))
 ·have h := ift_f b6 h
  refine zs (hK4 _ _ (zq fun K8 hK8 => zr (zg [6, 9] 6 [6,9] (zd (hK8 _ _ (zq fun K9 hK9 => ?_))))))
  refine zq fun K10 hK10 => ?_
  obtain ⟨r2, c11, h⟩ := bnd_some h
  refine zr (zg [6, 9] 1 [6,9,22] (XO.cal 11 [.ag (ref1_number_a2 p1 p3 r1)] (vb r2) [(23, vb r2), (6, .one (.pt 0 0 0 0)), (9, .one (.pt 1 0 0 0)), (22, .ag (ref1_number_a2 p1 p3 r1))] (by kernel_rfl) (PC.le (c_ref1_Sound _ _ c11) ⟨ALe.agc ⟨.rfl _, .rfl _, .rfl _, .rfl _, .nl, trivial⟩, trivial⟩) rfl rfl (by kernel_rfl) ?_))
  refine zp [6, 9] 1 [6,9,24] [] [(6, .one (.pt 0 0 0 0)), (9, .one (.pt 1 0 0 0)), (24, vb (!r2))] [.box ref1_number_a1, .box (ref1_number_a2 p1 p3 r1)] [] trivial (zd (hK10 _ _ (zc (!r2) (fun b12 => ?_) (fun b12 => ?_))))
  ·have h := ift_t b12 h
   refine zq fun K13 hK13 => zr (zg [6, 9] 2 [6] (zd (hK13 _ _ (ze ?_))))
   obtain rfl := Option.some.inj h
   exact zf [.ag ref1_number_a1] (.ag (.cons (.rfl _ rfl) (.cons (.rfl _ rfl) (.cons (.rfl _ rfl) (.cons (.rfl _ rfl) (.cons (.nl) .nil))))))
  ·have h := ift_f b12 h
   refine zs (hK9 _ _ (zq fun K14 hK14 => zr (zg [6, 9] 2 [6] (zd (hK14 _ _ (ze ?_))))))
   obtain rfl := Option.some.inj h
   exact zf [.ag (ref1_number_a2 p1 p3 r1)] (.ag (.cons (.rfl _ rfl) (.cons (.rfl _ rfl) (.cons (.rfl _ rfl) (.cons (.rfl _ rfl) (.cons (.nl) .nil))))))


end Go.Proofs.YtdkmclmdemngfaaDoor
