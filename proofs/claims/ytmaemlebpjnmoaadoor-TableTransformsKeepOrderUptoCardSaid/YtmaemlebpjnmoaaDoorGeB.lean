/- Printed by a program: what the functions compute, and the proofs of their contracts. -/
import Derived.Test.YtmaemlebpjnmoaaDoorGeA
namespace Go.Proofs.YtmaemlebpjnmoaaDoor
open Go.SX Go
set_option linter.unusedVariables false
set_option linter.unusedSimpArgs false
set_option maxRecDepth 100000
set_option maxHeartbeats 8000000

def value_compareSize (p1 : GWide) (p2 : GWide) : Option Int :=
    ift (decide (p1.size.2.2.2 < p2.size.2.2.2))
      (some (-1 : Int))
      (ift (decide (p2.size.2.2.2 < p1.size.2.2.2))
         (some (1 : Int))
         (ift (decide (p1.size.2.2.1 < p2.size.2.2.1))
            (some (-1 : Int))
            (ift (decide (p2.size.2.2.1 < p1.size.2.2.1))
               (some (1 : Int))
               (ift (decide (p1.size.2.1 < p2.size.2.1))
                  (some (-1 : Int))
                  (ift (decide (p2.size.2.1 < p1.size.2.1))
                     (some (1 : Int))
                     (ift (decide (p1.size.1 < p2.size.1))
                        (some (-1 : Int))
                        (ift (decide (p2.size.1 < p1.size.1))
                           (some (1 : Int))
                           (some (0 : Int)))))))))

abbrev qa1379 (p1 : GWide) : List PV := [.s (.bool p1.neg), .s (.int .u64 p1.size.1), .s (.int .u64 p1.size.2.1), .s (.int .u64 p1.size.2.2.1), .s (.int .u64 p1.size.2.2.2)]
abbrev qa1380 (p2 : GWide) : List PV := [.s (.bool p2.neg), .s (.int .u64 p2.size.1), .s (.int .u64 p2.size.2.1), .s (.int .u64 p2.size.2.2.1), .s (.int .u64 p2.size.2.2.2)]
abbrev qa1384 (p1 : GWide) (p2 : GWide) : Fr := [(28, vk .u64 p2.size.2.2.2), (27, .one (.pv (.rp [(qa1380 p2)] 0 4))), (26, .one (.pv (.rp [(qa1380 p2)] 0 1))), (25, vi (3 : Int)), (24, vk .u64 p1.size.2.2.2), (23, .one (.pv (.rp [(qa1379 p1)] 0 4))), (22, .one (.pv (.rp [(qa1379 p1)] 0 1))), (21, vi (3 : Int)), (2, .one (.pv (.rp [(qa1379 p1)] 0 0))), (3, .one (.pv (.rp [(qa1380 p2)] 0 0))), (5, vi (3 : Int)), (10, vb (decide (p1.size.2.2.2 < p2.size.2.2.2)))]

theorem c_value_compareSize (p1 : GWide) (p2 : GWide) (r : Int) (h : value_compareSize p1 p2 = some r) : PC Tryd.prog 131 [.ag [cb p1.neg, ck .u64 p1.size.1, ck .u64 p1.size.2.1, ck .u64 p1.size.2.2.1, ck .u64 p1.size.2.2.2], .ag [cb p2.neg, ck .u64 p2.size.1, ck .u64 p2.size.2.1, ck .u64 p2.size.2.2.1, ck .u64 p2.size.2.2.2]] (vi r) := by
 unfold value_compareSize at h
 refine zF 30 Tryd.f131 (zq fun K1 hK1 => zr (zg [] 3 [2,3] (zd (hK1 _ _ (zq fun K2 hK2 => zq fun K3 hK3 => ?_)))))
 refine zr (zg [] 1 [2,3,5] (zd (hK3 _ _ (zb 0 (XW.rounds' 5 (x := cd Tryd.f131 [1,0,1,0,0]) (by kernel_rfl) fun Q1 hQ1 => XR.one (zq fun K4 hK4 => ?_))))))
 refine zq fun K5 hK5 => zr (zv [] 2 [2,3,5,7] [] [(2, .one (.pv (.rp [(qa1379 p1)] 0 0))), (3, .one (.pv (.rp [(qa1380 p2)] 0 0))), (5, vi (3 : Int)), (7, vb true)] [] (zd (hK5 _ _ (zc true (fun _ => ?_) (fun hx => by cases hx)))))
 refine zs (hK4 _ _ (zq fun K6 hK6 => zb 1 (zb 2 (zq fun K7 hK7 => ?_))))
 refine zw 8 [(18, vk .u64 p2.size.2.2.2), (17, .one (.pv (.rp [(qa1380 p2)] 0 4))), (16, .one (.pv (.rp [(qa1380 p2)] 0 1))), (15, vi (3 : Int)), (14, vk .u64 p1.size.2.2.2), (13, .one (.pv (.rp [(qa1379 p1)] 0 4))), (12, .one (.pv (.rp [(qa1379 p1)] 0 1))), (11, vi (3 : Int)), (2, .one (.pv (.rp [(qa1379 p1)] 0 0))), (3, .one (.pv (.rp [(qa1380 p2)] 0 0))), (5, vi (3 : Int)), (7, vb true)] ?_ ?_
 ·refine zyo 8 [(qa1379 p1), (qa1380 p2)] [0 ≤ (3 : Int) ∧ (3 : Int) < 4, ([(qa1379 p1)] : List (List PV))[0]? = some (qa1379 p1), 0 ≤ (3 : Int) ∧ (3 : Int) < 4, ([(qa1380 p2)] : List (List PV))[0]? = some (qa1380 p2)] (⟨by decide, rfl, by decide, rfl, trivial⟩) ?_
  exact zyd
 refine zg [] 2 [2,3,5,10] (zd (hK7 _ _ (zC h (fun b8 h => ?_) (fun b8 h => ?_))))
 ·refine zq fun K9 hK9 => zr (zg [] 1 [4] (zd (hK9 _ _ (ze (hQ1 _ _ _ ?_)))))
  obtain rfl := Option.some.inj h
  exact zf [vi (-1 : Int)] (.one (.rfl _ rfl))
 ·refine zq fun K10 hK10 => ?_
  refine zw 8 (qa1384 p1 p2) ?_ ?_
  ·refine zyp 8 [(qa1379 p1), (qa1380 p2)] (qa1384 p1 p2) [0 ≤ (3 : Int) ∧ (3 : Int) < 4, ([(qa1379 p1)] : List (List PV))[0]? = some (qa1379 p1), 0 ≤ (3 : Int) ∧ (3 : Int) < 4, ([(qa1380 p2)] : List (List PV))[0]? = some (qa1380 p2)] (⟨by decide, rfl, by decide, rfl, trivial⟩) ?_
   exact zyd
  refine zv [] 2 [2,3,5,20] [] [(2, .one (.pv (.rp [(qa1379 p1)] 0 0))), (3, .one (.pv (.rp [(qa1380 p2)] 0 0))), (5, vi (3 : Int)), (20, vb (decide (p2.size.2.2.2 < p1.size.2.2.2)))] [] (zd (hK10 _ _ (zC h (fun b11 h => ?_) (fun b11 h => ?_))))
  ·refine zq fun K12 hK12 => zr (zg [] 1 [4] (zd (hK12 _ _ (ze (hQ1 _ _ _ ?_)))))
   obtain rfl := Option.some.inj h
   exact zf [vi (1 : Int)] (.one (.rfl _ rfl))
  ·refine zs (hK6 _ _ (zr (zv [] 3 [2,3,5] [] [(2, .one (.pv (.rp [(qa1379 p1)] 0 0))), (3, .one (.pv (.rp [(qa1380 p2)] 0 0))), (5, vi (2 : Int))] [] (zd (XR.one (zq fun K13 hK13 => zq fun K14 hK14 => ?_))))))
   refine zr (zg [] 2 [2,3,5,7] (zd (hK14 _ _ (zc true (fun _ => ?_) (fun hx => by cases hx)))))
   refine zs (hK13 _ _ (zq fun K15 hK15 => zb 1 (zb 2 (zq fun K16 hK16 => ?_))))
   refine zw 8 [(18, vk .u64 p2.size.2.2.1), (17, .one (.pv (.rp [(qa1380 p2)] 0 3))), (16, .one (.pv (.rp [(qa1380 p2)] 0 1))), (15, vi (2 : Int)), (14, vk .u64 p1.size.2.2.1), (13, .one (.pv (.rp [(qa1379 p1)] 0 3))), (12, .one (.pv (.rp [(qa1379 p1)] 0 1))), (11, vi (2 : Int)), (2, .one (.pv (.rp [(qa1379 p1)] 0 0))), (3, .one (.pv (.rp [(qa1380 p2)] 0 0))), (5, vi (2 : Int)), (7, vb true)] ?_ ?_
   ·refine zyo 8 [(qa1379 p1), (qa1380 p2)] [0 ≤ (2 : Int) ∧ (2 : Int) < 4, ([(qa1379 p1)] : List (List PV))[0]? = some (qa1379 p1), 0 ≤ (2 : Int) ∧ (2 : Int) < 4, ([(qa1380 p2)] : List (List PV))[0]? = some (qa1380 p2)] (⟨by decide, rfl, by decide, rfl, trivial⟩) ?_
    exact zyd
   refine zg [] 2 [2,3,5,10] (zd (hK16 _ _ (zC h (fun b17 h => ?_) (fun b17 h => ?_))))
   ·refine zq fun K18 hK18 => zr (zv [] 1 [4] [] [(4, vi (-1 : Int))] [] (zd (hK18 _ _ (ze (hQ1 _ _ _ ?_)))))
    obtain rfl := Option.some.inj h
    exact zf [vi (-1 : Int)] (.one (.rfl _ rfl))
   ·refine zq fun K19 hK19 => ?_
    refine zw 8 [(28, vk .u64 p2.size.2.2.1), (27, .one (.pv (.rp [(qa1380 p2)] 0 3))), (26, .one (.pv (.rp [(qa1380 p2)] 0 1))), (25, vi (2 : Int)), (24, vk .u64 p1.size.2.2.1), (23, .one (.pv (.rp [(qa1379 p1)] 0 3))), (22, .one (.pv (.rp [(qa1379 p1)] 0 1))), (21, vi (2 : Int)), (2, .one (.pv (.rp [(qa1379 p1)] 0 0))), (3, .one (.pv (.rp [(qa1380 p2)] 0 0))), (5, vi (2 : Int)), (10, vb (decide (p1.size.2.2.1 < p2.size.2.2.1)))] ?_ ?_
    ·refine zyo 8 [(qa1379 p1), (qa1380 p2)] [0 ≤ (2 : Int) ∧ (2 : Int) < 4, ([(qa1379 p1)] : List (List PV))[0]? = some (qa1379 p1), 0 ≤ (2 : Int) ∧ (2 : Int) < 4, ([(qa1380 p2)] : List (List PV))[0]? = some (qa1380 p2)] (⟨by decide, rfl, by decide, rfl, trivial⟩) ?_
     exact zyd
    refine zg [] 2 [2,3,5,20] (zd (hK19 _ _ (zC h (fun b20 h => ?_) (fun b20 h => ?_))))
    ·refine zq fun K21 hK21 => zr (zg [] 1 [4] (zd (hK21 _ _ (ze (hQ1 _ _ _ ?_)))))
     obtain rfl := Option.some.inj h
     exact zf [vi (1 : Int)] (.one (.rfl _ rfl))
    ·refine zs (hK15 _ _ (zr (zv [] 3 [2,3,5] [] [(2, .one (.pv (.rp [(qa1379 p1)] 0 0))), (3, .one (.pv (.rp [(qa1380 p2)] 0 0))), (5, vi (1 : Int))] [] (zd (XR.one (zq fun K22 hK22 => zq fun K23 hK23 => ?_))))))
     refine zr (zg [] 2 [2,3,5,7] (zd (hK23 _ _ (zc true (fun _ => ?_) (fun hx => by cases hx)))))
     refine zs (hK22 _ _ (zq fun K24 hK24 => zb 1 (zb 2 (zq fun K25 hK25 => ?_))))
     refine zw 8 [(18, vk .u64 p2.size.2.1), (17, .one (.pv (.rp [(qa1380 p2)] 0 2))), (16, .one (.pv (.rp [(qa1380 p2)] 0 1))), (15, vi (1 : Int)), (14, vk .u64 p1.size.2.1), (13, .one (.pv (.rp [(qa1379 p1)] 0 2))), (12, .one (.pv (.rp [(qa1379 p1)] 0 1))), (11, vi (1 : Int)), (2, .one (.pv (.rp [(qa1379 p1)] 0 0))), (3, .one (.pv (.rp [(qa1380 p2)] 0 0))), (5, vi (1 : Int)), (7, vb true)] ?_ ?_
     ·refine zyo 8 [(qa1379 p1), (qa1380 p2)] [0 ≤ (1 : Int) ∧ (1 : Int) < 4, ([(qa1379 p1)] : List (List PV))[0]? = some (qa1379 p1), 0 ≤ (1 : Int) ∧ (1 : Int) < 4, ([(qa1380 p2)] : List (List PV))[0]? = some (qa1380 p2)] (⟨by decide, rfl, by decide, rfl, trivial⟩) ?_
      exact zyd
     refine zg [] 2 [2,3,5,10] (zd (hK25 _ _ (zC h (fun b26 h => ?_) (fun b26 h => ?_))))
     ·refine zq fun K27 hK27 => zr (zv [] 1 [4] [] [(4, vi (-1 : Int))] [] (zd (hK27 _ _ (ze (hQ1 _ _ _ ?_)))))
      obtain rfl := Option.some.inj h
      exact zf [vi (-1 : Int)] (.one (.rfl _ rfl))
     ·refine zq fun K28 hK28 => ?_
      refine zw 8 [(28, vk .u64 p2.size.2.1), (27, .one (.pv (.rp [(qa1380 p2)] 0 2))), (26, .one (.pv (.rp [(qa1380 p2)] 0 1))), (25, vi (1 : Int)), (24, vk .u64 p1.size.2.1), (23, .one (.pv (.rp [(qa1379 p1)] 0 2))), (22, .one (.pv (.rp [(qa1379 p1)] 0 1))), (21, vi (1 : Int)), (2, .one (.pv (.rp [(qa1379 p1)] 0 0))), (3, .one (.pv (.rp [(qa1380 p2)] 0 0))), (5, vi (1 : Int)), (10, vb (decide (p1.size.2.1 < p2.size.2.1)))] ?_ ?_
      ·refine zyo 8 [(qa1379 p1), (qa1380 p2)] [0 ≤ (1 : Int) ∧ (1 : Int) < 4, ([(qa1379 p1)] : List (List PV))[0]? = some (qa1379 p1), 0 ≤ (1 : Int) ∧ (1 : Int) < 4, ([(qa1380 p2)] : List (List PV))[0]? = some (qa1380 p2)] (⟨by decide, rfl, by decide, rfl, trivial⟩) ?_
       exact zyd
      refine zg [] 2 [2,3,5,20] (zd (hK28 _ _ (zC h (fun b29 h => ?_) (fun b29 h => ?_))))
      ·refine zq fun K30 hK30 => zr (zg [] 1 [4] (zd (hK30 _ _ (ze (hQ1 _ _ _ ?_)))))
       obtain rfl := Option.some.inj h
       exact zf [vi (1 : Int)] (.one (.rfl _ rfl))
      ·refine zs (hK24 _ _ (zr (zv [] 3 [2,3,5] [] [(2, .one (.pv (.rp [(qa1379 p1)] 0 0))), (3, .one (.pv (.rp [(qa1380 p2)] 0 0))), (5, vi (0 : Int))] [] (zd (XR.one (zq fun K31 hK31 => zq fun K32 hK32 => ?_))))))
       refine zr (zg [] 2 [2,3,5,7] (zd (hK32 _ _ (zc true (fun _ => ?_) (fun hx => by cases hx)))))
       refine zs (hK31 _ _ (zq fun K33 hK33 => zb 1 (zb 2 (zq fun K34 hK34 => ?_))))
       refine zw 8 [(18, vk .u64 p2.size.1), (17, .one (.pv (.rp [(qa1380 p2)] 0 1))), (16, .one (.pv (.rp [(qa1380 p2)] 0 1))), (15, vi (0 : Int)), (14, vk .u64 p1.size.1), (13, .one (.pv (.rp [(qa1379 p1)] 0 1))), (12, .one (.pv (.rp [(qa1379 p1)] 0 1))), (11, vi (0 : Int)), (2, .one (.pv (.rp [(qa1379 p1)] 0 0))), (3, .one (.pv (.rp [(qa1380 p2)] 0 0))), (5, vi (0 : Int)), (7, vb true)] ?_ ?_
       ·refine zyo 8 [(qa1379 p1), (qa1380 p2)] [0 ≤ (0 : Int) ∧ (0 : Int) < 4, ([(qa1379 p1)] : List (List PV))[0]? = some (qa1379 p1), 0 ≤ (0 : Int) ∧ (0 : Int) < 4, ([(qa1380 p2)] : List (List PV))[0]? = some (qa1380 p2)] (⟨by decide, rfl, by decide, rfl, trivial⟩) ?_
        exact zyd
       refine zg [] 2 [2,3,5,10] (zd (hK34 _ _ (zC h (fun b35 h => ?_) (fun b35 h => ?_))))
       ·refine zq fun K36 hK36 => zr (zv [] 1 [4] [] [(4, vi (-1 : Int))] [] (zd (hK36 _ _ (ze (hQ1 _ _ _ ?_)))))
        obtain rfl := Option.some.inj h
        exact zf [vi (-1 : Int)] (.one (.rfl _ rfl))
       ·refine zq fun K37 hK37 => ?_
        refine zw 8 [(28, vk .u64 p2.size.1), (27, .one (.pv (.rp [(qa1380 p2)] 0 1))), (26, .one (.pv (.rp [(qa1380 p2)] 0 1))), (25, vi (0 : Int)), (24, vk .u64 p1.size.1), (23, .one (.pv (.rp [(qa1379 p1)] 0 1))), (22, .one (.pv (.rp [(qa1379 p1)] 0 1))), (21, vi (0 : Int)), (2, .one (.pv (.rp [(qa1379 p1)] 0 0))), (3, .one (.pv (.rp [(qa1380 p2)] 0 0))), (5, vi (0 : Int)), (10, vb (decide (p1.size.1 < p2.size.1)))] ?_ ?_
        ·refine zyo 8 [(qa1379 p1), (qa1380 p2)] [0 ≤ (0 : Int) ∧ (0 : Int) < 4, ([(qa1379 p1)] : List (List PV))[0]? = some (qa1379 p1), 0 ≤ (0 : Int) ∧ (0 : Int) < 4, ([(qa1380 p2)] : List (List PV))[0]? = some (qa1380 p2)] (⟨by decide, rfl, by decide, rfl, trivial⟩) ?_
         exact zyd
        refine zg [] 2 [2,3,5,20] (zd (hK37 _ _ (zC h (fun b38 h => ?_) (fun b38 h => ?_))))
        ·refine zq fun K39 hK39 => zr (zg [] 1 [4] (zd (hK39 _ _ (ze (hQ1 _ _ _ ?_)))))
         obtain rfl := Option.some.inj h
         exact zf [vi (1 : Int)] (.one (.rfl _ rfl))
        ·refine zs (hK33 _ _ (zr (zv [] 3 [2,3,5] [] [(2, .one (.pv (.rp [(qa1379 p1)] 0 0))), (3, .one (.pv (.rp [(qa1380 p2)] 0 0))), (5, vi (-1 : Int))] [] (zd (XR.one (zq fun K40 hK40 => zq fun K41 hK41 => ?_))))))
         refine zr (zg [] 2 [2,3,5,7] (zd (hK41 _ _ (zc false (fun hx => by cases hx) (fun _ => ?_)))))
         refine zx 0 (hQ1 _ _ _ (hK2 _ _ (zq fun K42 hK42 => zr (zg [] 1 [4] (zd (hK42 _ _ ?_))))))
         refine ze ?_
         obtain rfl := Option.some.inj h
         exact zf [vi (0 : Int)] (.one (.rfl _ rfl))

def value_wide_minus_j1 (z1 : Bool) (z2 : Int) (z3 : Int) (z4 : Int) (z5 : Int) (z6 : Bool) (z7 : Int) (z8 : Int) (z9 : Int) (z10 : Int) : Option GWide :=
    grd (0 ≤ z2 ∧ 0 ≤ z7 ∧ z7 < 18446744073709551616 ∧ 0 ≤ (0 : Int) ∧ (0 : Int) ≤ 1) <|
    grd (0 ≤ z3 ∧ 0 ≤ z8 ∧ z8 < 18446744073709551616 ∧ 0 ≤ (if z2 < z7 + (0 : Int) then (1 : Int) else (0 : Int)) ∧ (if z2 < z7 + (0 : Int) then (1 : Int) else (0 : Int)) ≤ 1) <|
    bnd (some ((z3 - z8 - (if z2 < z7 + (0 : Int) then (1 : Int) else (0 : Int))) % 18446744073709551616)) fun y1 =>
    bnd (some (if z3 < z8 + (if z2 < z7 + (0 : Int) then (1 : Int) else (0 : Int)) then (1 : Int) else (0 : Int))) fun y2 =>
    grd (0 ≤ z4 ∧ 0 ≤ z9 ∧ z9 < 18446744073709551616 ∧ 0 ≤ y2 ∧ y2 ≤ 1) <|
    grd (0 ≤ z5 ∧ 0 ≤ z10 ∧ z10 < 18446744073709551616 ∧ 0 ≤ (if z4 < z9 + y2 then (1 : Int) else (0 : Int)) ∧ (if z4 < z9 + y2 then (1 : Int) else (0 : Int)) ≤ 1) <|
    bnd (some ((z5 - z10 - (if z4 < z9 + y2 then (1 : Int) else (0 : Int))) % 18446744073709551616)) fun y3 =>
    bnd (some (if z5 < z10 + (if z4 < z9 + y2 then (1 : Int) else (0 : Int)) then (1 : Int) else (0 : Int))) fun y4 =>
    some (GWide.mk z1 (((z2 - z7 - (0 : Int)) % 18446744073709551616), y1, ((z4 - z9 - y2) % 18446744073709551616), y3))

mutual

def value_wide_minus : Nat → GWide → GWide → Option GWide
  | 0, _, _ => none
  | k0 + 1, p1, p2 =>
    ift (!(p1.neg == p2.neg))
      (bnd (value_wide_negated (GWide.mk p2.neg (p2.size.1, p2.size.2.1, p2.size.2.2.1, p2.size.2.2.2))) fun r1 =>
       bnd ((value_wide_plus k0) (GWide.mk p1.neg (p1.size.1, p1.size.2.1, p1.size.2.2.1, p1.size.2.2.2)) (GWide.mk r1.neg (r1.size.1, r1.size.2.1, r1.size.2.2.1, r1.size.2.2.2))) fun r2 =>
       some (GWide.mk r2.neg (r2.size.1, r2.size.2.1, r2.size.2.2.1, r2.size.2.2.2)))
      (bnd (value_compareSize (GWide.mk p1.neg (p1.size.1, p1.size.2.1, p1.size.2.2.1, p1.size.2.2.2)) (GWide.mk p2.neg (p2.size.1, p2.size.2.1, p2.size.2.2.1, p2.size.2.2.2))) fun r3 =>
       ift (decide (r3 < (0 : Int)))
         (bnd (value_wide_negated (GWide.mk p2.neg (p2.size.1, p2.size.2.1, p2.size.2.2.1, p2.size.2.2.2))) fun r4 =>
          value_wide_minus_j1 r4.neg r4.size.1 r4.size.2.1 r4.size.2.2.1 r4.size.2.2.2 p1.neg p1.size.1 p1.size.2.1 p1.size.2.2.1 p1.size.2.2.2)
         (value_wide_minus_j1 p1.neg p1.size.1 p1.size.2.1 p1.size.2.2.1 p1.size.2.2.2 p2.neg p2.size.1 p2.size.2.1 p2.size.2.2.1 p2.size.2.2.2))

def value_wide_plus : Nat → GWide → GWide → Option GWide
  | 0, _, _ => none
  | k0 + 1, p1, p2 =>
    ift (!(p1.neg == p2.neg))
      (bnd (value_wide_negated (GWide.mk p2.neg (p2.size.1, p2.size.2.1, p2.size.2.2.1, p2.size.2.2.2))) fun r1 =>
       bnd ((value_wide_minus k0) (GWide.mk p1.neg (p1.size.1, p1.size.2.1, p1.size.2.2.1, p1.size.2.2.2)) (GWide.mk r1.neg (r1.size.1, r1.size.2.1, r1.size.2.2.1, r1.size.2.2.2))) fun r2 =>
       some (GWide.mk r2.neg (r2.size.1, r2.size.2.1, r2.size.2.2.1, r2.size.2.2.2)))
      (grd (0 ≤ p1.size.1 ∧ 0 ≤ p2.size.1 ∧ 0 ≤ (0 : Int) ∧ (0 : Int) ≤ 1) <|
       grd (0 ≤ p1.size.2.1 ∧ 0 ≤ p2.size.2.1 ∧ 0 ≤ ((p1.size.1 + p2.size.1 + (0 : Int)) / 18446744073709551616) ∧ ((p1.size.1 + p2.size.1 + (0 : Int)) / 18446744073709551616) ≤ 1) <|
       bnd (some ((p1.size.2.1 + p2.size.2.1 + ((p1.size.1 + p2.size.1 + (0 : Int)) / 18446744073709551616)) % 18446744073709551616)) fun y1 =>
       bnd (some ((p1.size.2.1 + p2.size.2.1 + ((p1.size.1 + p2.size.1 + (0 : Int)) / 18446744073709551616)) / 18446744073709551616)) fun y2 =>
       grd (0 ≤ p1.size.2.2.1 ∧ 0 ≤ p2.size.2.2.1 ∧ 0 ≤ y2 ∧ y2 ≤ 1) <|
       grd (0 ≤ p1.size.2.2.2 ∧ 0 ≤ p2.size.2.2.2 ∧ 0 ≤ ((p1.size.2.2.1 + p2.size.2.2.1 + y2) / 18446744073709551616) ∧ ((p1.size.2.2.1 + p2.size.2.2.1 + y2) / 18446744073709551616) ≤ 1) <|
       bnd (some ((p1.size.2.2.2 + p2.size.2.2.2 + ((p1.size.2.2.1 + p2.size.2.2.1 + y2) / 18446744073709551616)) % 18446744073709551616)) fun y3 =>
       bnd (some ((p1.size.2.2.2 + p2.size.2.2.2 + ((p1.size.2.2.1 + p2.size.2.2.1 + y2) / 18446744073709551616)) / 18446744073709551616)) fun y4 =>
       some (GWide.mk p1.neg (((p1.size.1 + p2.size.1 + (0 : Int)) % 18446744073709551616), y1, ((p1.size.2.2.1 + p2.size.2.2.1 + y2) % 18446744073709551616), y3)))

end

abbrev qa1396 (p1 : GWide) : List CV := [cb p1.neg, ck .u64 p1.size.1, ck .u64 p1.size.2.1, ck .u64 p1.size.2.2.1, ck .u64 p1.size.2.2.2]
abbrev qa1397 (p2 : GWide) : List CV := [cb p2.neg, ck .u64 p2.size.1, ck .u64 p2.size.2.1, ck .u64 p2.size.2.2.1, ck .u64 p2.size.2.2.2]
abbrev qa1399 (r1 : GWide) : List CV := [cb r1.neg, ck .u64 r1.size.1, ck .u64 r1.size.2.1, ck .u64 r1.size.2.2.1, ck .u64 r1.size.2.2.2]
abbrev qa1400 (r2 : GWide) : List CV := [cb r2.neg, ck .u64 r2.size.1, ck .u64 r2.size.2.1, ck .u64 r2.size.2.2.1, ck .u64 r2.size.2.2.2]
abbrev qa1403 (z6 : Bool) (z7 : Int) (z8 : Int) (z9 : Int) (z10 : Int) : List CV := [cb z6, ck .u64 z7, ck .u64 z8, ck .u64 z9, ck .u64 z10]
abbrev qa1404 : List CV := [cb false, ck .u64 (0 : Int), ck .u64 (0 : Int), ck .u64 (0 : Int), ck .u64 (0 : Int)]
abbrev qa1407 (z2 : Int) (z7 : Int) : Fr := [(41, .one (.pt 0 0 0 1)), (40, .one (.pt 0 0 0 1)), (39, vk .u64 (if z2 < z7 + (0 : Int) then (1 : Int) else (0 : Int))), (38, vk .u64 ((z2 - z7 - (0 : Int)) % 18446744073709551616)), (26, .tp [vk .u64 ((z2 - z7 - (0 : Int)) % 18446744073709551616), vk .u64 (if z2 < z7 + (0 : Int) then (1 : Int) else (0 : Int))]), (37, .tp [vk .u64 ((z2 - z7 - (0 : Int)) % 18446744073709551616), vk .u64 (if z2 < z7 + (0 : Int) then (1 : Int) else (0 : Int))]), (36, vk .u64 (0 : Int)), (35, vk .u64 z7), (34, .one (.pt 1 0 0 1)), (33, .one (.pt 1 0 0 1)), (32, vi (0 : Int)), (31, vk .u64 z2), (30, .one (.pt 0 0 0 1)), (29, .one (.pt 0 0 0 1)), (28, vi (0 : Int)), (27, vi (0 : Int)), (2, .one (.pt 0 0 0 0)), (3, .one (.pt 1 0 0 0)), (4, .one (.pt 2 0 0 0)), (5, vk .u64 (0 : Int)), (6, vi (0 : Int)), (23, vi (0 : Int))]
abbrev qa1408 (z1 : Bool) (z2 : Int) (z3 : Int) (z4 : Int) (z5 : Int) (z7 : Int) : List CV := [cb z1, ck .u64 ((z2 - z7 - (0 : Int)) % 18446744073709551616), ck .u64 z3, ck .u64 z4, ck .u64 z5]
abbrev qa1413 (z2 : Int) (z3 : Int) (z7 : Int) (z8 : Int) (y1 : Int) (y2 : Int) : Fr := [(41, .one (.pt 0 0 0 2)), (40, .one (.pt 0 0 0 1)), (39, vk .u64 y2), (38, vk .u64 y1), (26, .tp [vk .u64 y1, vk .u64 y2]), (37, .tp [vk .u64 y1, vk .u64 y2]), (36, vk .u64 (if z2 < z7 + (0 : Int) then (1 : Int) else (0 : Int))), (35, vk .u64 z8), (34, .one (.pt 1 0 0 2)), (33, .one (.pt 1 0 0 1)), (32, vi (1 : Int)), (31, vk .u64 z3), (30, .one (.pt 0 0 0 2)), (29, .one (.pt 0 0 0 1)), (28, vi (1 : Int)), (27, vi (1 : Int)), (2, .one (.pt 0 0 0 0)), (3, .one (.pt 1 0 0 0)), (4, .one (.pt 2 0 0 0)), (5, vk .u64 (if z2 < z7 + (0 : Int) then (1 : Int) else (0 : Int))), (6, vi (1 : Int)), (23, vi (1 : Int))]
abbrev qa1414 (z1 : Bool) (z2 : Int) (z4 : Int) (z5 : Int) (z7 : Int) (y1 : Int) : List CV := [cb z1, ck .u64 ((z2 - z7 - (0 : Int)) % 18446744073709551616), ck .u64 y1, ck .u64 z4, ck .u64 z5]
abbrev qa1419 (z4 : Int) (z9 : Int) (y2 : Int) : Fr := [(41, .one (.pt 0 0 0 3)), (40, .one (.pt 0 0 0 1)), (39, vk .u64 (if z4 < z9 + y2 then (1 : Int) else (0 : Int))), (38, vk .u64 ((z4 - z9 - y2) % 18446744073709551616)), (26, .tp [vk .u64 ((z4 - z9 - y2) % 18446744073709551616), vk .u64 (if z4 < z9 + y2 then (1 : Int) else (0 : Int))]), (37, .tp [vk .u64 ((z4 - z9 - y2) % 18446744073709551616), vk .u64 (if z4 < z9 + y2 then (1 : Int) else (0 : Int))]), (36, vk .u64 y2), (35, vk .u64 z9), (34, .one (.pt 1 0 0 3)), (33, .one (.pt 1 0 0 1)), (32, vi (2 : Int)), (31, vk .u64 z4), (30, .one (.pt 0 0 0 3)), (29, .one (.pt 0 0 0 1)), (28, vi (2 : Int)), (27, vi (2 : Int)), (2, .one (.pt 0 0 0 0)), (3, .one (.pt 1 0 0 0)), (4, .one (.pt 2 0 0 0)), (5, vk .u64 y2), (6, vi (2 : Int)), (23, vi (2 : Int))]
abbrev qa1420 (z1 : Bool) (z2 : Int) (z4 : Int) (z5 : Int) (z7 : Int) (z9 : Int) (y1 : Int) (y2 : Int) : List CV := [cb z1, ck .u64 ((z2 - z7 - (0 : Int)) % 18446744073709551616), ck .u64 y1, ck .u64 ((z4 - z9 - y2) % 18446744073709551616), ck .u64 z5]
abbrev qa1425 (z4 : Int) (z5 : Int) (z9 : Int) (z10 : Int) (y2 : Int) (y3 : Int) (y4 : Int) : Fr := [(41, .one (.pt 0 0 0 4)), (40, .one (.pt 0 0 0 1)), (39, vk .u64 y4), (38, vk .u64 y3), (26, .tp [vk .u64 y3, vk .u64 y4]), (37, .tp [vk .u64 y3, vk .u64 y4]), (36, vk .u64 (if z4 < z9 + y2 then (1 : Int) else (0 : Int))), (35, vk .u64 z10), (34, .one (.pt 1 0 0 4)), (33, .one (.pt 1 0 0 1)), (32, vi (3 : Int)), (31, vk .u64 z5), (30, .one (.pt 0 0 0 4)), (29, .one (.pt 0 0 0 1)), (28, vi (3 : Int)), (27, vi (3 : Int)), (2, .one (.pt 0 0 0 0)), (3, .one (.pt 1 0 0 0)), (4, .one (.pt 2 0 0 0)), (5, vk .u64 (if z4 < z9 + y2 then (1 : Int) else (0 : Int))), (6, vi (3 : Int)), (23, vi (3 : Int))]
abbrev qa1426 (z1 : Bool) (z2 : Int) (z4 : Int) (z7 : Int) (z9 : Int) (y1 : Int) (y2 : Int) (y3 : Int) : List CV := [cb z1, ck .u64 ((z2 - z7 - (0 : Int)) % 18446744073709551616), ck .u64 y1, ck .u64 ((z4 - z9 - y2) % 18446744073709551616), ck .u64 y3]
abbrev qa1430 (r4 : GWide) : List CV := [cb r4.neg, ck .u64 r4.size.1, ck .u64 r4.size.2.1, ck .u64 r4.size.2.2.1, ck .u64 r4.size.2.2.2]
abbrev qa1442 (p1 : GWide) : List CV := [cb p1.neg, ck .u64 p1.size.1, ck .u64 p1.size.2.1, ck .u64 p1.size.2.2.1, ck .u64 p1.size.2.2.2]
abbrev qa1443 (p2 : GWide) : List CV := [cb p2.neg, ck .u64 p2.size.1, ck .u64 p2.size.2.1, ck .u64 p2.size.2.2.1, ck .u64 p2.size.2.2.2]
abbrev qa1445 (p2 : GWide) : List PV := [.s (.bool p2.neg), .s (.int .u64 p2.size.1), .s (.int .u64 p2.size.2.1), .s (.int .u64 p2.size.2.2.1), .s (.int .u64 p2.size.2.2.2)]
abbrev qa1446 (r1 : GWide) : List CV := [cb r1.neg, ck .u64 r1.size.1, ck .u64 r1.size.2.1, ck .u64 r1.size.2.2.1, ck .u64 r1.size.2.2.2]
abbrev qa1447 (r2 : GWide) : List CV := [cb r2.neg, ck .u64 r2.size.1, ck .u64 r2.size.2.1, ck .u64 r2.size.2.2.1, ck .u64 r2.size.2.2.2]
abbrev qa1448 : List CV := [cb false, ck .u64 (0 : Int), ck .u64 (0 : Int), ck .u64 (0 : Int), ck .u64 (0 : Int)]
abbrev qa1449 (p1 : GWide) (p2 : GWide) : List CV := [cb p1.neg, ck .u64 ((p1.size.1 + p2.size.1 + (0 : Int)) % 18446744073709551616), ck .u64 p1.size.2.1, ck .u64 p1.size.2.2.1, ck .u64 p1.size.2.2.2]
abbrev qa1450 (p1 : GWide) (p2 : GWide) (y1 : Int) : List CV := [cb p1.neg, ck .u64 ((p1.size.1 + p2.size.1 + (0 : Int)) % 18446744073709551616), ck .u64 y1, ck .u64 p1.size.2.2.1, ck .u64 p1.size.2.2.2]
abbrev qa1451 (p1 : GWide) (p2 : GWide) (y1 : Int) (y2 : Int) : List CV := [cb p1.neg, ck .u64 ((p1.size.1 + p2.size.1 + (0 : Int)) % 18446744073709551616), ck .u64 y1, ck .u64 ((p1.size.2.2.1 + p2.size.2.2.1 + y2) % 18446744073709551616), ck .u64 p1.size.2.2.2]
abbrev qa1452 (p1 : GWide) (p2 : GWide) (y1 : Int) (y2 : Int) (y3 : Int) : List CV := [cb p1.neg, ck .u64 ((p1.size.1 + p2.size.1 + (0 : Int)) % 18446744073709551616), ck .u64 y1, ck .u64 ((p1.size.2.2.1 + p2.size.2.2.1 + y2) % 18446744073709551616), ck .u64 y3]
abbrev qa1459 (p1 : GWide) (p2 : GWide) : Fr := [(34, .one (.pt 0 0 0 1)), (33, .one (.pt 0 0 0 1)), (32, vk .u64 ((p1.size.1 + p2.size.1 + (0 : Int)) / 18446744073709551616)), (31, vk .u64 ((p1.size.1 + p2.size.1 + (0 : Int)) % 18446744073709551616)), (19, .tp [vk .u64 ((p1.size.1 + p2.size.1 + (0 : Int)) % 18446744073709551616), vk .u64 ((p1.size.1 + p2.size.1 + (0 : Int)) / 18446744073709551616)]), (30, .tp [vk .u64 ((p1.size.1 + p2.size.1 + (0 : Int)) % 18446744073709551616), vk .u64 ((p1.size.1 + p2.size.1 + (0 : Int)) / 18446744073709551616)]), (29, vk .u64 (0 : Int)), (28, vk .u64 p2.size.1), (27, .one (.pv (.rp [(qa1445 p2)] 0 1))), (26, .one (.pv (.rp [(qa1445 p2)] 0 1))), (25, vi (0 : Int)), (24, vk .u64 p1.size.1), (23, .one (.pt 0 0 0 1)), (22, .one (.pt 0 0 0 1)), (21, vi (0 : Int)), (20, vi (0 : Int)), (2, .one (.pt 0 0 0 0)), (3, .one (.pv (.rp [(qa1445 p2)] 0 0))), (4, .one (.pt 1 0 0 0)), (5, vk .u64 (0 : Int)), (6, vi (0 : Int)), (16, vi (0 : Int))]
abbrev qa1465 (p1 : GWide) (p2 : GWide) (y1 : Int) (y2 : Int) : Fr := [(34, .one (.pt 0 0 0 2)), (33, .one (.pt 0 0 0 1)), (32, vk .u64 y2), (31, vk .u64 y1), (19, .tp [vk .u64 y1, vk .u64 y2]), (30, .tp [vk .u64 y1, vk .u64 y2]), (29, vk .u64 ((p1.size.1 + p2.size.1 + (0 : Int)) / 18446744073709551616)), (28, vk .u64 p2.size.2.1), (27, .one (.pv (.rp [(qa1445 p2)] 0 2))), (26, .one (.pv (.rp [(qa1445 p2)] 0 1))), (25, vi (1 : Int)), (24, vk .u64 p1.size.2.1), (23, .one (.pt 0 0 0 2)), (22, .one (.pt 0 0 0 1)), (21, vi (1 : Int)), (20, vi (1 : Int)), (2, .one (.pt 0 0 0 0)), (3, .one (.pv (.rp [(qa1445 p2)] 0 0))), (4, .one (.pt 1 0 0 0)), (5, vk .u64 ((p1.size.1 + p2.size.1 + (0 : Int)) / 18446744073709551616)), (6, vi (1 : Int)), (16, vi (1 : Int))]
abbrev qa1471 (p1 : GWide) (p2 : GWide) (y2 : Int) : Fr := [(34, .one (.pt 0 0 0 3)), (33, .one (.pt 0 0 0 1)), (32, vk .u64 ((p1.size.2.2.1 + p2.size.2.2.1 + y2) / 18446744073709551616)), (31, vk .u64 ((p1.size.2.2.1 + p2.size.2.2.1 + y2) % 18446744073709551616)), (19, .tp [vk .u64 ((p1.size.2.2.1 + p2.size.2.2.1 + y2) % 18446744073709551616), vk .u64 ((p1.size.2.2.1 + p2.size.2.2.1 + y2) / 18446744073709551616)]), (30, .tp [vk .u64 ((p1.size.2.2.1 + p2.size.2.2.1 + y2) % 18446744073709551616), vk .u64 ((p1.size.2.2.1 + p2.size.2.2.1 + y2) / 18446744073709551616)]), (29, vk .u64 y2), (28, vk .u64 p2.size.2.2.1), (27, .one (.pv (.rp [(qa1445 p2)] 0 3))), (26, .one (.pv (.rp [(qa1445 p2)] 0 1))), (25, vi (2 : Int)), (24, vk .u64 p1.size.2.2.1), (23, .one (.pt 0 0 0 3)), (22, .one (.pt 0 0 0 1)), (21, vi (2 : Int)), (20, vi (2 : Int)), (2, .one (.pt 0 0 0 0)), (3, .one (.pv (.rp [(qa1445 p2)] 0 0))), (4, .one (.pt 1 0 0 0)), (5, vk .u64 y2), (6, vi (2 : Int)), (16, vi (2 : Int))]
abbrev qa1477 (p1 : GWide) (p2 : GWide) (y2 : Int) (y3 : Int) (y4 : Int) : Fr := [(34, .one (.pt 0 0 0 4)), (33, .one (.pt 0 0 0 1)), (32, vk .u64 y4), (31, vk .u64 y3), (19, .tp [vk .u64 y3, vk .u64 y4]), (30, .tp [vk .u64 y3, vk .u64 y4]), (29, vk .u64 ((p1.size.2.2.1 + p2.size.2.2.1 + y2) / 18446744073709551616)), (28, vk .u64 p2.size.2.2.2), (27, .one (.pv (.rp [(qa1445 p2)] 0 4))), (26, .one (.pv (.rp [(qa1445 p2)] 0 1))), (25, vi (3 : Int)), (24, vk .u64 p1.size.2.2.2), (23, .one (.pt 0 0 0 4)), (22, .one (.pt 0 0 0 1)), (21, vi (3 : Int)), (20, vi (3 : Int)), (2, .one (.pt 0 0 0 0)), (3, .one (.pv (.rp [(qa1445 p2)] 0 0))), (4, .one (.pt 1 0 0 0)), (5, vk .u64 ((p1.size.2.2.1 + p2.size.2.2.1 + y2) / 18446744073709551616)), (6, vi (3 : Int)), (16, vi (3 : Int))]

mutual

theorem c_value_wide_minus : ∀ (k0 : Nat) (p1 : GWide) (p2 : GWide) (r : GWide), value_wide_minus k0 p1 p2 = some r → PC Tryd.prog 128 [.ag (qa1396 p1), .ag (qa1397 p2)] (.ag [cb r.neg, ck .u64 r.size.1, ck .u64 r.size.2.1, ck .u64 r.size.2.2.1, ck .u64 r.size.2.2.2])
 | 0, _, _, r, h => by rw [value_wide_minus.eq_1] at h; cases h
 | k0 + 1, p1, p2, r, h => by
  rw [value_wide_minus.eq_2] at h
  refine zF 44 Tryd.f128 (zq fun K1 hK1 => zr (zg [2, 3, 4] 3 [2,3,4] (zd (hK1 _ _ (zq fun K2 hK2 => zq fun K3 hK3 => ?_)))))
  refine zr (zg [2, 3, 4] 5 [2,3,4,11] (zd (hK3 _ _ (zC h (fun b4 h => ?_) (fun b4 h => ?_)))))
  ·refine zq fun K5 hK5 => ?_
   obtain ⟨r1, c6, h⟩ := zB h
   obtain ⟨r2, c7, h⟩ := zB h
   refine zw 3 [(14, .ag (qa1399 r1)), (13, .ag (qa1397 p2)), (12, .ag (qa1396 p1)), (2, .one (.pt 0 0 0 0)), (3, .one (.pt 1 0 0 0)), (4, .one (.pt 2 0 0 0)), (11, vb (!(p1.neg == p2.neg)))] ?_ ?_
   ·exact zyv 2 [] [(13, .ag (qa1397 p2)), (12, .ag (qa1396 p1)), (2, .one (.pt 0 0 0 0)), (3, .one (.pt 1 0 0 0)), (4, .one (.pt 2 0 0 0)), (11, vb (!(p1.neg == p2.neg)))] (zya (c_value_wide_negated _ _ c6) zyd)
   refine zl 120 [.ag (qa1396 p1), .ag (qa1399 r1)] (.ag (qa1400 r2)) [(15, .ag (qa1400 r2)), (14, .ag (qa1399 r1)), (13, .ag (qa1397 p2)), (12, .ag (qa1396 p1)), (2, .one (.pt 0 0 0 0)), (3, .one (.pt 1 0 0 0)), (4, .one (.pt 2 0 0 0)), (11, vb (!(p1.neg == p2.neg)))] (c_value_wide_plus k0 _ _ _ c7) ?_
   refine zg [2, 3, 4] 1 [4] (zd (hK5 _ _ (ze ?_)))
   obtain rfl := Option.some.inj h
   exact zf [.ag (qa1400 r2)] (.ag (.cons (.rfl _ rfl) (.cons (.rfl _ rfl) (.cons (.rfl _ rfl) (.cons (.rfl _ rfl) (.cons (.rfl _ rfl) .nil))))))
  ·refine zs (hK2 _ _ (zq fun K8 hK8 => ?_))
   have hJ1 : ∀ (z1 : Bool) (z2 : Int) (z3 : Int) (z4 : Int) (z5 : Int) (z6 : Bool) (z7 : Int) (z8 : Int) (z9 : Int) (z10 : Int), value_wide_minus_j1 z1 z2 z3 z4 z5 z6 z7 z8 z9 z10 = some r → ∀ fr1 st1, Sub 44 0 [] fr1 st1 [(2, .one (.pt 0 0 0 0)), (3, .one (.pt 1 0 0 0)), (4, .one (.pt 2 0 0 0))] [.box [cb z1, ck .u64 z2, ck .u64 z3, ck .u64 z4, ck .u64 z5], .box (qa1403 z6 z7 z8 z9 z10), .box qa1404] → K8 fr1 st1 := by
    intro z1 z2 z3 z4 z5 z6 z7 z8 z9 z10 h fr1 st1 hS
    unfold value_wide_minus_j1 at h
    refine hK8 _ _ (XW.sub hS ?_)
    refine zq fun K13 hK13 => zr (zg [2, 3, 4] 1 [2,3,4,5] (zd (hK13 _ _ (zq fun K14 hK14 => zq fun K15 hK15 => zr ?_))))
    refine zg [2, 3, 4] 1 [2,3,4,5,23] (zd (hK15 _ _ (zb 0 (XW.rounds' 5 (x := cd Tryd.f128 [1,1,1,1,0,1,0,0]) (by kernel_rfl) fun Q1 hQ1 => XR.one (zq fun K16 hK16 => zr ?_)))))
    refine zv [2, 3, 4] 1 [2,3,4,5,23,24] [] [(2, .one (.pt 0 0 0 0)), (3, .one (.pt 1 0 0 0)), (4, .one (.pt 2 0 0 0)), (5, vk .u64 (0 : Int)), (23, vi (0 : Int)), (24, vb true)] [.box [cb z1, ck .u64 z2, ck .u64 z3, ck .u64 z4, ck .u64 z5], .box (qa1403 z6 z7 z8 z9 z10), .box qa1404] (zd (hK16 _ _ (zq fun K17 hK17 => zc true (fun _ => ?_) (fun hx => by cases hx))))
    refine zs (hK17 _ _ (zq fun K18 hK18 => zb 1 (zq fun K19 hK19 => zr (zv [2, 3, 4] 2 [2,3,4,5,6,23] [] [(2, .one (.pt 0 0 0 0)), (3, .one (.pt 1 0 0 0)), (4, .one (.pt 2 0 0 0)), (5, vk .u64 (0 : Int)), (6, vi (0 : Int)), (23, vi (0 : Int))] [.box [cb z1, ck .u64 z2, ck .u64 z3, ck .u64 z4, ck .u64 z5], .box (qa1403 z6 z7 z8 z9 z10), .box qa1404] (zd ?_)))))
    refine hK19 _ _ ?_
    obtain ⟨g20, h⟩ := zG h
    refine XW.drwG 17 [3] [([], []), ([], []), ([0], []), ([0], []), ([0], []), ([], []), ([1], []), ([1], []), ([1], []), ([], []), ([], []), ([], []), ([], []), ([], []), ([0], []), ([0], []), ([0], [0])] (qa1407 z2 z7) [.box (qa1408 z1 z2 z3 z4 z5 z7), .box (qa1403 z6 z7 z8 z9 z10), .box qa1404] (by kernel_rfl) (by kernel_rfl) ?_ ?_
    ·refine GY.go 10 [] [(36, vk .u64 (0 : Int)), (35, vk .u64 z7), (34, .one (.pt 1 0 0 1)), (33, .one (.pt 1 0 0 1)), (32, vi (0 : Int)), (31, vk .u64 z2), (30, .one (.pt 0 0 0 1)), (29, .one (.pt 0 0 0 1)), (28, vi (0 : Int)), (27, vi (0 : Int)), (2, .one (.pt 0 0 0 0)), (3, .one (.pt 1 0 0 0)), (4, .one (.pt 2 0 0 0)), (5, vk .u64 (0 : Int)), (6, vi (0 : Int)), (23, vi (0 : Int))] [0 ≤ (0 : Int) ∧ (0 : Int) < 4, 0 ≤ (0 : Int) ∧ (0 : Int) < 4] (by kernel_rfl) (⟨by decide, by decide, trivial⟩) ?_
     refine GY.ext 132 [.int .u64 z2, .int .u64 z7, .int .u64 (0 : Int)] [.int .u64 ((z2 - z7 - (0 : Int)) % 18446744073709551616), .int .u64 (if z2 < z7 + (0 : Int) then (1 : Int) else (0 : Int))] [(37, .tp [vk .u64 ((z2 - z7 - (0 : Int)) % 18446744073709551616), vk .u64 (if z2 < z7 + (0 : Int) then (1 : Int) else (0 : Int))]), (36, vk .u64 (0 : Int)), (35, vk .u64 z7), (34, .one (.pt 1 0 0 1)), (33, .one (.pt 1 0 0 1)), (32, vi (0 : Int)), (31, vk .u64 z2), (30, .one (.pt 0 0 0 1)), (29, .one (.pt 0 0 0 1)), (28, vi (0 : Int)), (27, vi (0 : Int)), (2, .one (.pt 0 0 0 0)), (3, .one (.pt 1 0 0 0)), (4, .one (.pt 2 0 0 0)), (5, vk .u64 (0 : Int)), (6, vi (0 : Int)), (23, vi (0 : Int))] [] (by kernel_rfl) (by kernel_rfl) (ext_Sub64 (fn := Tryd.f132) (by kernel_rfl) (by kernel_rfl) (by kernel_rfl) (by kernel_rfl) (by kernel_rfl) g20.1 g20.2.1 g20.2.2.1 g20.2.2.2.1 g20.2.2.2.2) rfl (by kernel_rfl) (by kernel_rfl) (by kernel_rfl) ?_
     refine GY.go 5 [] (qa1407 z2 z7) [0 ≤ (0 : Int) ∧ (0 : Int) < 4] (by kernel_rfl) (⟨by decide, trivial⟩) ?_
     refine GY.wr [] (qa1407 z2 z7) [0] [.box (qa1408 z1 z2 z3 z4 z5 z7), .box (qa1403 z6 z7 z8 z9 z10), .box qa1404] [] (by kernel_rfl) (by kernel_rfl) trivial ?_
     exact GY.done (by kernel_rfl) (by kernel_rfl)
    refine zg [2, 3, 4] 1 [2,3,4,5,23] (zd (hK18 _ _ (zr (zv [2, 3, 4] 2 [2,3,4,5,23] [] [(2, .one (.pt 0 0 0 0)), (3, .one (.pt 1 0 0 0)), (4, .one (.pt 2 0 0 0)), (5, vk .u64 (if z2 < z7 + (0 : Int) then (1 : Int) else (0 : Int))), (23, vi (1 : Int))] [.box (qa1408 z1 z2 z3 z4 z5 z7), .box (qa1403 z6 z7 z8 z9 z10), .box qa1404] (zd (XR.one (zq fun K21 hK21 => ?_)))))))
    refine zr (zg [2, 3, 4] 1 [2,3,4,5,23,24] (zd (hK21 _ _ (zq fun K22 hK22 => zc true (fun _ => ?_) (fun hx => by cases hx)))))
    refine zs (hK22 _ _ (zq fun K23 hK23 => zb 1 (zq fun K24 hK24 => zr (zv [2, 3, 4] 2 [2,3,4,5,6,23] [] [(2, .one (.pt 0 0 0 0)), (3, .one (.pt 1 0 0 0)), (4, .one (.pt 2 0 0 0)), (5, vk .u64 (if z2 < z7 + (0 : Int) then (1 : Int) else (0 : Int))), (6, vi (1 : Int)), (23, vi (1 : Int))] [.box (qa1408 z1 z2 z3 z4 z5 z7), .box (qa1403 z6 z7 z8 z9 z10), .box qa1404] (zd ?_)))))
    refine hK24 _ _ ?_
    obtain ⟨g25, h⟩ := zG h
    obtain ⟨y1, hy26, h⟩ := zB h
    obtain ⟨y2, hy27, h⟩ := zB h
    refine XW.drwG 17 [3] [([], []), ([], []), ([0], []), ([0], []), ([0], []), ([], []), ([1], []), ([1], []), ([1], []), ([], []), ([], []), ([], []), ([], []), ([], []), ([0], []), ([0], []), ([0], [0])] (qa1413 z2 z3 z7 z8 y1 y2) [.box (qa1414 z1 z2 z4 z5 z7 y1), .box (qa1403 z6 z7 z8 z9 z10), .box qa1404] (by kernel_rfl) (by kernel_rfl) ?_ ?_
    ·refine GY.go 10 [] [(36, vk .u64 (if z2 < z7 + (0 : Int) then (1 : Int) else (0 : Int))), (35, vk .u64 z8), (34, .one (.pt 1 0 0 2)), (33, .one (.pt 1 0 0 1)), (32, vi (1 : Int)), (31, vk .u64 z3), (30, .one (.pt 0 0 0 2)), (29, .one (.pt 0 0 0 1)), (28, vi (1 : Int)), (27, vi (1 : Int)), (2, .one (.pt 0 0 0 0)), (3, .one (.pt 1 0 0 0)), (4, .one (.pt 2 0 0 0)), (5, vk .u64 (if z2 < z7 + (0 : Int) then (1 : Int) else (0 : Int))), (6, vi (1 : Int)), (23, vi (1 : Int))] [0 ≤ (1 : Int) ∧ (1 : Int) < 4, 0 ≤ (1 : Int) ∧ (1 : Int) < 4] (by kernel_rfl) (⟨by decide, by decide, trivial⟩) ?_
     refine GY.ext 132 [.int .u64 z3, .int .u64 z8, .int .u64 (if z2 < z7 + (0 : Int) then (1 : Int) else (0 : Int))] [.int .u64 ((z3 - z8 - (if z2 < z7 + (0 : Int) then (1 : Int) else (0 : Int))) % 18446744073709551616), .int .u64 (if z3 < z8 + (if z2 < z7 + (0 : Int) then (1 : Int) else (0 : Int)) then (1 : Int) else (0 : Int))] [(37, .tp [vk .u64 ((z3 - z8 - (if z2 < z7 + (0 : Int) then (1 : Int) else (0 : Int))) % 18446744073709551616), vk .u64 (if z3 < z8 + (if z2 < z7 + (0 : Int) then (1 : Int) else (0 : Int)) then (1 : Int) else (0 : Int))]), (36, vk .u64 (if z2 < z7 + (0 : Int) then (1 : Int) else (0 : Int))), (35, vk .u64 z8), (34, .one (.pt 1 0 0 2)), (33, .one (.pt 1 0 0 1)), (32, vi (1 : Int)), (31, vk .u64 z3), (30, .one (.pt 0 0 0 2)), (29, .one (.pt 0 0 0 1)), (28, vi (1 : Int)), (27, vi (1 : Int)), (2, .one (.pt 0 0 0 0)), (3, .one (.pt 1 0 0 0)), (4, .one (.pt 2 0 0 0)), (5, vk .u64 (if z2 < z7 + (0 : Int) then (1 : Int) else (0 : Int))), (6, vi (1 : Int)), (23, vi (1 : Int))] [] (by kernel_rfl) (by kernel_rfl) (ext_Sub64 (fn := Tryd.f132) (by kernel_rfl) (by kernel_rfl) (by kernel_rfl) (by kernel_rfl) (by kernel_rfl) g25.1 g25.2.1 g25.2.2.1 g25.2.2.2.1 g25.2.2.2.2) rfl (by kernel_rfl) (by kernel_rfl) (by kernel_rfl) ?_
     refine zgv 2 [] [(38, vk .u64 ((z3 - z8 - (if z2 < z7 + (0 : Int) then (1 : Int) else (0 : Int))) % 18446744073709551616)), (26, .tp [vk .u64 ((z3 - z8 - (if z2 < z7 + (0 : Int) then (1 : Int) else (0 : Int))) % 18446744073709551616), vk .u64 (if z3 < z8 + (if z2 < z7 + (0 : Int) then (1 : Int) else (0 : Int)) then (1 : Int) else (0 : Int))]), (37, .tp [vk .u64 ((z3 - z8 - (if z2 < z7 + (0 : Int) then (1 : Int) else (0 : Int))) % 18446744073709551616), vk .u64 (if z3 < z8 + (if z2 < z7 + (0 : Int) then (1 : Int) else (0 : Int)) then (1 : Int) else (0 : Int))]), (36, vk .u64 (if z2 < z7 + (0 : Int) then (1 : Int) else (0 : Int))), (35, vk .u64 z8), (34, .one (.pt 1 0 0 2)), (33, .one (.pt 1 0 0 1)), (32, vi (1 : Int)), (31, vk .u64 z3), (30, .one (.pt 0 0 0 2)), (29, .one (.pt 0 0 0 1)), (28, vi (1 : Int)), (27, vi (1 : Int)), (2, .one (.pt 0 0 0 0)), (3, .one (.pt 1 0 0 0)), (4, .one (.pt 2 0 0 0)), (5, vk .u64 (if z2 < z7 + (0 : Int) then (1 : Int) else (0 : Int))), (6, vi (1 : Int)), (23, vi (1 : Int))] ?_
     rw [show ((z3 - z8 - (if z2 < z7 + (0 : Int) then (1 : Int) else (0 : Int))) % 18446744073709551616) = y1 from Option.some.inj hy26]
     refine zgv 1 [] [(39, vk .u64 (if z3 < z8 + (if z2 < z7 + (0 : Int) then (1 : Int) else (0 : Int)) then (1 : Int) else (0 : Int))), (38, vk .u64 y1), (26, .tp [vk .u64 y1, vk .u64 (if z3 < z8 + (if z2 < z7 + (0 : Int) then (1 : Int) else (0 : Int)) then (1 : Int) else (0 : Int))]), (37, .tp [vk .u64 y1, vk .u64 (if z3 < z8 + (if z2 < z7 + (0 : Int) then (1 : Int) else (0 : Int)) then (1 : Int) else (0 : Int))]), (36, vk .u64 (if z2 < z7 + (0 : Int) then (1 : Int) else (0 : Int))), (35, vk .u64 z8), (34, .one (.pt 1 0 0 2)), (33, .one (.pt 1 0 0 1)), (32, vi (1 : Int)), (31, vk .u64 z3), (30, .one (.pt 0 0 0 2)), (29, .one (.pt 0 0 0 1)), (28, vi (1 : Int)), (27, vi (1 : Int)), (2, .one (.pt 0 0 0 0)), (3, .one (.pt 1 0 0 0)), (4, .one (.pt 2 0 0 0)), (5, vk .u64 (if z2 < z7 + (0 : Int) then (1 : Int) else (0 : Int))), (6, vi (1 : Int)), (23, vi (1 : Int))] ?_
     rw [show (if z3 < z8 + (if z2 < z7 + (0 : Int) then (1 : Int) else (0 : Int)) then (1 : Int) else (0 : Int)) = y2 from Option.some.inj hy27]
     refine GY.go 2 [] (qa1413 z2 z3 z7 z8 y1 y2) [0 ≤ (1 : Int) ∧ (1 : Int) < 4] (by kernel_rfl) (⟨by decide, trivial⟩) ?_
     refine GY.wr [] (qa1413 z2 z3 z7 z8 y1 y2) [0] [.box (qa1414 z1 z2 z4 z5 z7 y1), .box (qa1403 z6 z7 z8 z9 z10), .box qa1404] [] (by kernel_rfl) (by kernel_rfl) trivial ?_
     exact GY.done (by kernel_rfl) (by kernel_rfl)
    refine zg [2, 3, 4] 1 [2,3,4,5,23] (zd (hK23 _ _ (zr (zv [2, 3, 4] 2 [2,3,4,5,23] [] [(2, .one (.pt 0 0 0 0)), (3, .one (.pt 1 0 0 0)), (4, .one (.pt 2 0 0 0)), (5, vk .u64 y2), (23, vi (2 : Int))] [.box (qa1414 z1 z2 z4 z5 z7 y1), .box (qa1403 z6 z7 z8 z9 z10), .box qa1404] (zd (XR.one (zq fun K28 hK28 => ?_)))))))
    refine zr (zg [2, 3, 4] 1 [2,3,4,5,23,24] (zd (hK28 _ _ (zq fun K29 hK29 => zc true (fun _ => ?_) (fun hx => by cases hx)))))
    refine zs (hK29 _ _ (zq fun K30 hK30 => zb 1 (zq fun K31 hK31 => zr (zv [2, 3, 4] 2 [2,3,4,5,6,23] [] [(2, .one (.pt 0 0 0 0)), (3, .one (.pt 1 0 0 0)), (4, .one (.pt 2 0 0 0)), (5, vk .u64 y2), (6, vi (2 : Int)), (23, vi (2 : Int))] [.box (qa1414 z1 z2 z4 z5 z7 y1), .box (qa1403 z6 z7 z8 z9 z10), .box qa1404] (zd ?_)))))
    refine hK31 _ _ ?_
    obtain ⟨g32, h⟩ := zG h
    refine XW.drwG 17 [3] [([], []), ([], []), ([0], []), ([0], []), ([0], []), ([], []), ([1], []), ([1], []), ([1], []), ([], []), ([], []), ([], []), ([], []), ([], []), ([0], []), ([0], []), ([0], [0])] (qa1419 z4 z9 y2) [.box (qa1420 z1 z2 z4 z5 z7 z9 y1 y2), .box (qa1403 z6 z7 z8 z9 z10), .box qa1404] (by kernel_rfl) (by kernel_rfl) ?_ ?_
    ·refine GY.go 10 [] [(36, vk .u64 y2), (35, vk .u64 z9), (34, .one (.pt 1 0 0 3)), (33, .one (.pt 1 0 0 1)), (32, vi (2 : Int)), (31, vk .u64 z4), (30, .one (.pt 0 0 0 3)), (29, .one (.pt 0 0 0 1)), (28, vi (2 : Int)), (27, vi (2 : Int)), (2, .one (.pt 0 0 0 0)), (3, .one (.pt 1 0 0 0)), (4, .one (.pt 2 0 0 0)), (5, vk .u64 y2), (6, vi (2 : Int)), (23, vi (2 : Int))] [0 ≤ (2 : Int) ∧ (2 : Int) < 4, 0 ≤ (2 : Int) ∧ (2 : Int) < 4] (by kernel_rfl) (⟨by decide, by decide, trivial⟩) ?_
     refine GY.ext 132 [.int .u64 z4, .int .u64 z9, .int .u64 y2] [.int .u64 ((z4 - z9 - y2) % 18446744073709551616), .int .u64 (if z4 < z9 + y2 then (1 : Int) else (0 : Int))] [(37, .tp [vk .u64 ((z4 - z9 - y2) % 18446744073709551616), vk .u64 (if z4 < z9 + y2 then (1 : Int) else (0 : Int))]), (36, vk .u64 y2), (35, vk .u64 z9), (34, .one (.pt 1 0 0 3)), (33, .one (.pt 1 0 0 1)), (32, vi (2 : Int)), (31, vk .u64 z4), (30, .one (.pt 0 0 0 3)), (29, .one (.pt 0 0 0 1)), (28, vi (2 : Int)), (27, vi (2 : Int)), (2, .one (.pt 0 0 0 0)), (3, .one (.pt 1 0 0 0)), (4, .one (.pt 2 0 0 0)), (5, vk .u64 y2), (6, vi (2 : Int)), (23, vi (2 : Int))] [] (by kernel_rfl) (by kernel_rfl) (ext_Sub64 (fn := Tryd.f132) (by kernel_rfl) (by kernel_rfl) (by kernel_rfl) (by kernel_rfl) (by kernel_rfl) g32.1 g32.2.1 g32.2.2.1 g32.2.2.2.1 g32.2.2.2.2) rfl (by kernel_rfl) (by kernel_rfl) (by kernel_rfl) ?_
     refine GY.go 5 [] (qa1419 z4 z9 y2) [0 ≤ (2 : Int) ∧ (2 : Int) < 4] (by kernel_rfl) (⟨by decide, trivial⟩) ?_
     refine GY.wr [] (qa1419 z4 z9 y2) [0] [.box (qa1420 z1 z2 z4 z5 z7 z9 y1 y2), .box (qa1403 z6 z7 z8 z9 z10), .box qa1404] [] (by kernel_rfl) (by kernel_rfl) trivial ?_
     exact GY.done (by kernel_rfl) (by kernel_rfl)
    refine zg [2, 3, 4] 1 [2,3,4,5,23] (zd (hK30 _ _ (zr (zv [2, 3, 4] 2 [2,3,4,5,23] [] [(2, .one (.pt 0 0 0 0)), (3, .one (.pt 1 0 0 0)), (4, .one (.pt 2 0 0 0)), (5, vk .u64 (if z4 < z9 + y2 then (1 : Int) else (0 : Int))), (23, vi (3 : Int))] [.box (qa1420 z1 z2 z4 z5 z7 z9 y1 y2), .box (qa1403 z6 z7 z8 z9 z10), .box qa1404] (zd (XR.one (zq fun K33 hK33 => ?_)))))))
    refine zr (zg [2, 3, 4] 1 [2,3,4,5,23,24] (zd (hK33 _ _ (zq fun K34 hK34 => zc true (fun _ => ?_) (fun hx => by cases hx)))))
    refine zs (hK34 _ _ (zq fun K35 hK35 => zb 1 (zq fun K36 hK36 => zr (zv [2, 3, 4] 2 [2,3,4,5,6,23] [] [(2, .one (.pt 0 0 0 0)), (3, .one (.pt 1 0 0 0)), (4, .one (.pt 2 0 0 0)), (5, vk .u64 (if z4 < z9 + y2 then (1 : Int) else (0 : Int))), (6, vi (3 : Int)), (23, vi (3 : Int))] [.box (qa1420 z1 z2 z4 z5 z7 z9 y1 y2), .box (qa1403 z6 z7 z8 z9 z10), .box qa1404] (zd ?_)))))
    refine hK36 _ _ ?_
    obtain ⟨g37, h⟩ := zG h
    obtain ⟨y3, hy38, h⟩ := zB h
    obtain ⟨y4, hy39, h⟩ := zB h
    refine XW.drwG 17 [3] [([], []), ([], []), ([0], []), ([0], []), ([0], []), ([], []), ([1], []), ([1], []), ([1], []), ([], []), ([], []), ([], []), ([], []), ([], []), ([0], []), ([0], []), ([0], [0])] (qa1425 z4 z5 z9 z10 y2 y3 y4) [.box (qa1426 z1 z2 z4 z7 z9 y1 y2 y3), .box (qa1403 z6 z7 z8 z9 z10), .box qa1404] (by kernel_rfl) (by kernel_rfl) ?_ ?_
    ·refine GY.go 10 [] [(36, vk .u64 (if z4 < z9 + y2 then (1 : Int) else (0 : Int))), (35, vk .u64 z10), (34, .one (.pt 1 0 0 4)), (33, .one (.pt 1 0 0 1)), (32, vi (3 : Int)), (31, vk .u64 z5), (30, .one (.pt 0 0 0 4)), (29, .one (.pt 0 0 0 1)), (28, vi (3 : Int)), (27, vi (3 : Int)), (2, .one (.pt 0 0 0 0)), (3, .one (.pt 1 0 0 0)), (4, .one (.pt 2 0 0 0)), (5, vk .u64 (if z4 < z9 + y2 then (1 : Int) else (0 : Int))), (6, vi (3 : Int)), (23, vi (3 : Int))] [0 ≤ (3 : Int) ∧ (3 : Int) < 4, 0 ≤ (3 : Int) ∧ (3 : Int) < 4] (by kernel_rfl) (⟨by decide, by decide, trivial⟩) ?_
     refine GY.ext 132 [.int .u64 z5, .int .u64 z10, .int .u64 (if z4 < z9 + y2 then (1 : Int) else (0 : Int))] [.int .u64 ((z5 - z10 - (if z4 < z9 + y2 then (1 : Int) else (0 : Int))) % 18446744073709551616), .int .u64 (if z5 < z10 + (if z4 < z9 + y2 then (1 : Int) else (0 : Int)) then (1 : Int) else (0 : Int))] [(37, .tp [vk .u64 ((z5 - z10 - (if z4 < z9 + y2 then (1 : Int) else (0 : Int))) % 18446744073709551616), vk .u64 (if z5 < z10 + (if z4 < z9 + y2 then (1 : Int) else (0 : Int)) then (1 : Int) else (0 : Int))]), (36, vk .u64 (if z4 < z9 + y2 then (1 : Int) else (0 : Int))), (35, vk .u64 z10), (34, .one (.pt 1 0 0 4)), (33, .one (.pt 1 0 0 1)), (32, vi (3 : Int)), (31, vk .u64 z5), (30, .one (.pt 0 0 0 4)), (29, .one (.pt 0 0 0 1)), (28, vi (3 : Int)), (27, vi (3 : Int)), (2, .one (.pt 0 0 0 0)), (3, .one (.pt 1 0 0 0)), (4, .one (.pt 2 0 0 0)), (5, vk .u64 (if z4 < z9 + y2 then (1 : Int) else (0 : Int))), (6, vi (3 : Int)), (23, vi (3 : Int))] [] (by kernel_rfl) (by kernel_rfl) (ext_Sub64 (fn := Tryd.f132) (by kernel_rfl) (by kernel_rfl) (by kernel_rfl) (by kernel_rfl) (by kernel_rfl) g37.1 g37.2.1 g37.2.2.1 g37.2.2.2.1 g37.2.2.2.2) rfl (by kernel_rfl) (by kernel_rfl) (by kernel_rfl) ?_
     refine zgv 2 [] [(38, vk .u64 ((z5 - z10 - (if z4 < z9 + y2 then (1 : Int) else (0 : Int))) % 18446744073709551616)), (26, .tp [vk .u64 ((z5 - z10 - (if z4 < z9 + y2 then (1 : Int) else (0 : Int))) % 18446744073709551616), vk .u64 (if z5 < z10 + (if z4 < z9 + y2 then (1 : Int) else (0 : Int)) then (1 : Int) else (0 : Int))]), (37, .tp [vk .u64 ((z5 - z10 - (if z4 < z9 + y2 then (1 : Int) else (0 : Int))) % 18446744073709551616), vk .u64 (if z5 < z10 + (if z4 < z9 + y2 then (1 : Int) else (0 : Int)) then (1 : Int) else (0 : Int))]), (36, vk .u64 (if z4 < z9 + y2 then (1 : Int) else (0 : Int))), (35, vk .u64 z10), (34, .one (.pt 1 0 0 4)), (33, .one (.pt 1 0 0 1)), (32, vi (3 : Int)), (31, vk .u64 z5), (30, .one (.pt 0 0 0 4)), (29, .one (.pt 0 0 0 1)), (28, vi (3 : Int)), (27, vi (3 : Int)), (2, .one (.pt 0 0 0 0)), (3, .one (.pt 1 0 0 0)), (4, .one (.pt 2 0 0 0)), (5, vk .u64 (if z4 < z9 + y2 then (1 : Int) else (0 : Int))), (6, vi (3 : Int)), (23, vi (3 : Int))] ?_
     rw [show ((z5 - z10 - (if z4 < z9 + y2 then (1 : Int) else (0 : Int))) % 18446744073709551616) = y3 from Option.some.inj hy38]
     refine zgv 1 [] [(39, vk .u64 (if z5 < z10 + (if z4 < z9 + y2 then (1 : Int) else (0 : Int)) then (1 : Int) else (0 : Int))), (38, vk .u64 y3), (26, .tp [vk .u64 y3, vk .u64 (if z5 < z10 + (if z4 < z9 + y2 then (1 : Int) else (0 : Int)) then (1 : Int) else (0 : Int))]), (37, .tp [vk .u64 y3, vk .u64 (if z5 < z10 + (if z4 < z9 + y2 then (1 : Int) else (0 : Int)) then (1 : Int) else (0 : Int))]), (36, vk .u64 (if z4 < z9 + y2 then (1 : Int) else (0 : Int))), (35, vk .u64 z10), (34, .one (.pt 1 0 0 4)), (33, .one (.pt 1 0 0 1)), (32, vi (3 : Int)), (31, vk .u64 z5), (30, .one (.pt 0 0 0 4)), (29, .one (.pt 0 0 0 1)), (28, vi (3 : Int)), (27, vi (3 : Int)), (2, .one (.pt 0 0 0 0)), (3, .one (.pt 1 0 0 0)), (4, .one (.pt 2 0 0 0)), (5, vk .u64 (if z4 < z9 + y2 then (1 : Int) else (0 : Int))), (6, vi (3 : Int)), (23, vi (3 : Int))] ?_
     rw [show (if z5 < z10 + (if z4 < z9 + y2 then (1 : Int) else (0 : Int)) then (1 : Int) else (0 : Int)) = y4 from Option.some.inj hy39]
     refine GY.go 2 [] (qa1425 z4 z5 z9 z10 y2 y3 y4) [0 ≤ (3 : Int) ∧ (3 : Int) < 4] (by kernel_rfl) (⟨by decide, trivial⟩) ?_
     refine GY.wr [] (qa1425 z4 z5 z9 z10 y2 y3 y4) [0] [.box (qa1426 z1 z2 z4 z7 z9 y1 y2 y3), .box (qa1403 z6 z7 z8 z9 z10), .box qa1404] [] (by kernel_rfl) (by kernel_rfl) trivial ?_
     exact GY.done (by kernel_rfl) (by kernel_rfl)
    refine zg [2, 3, 4] 1 [2,3,4,5,23] (zd (hK35 _ _ (zr (zv [2, 3, 4] 2 [2,3,4,5,23] [] [(2, .one (.pt 0 0 0 0)), (3, .one (.pt 1 0 0 0)), (4, .one (.pt 2 0 0 0)), (5, vk .u64 y4), (23, vi (4 : Int))] [.box (qa1426 z1 z2 z4 z7 z9 y1 y2 y3), .box (qa1403 z6 z7 z8 z9 z10), .box qa1404] (zd (XR.one (zq fun K40 hK40 => ?_)))))))
    refine zr (zg [2, 3, 4] 1 [2,3,4,5,23,24] (zd (hK40 _ _ (zq fun K41 hK41 => zc false (fun hx => by cases hx) (fun _ => ?_)))))
    refine zx 0 (hQ1 _ _ _ (hK14 _ _ (zq fun K42 hK42 => zr (zg [2, 3, 4] 2 [4] (zd (hK42 _ _ ?_))))))
    refine ze ?_
    obtain rfl := Option.some.inj h
    exact zf [.ag (qa1426 z1 z2 z4 z7 z9 y1 y2 y3)] (.ag (.cons (.rfl _ rfl) (.cons (.rfl _ rfl) (.cons (.rfl _ rfl) (.cons (.rfl _ rfl) (.cons (.rfl _ rfl) .nil))))))
   refine zq fun K9 hK9 => ?_
   obtain ⟨r3, c10, h⟩ := zB h
   refine zr (zg [2, 3, 4] 2 [2,3,4,16,17] ?_)
   refine zl 131 [.ag (qa1396 p1), .ag (qa1397 p2)] (vi r3) [(18, vi r3), (2, .one (.pt 0 0 0 0)), (3, .one (.pt 1 0 0 0)), (4, .one (.pt 2 0 0 0)), (16, .ag (qa1396 p1)), (17, .ag (qa1397 p2))] (c_value_compareSize _ _ _ c10) (zg [2, 3, 4] 1 [2,3,4,19] ?_)
   refine zd (hK9 _ _ (zC h (fun b11 h => ?_) (fun b11 h => ?_)))
   ·obtain ⟨r4, c12, h⟩ := zB h
    refine zw 3 [(22, .ag (qa1396 p1)), (21, .ag (qa1430 r4)), (20, .ag (qa1397 p2)), (2, .one (.pt 0 0 0 0)), (3, .one (.pt 1 0 0 0)), (4, .one (.pt 2 0 0 0)), (19, vb (decide (r3 < (0 : Int))))] ?_ ?_
    ·refine zyg 1 ?_
     refine DX.cal 129 [.ag (qa1397 p2)] (.ag (qa1430 r4)) [(21, .ag (qa1430 r4)), (20, .ag (qa1397 p2)), (2, .one (.pt 0 0 0 0)), (3, .one (.pt 1 0 0 0)), (4, .one (.pt 2 0 0 0)), (19, vb (decide (r3 < (0 : Int))))] (by kernel_rfl) (c_value_wide_negated _ _ c12) rfl rfl (by kernel_rfl) ?_
     exact zyg 1 zyd
    exact zg [2, 3, 4] 2 [2,3,4] (zd (hJ1 r4.neg r4.size.1 r4.size.2.1 r4.size.2.2.1 r4.size.2.2.2 p1.neg p1.size.1 p1.size.2.1 p1.size.2.2.1 p1.size.2.2.2 h _ _ (zk [2,3,4])))
   ·exact zs (hJ1 p1.neg p1.size.1 p1.size.2.1 p1.size.2.2.1 p1.size.2.2.2 p2.neg p2.size.1 p2.size.2.1 p2.size.2.2.1 p2.size.2.2.2 h _ _ (zk [2,3,4]))

theorem c_value_wide_plus : ∀ (k0 : Nat) (p1 : GWide) (p2 : GWide) (r : GWide), value_wide_plus k0 p1 p2 = some r → PC Tryd.prog 120 [.ag (qa1442 p1), .ag (qa1443 p2)] (.ag [cb r.neg, ck .u64 r.size.1, ck .u64 r.size.2.1, ck .u64 r.size.2.2.1, ck .u64 r.size.2.2.2])
 | 0, _, _, r, h => by rw [value_wide_plus.eq_1] at h; cases h
 | k0 + 1, p1, p2, r, h => by
  rw [value_wide_plus.eq_2] at h
  refine zF 37 Tryd.f120 (zq fun K1 hK1 => zr (zg [2, 4] 3 [2,3,4] (zd (hK1 _ _ (zq fun K2 hK2 => zq fun K3 hK3 => ?_)))))
  refine zr (zu [2, 4] 5 [2,3,4,11] [(qa1445 p2)] (zd (hK3 _ _ (zC h (fun b4 h => ?_) (fun b4 h => ?_)))))
  ·refine zq fun K5 hK5 => ?_
   obtain ⟨r1, c6, h⟩ := zB h
   obtain ⟨r2, c7, h⟩ := zB h
   refine zw 3 [(14, .ag (qa1446 r1)), (13, .ag (qa1443 p2)), (12, .ag (qa1442 p1)), (2, .one (.pt 0 0 0 0)), (3, .one (.pv (.rp [(qa1445 p2)] 0 0))), (4, .one (.pt 1 0 0 0)), (11, vb (!(p1.neg == p2.neg)))] ?_ ?_
   ·refine zyv 2 [(qa1445 p2)] [(13, .ag (qa1443 p2)), (12, .ag (qa1442 p1)), (2, .one (.pt 0 0 0 0)), (3, .one (.pv (.rp [(qa1445 p2)] 0 0))), (4, .one (.pt 1 0 0 0)), (11, vb (!(p1.neg == p2.neg)))] ?_
    exact zya (c_value_wide_negated _ _ c6) zyd
   refine zl 128 [.ag (qa1442 p1), .ag (qa1446 r1)] (.ag (qa1447 r2)) [(15, .ag (qa1447 r2)), (14, .ag (qa1446 r1)), (13, .ag (qa1443 p2)), (12, .ag (qa1442 p1)), (2, .one (.pt 0 0 0 0)), (3, .one (.pv (.rp [(qa1445 p2)] 0 0))), (4, .one (.pt 1 0 0 0)), (11, vb (!(p1.neg == p2.neg)))] (c_value_wide_minus k0 _ _ _ c7) ?_
   refine zg [2, 4] 1 [4] (zd (hK5 _ _ (ze ?_)))
   obtain rfl := Option.some.inj h
   exact zf [.ag (qa1447 r2)] (.ag (.cons (.rfl _ rfl) (.cons (.rfl _ rfl) (.cons (.rfl _ rfl) (.cons (.rfl _ rfl) (.cons (.rfl _ rfl) .nil))))))
  ·refine zs (hK2 _ _ (zq fun K8 hK8 => zr (zg [2, 4] 1 [2,3,4,5] (zd (hK8 _ _ (zq fun K9 hK9 => ?_))))))
   refine zq fun K10 hK10 => zr (zv [2, 4] 1 [2,3,4,5,16] [] [(2, .one (.pt 0 0 0 0)), (3, .one (.pv (.rp [(qa1445 p2)] 0 0))), (4, .one (.pt 1 0 0 0)), (5, vk .u64 (0 : Int)), (16, vi (0 : Int))] [.box (qa1442 p1), .box qa1448] (zd (hK10 _ _ (zb 0 ?_))))
   refine XW.rounds' 5 (x := cd Tryd.f120 [1,1,1,0,1,0,0]) (by kernel_rfl) fun Q1 hQ1 => XR.one (zq fun K11 hK11 => zr (zg [2, 4] 1 [2,3,4,5,16,17] (zd (hK11 _ _ (zq fun K12 hK12 => ?_)))))
   refine zc true (fun _ => ?_) (fun hx => by cases hx)
   refine zs (hK12 _ _ (zq fun K13 hK13 => zb 1 (zq fun K14 hK14 => zr (zv [2, 4] 2 [2,3,4,5,6,16] [] [(2, .one (.pt 0 0 0 0)), (3, .one (.pv (.rp [(qa1445 p2)] 0 0))), (4, .one (.pt 1 0 0 0)), (5, vk .u64 (0 : Int)), (6, vi (0 : Int)), (16, vi (0 : Int))] [.box (qa1442 p1), .box qa1448] (zd ?_)))))
   refine hK14 _ _ ?_
   obtain ⟨g15, h⟩ := zG h
   refine XW.drwG 17 [2] [([], []), ([], []), ([0], []), ([0], []), ([0], []), ([], []), ([], []), ([], []), ([], []), ([], []), ([], []), ([], []), ([], []), ([], []), ([0], []), ([0], []), ([0], [0])] (qa1459 p1 p2) [.box (qa1449 p1 p2), .box qa1448] (by kernel_rfl) (by kernel_rfl) ?_ ?_
   ·refine GY.go 10 [(qa1445 p2)] [(29, vk .u64 (0 : Int)), (28, vk .u64 p2.size.1), (27, .one (.pv (.rp [(qa1445 p2)] 0 1))), (26, .one (.pv (.rp [(qa1445 p2)] 0 1))), (25, vi (0 : Int)), (24, vk .u64 p1.size.1), (23, .one (.pt 0 0 0 1)), (22, .one (.pt 0 0 0 1)), (21, vi (0 : Int)), (20, vi (0 : Int)), (2, .one (.pt 0 0 0 0)), (3, .one (.pv (.rp [(qa1445 p2)] 0 0))), (4, .one (.pt 1 0 0 0)), (5, vk .u64 (0 : Int)), (6, vi (0 : Int)), (16, vi (0 : Int))] [0 ≤ (0 : Int) ∧ (0 : Int) < 4, 0 ≤ (0 : Int) ∧ (0 : Int) < 4, ([(qa1445 p2)] : List (List PV))[0]? = some (qa1445 p2)] (by kernel_rfl) (⟨by decide, by decide, rfl, trivial⟩) ?_
    refine GY.ext 127 [.int .u64 p1.size.1, .int .u64 p2.size.1, .int .u64 (0 : Int)] [.int .u64 ((p1.size.1 + p2.size.1 + (0 : Int)) % 18446744073709551616), .int .u64 ((p1.size.1 + p2.size.1 + (0 : Int)) / 18446744073709551616)] [(30, .tp [vk .u64 ((p1.size.1 + p2.size.1 + (0 : Int)) % 18446744073709551616), vk .u64 ((p1.size.1 + p2.size.1 + (0 : Int)) / 18446744073709551616)]), (29, vk .u64 (0 : Int)), (28, vk .u64 p2.size.1), (27, .one (.pv (.rp [(qa1445 p2)] 0 1))), (26, .one (.pv (.rp [(qa1445 p2)] 0 1))), (25, vi (0 : Int)), (24, vk .u64 p1.size.1), (23, .one (.pt 0 0 0 1)), (22, .one (.pt 0 0 0 1)), (21, vi (0 : Int)), (20, vi (0 : Int)), (2, .one (.pt 0 0 0 0)), (3, .one (.pv (.rp [(qa1445 p2)] 0 0))), (4, .one (.pt 1 0 0 0)), (5, vk .u64 (0 : Int)), (6, vi (0 : Int)), (16, vi (0 : Int))] [] (by kernel_rfl) (by kernel_rfl) (ext_Add64 (fn := Tryd.f127) (by kernel_rfl) (by kernel_rfl) (by kernel_rfl) (by kernel_rfl) (by kernel_rfl) g15.1 g15.2.1 g15.2.2.1 g15.2.2.2) rfl (by kernel_rfl) (by kernel_rfl) (by kernel_rfl) ?_
    refine GY.go 5 [] (qa1459 p1 p2) [0 ≤ (0 : Int) ∧ (0 : Int) < 4] (by kernel_rfl) (⟨by decide, trivial⟩) ?_
    refine GY.wr [] (qa1459 p1 p2) [0] [.box (qa1449 p1 p2), .box qa1448] [] (by kernel_rfl) (by kernel_rfl) trivial ?_
    exact GY.done (by kernel_rfl) (by kernel_rfl)
   refine zg [2, 4] 1 [2,3,4,5,16] (zd (hK13 _ _ (zr ?_)))
   refine zv [2, 4] 2 [2,3,4,5,16] [] [(2, .one (.pt 0 0 0 0)), (3, .one (.pv (.rp [(qa1445 p2)] 0 0))), (4, .one (.pt 1 0 0 0)), (5, vk .u64 ((p1.size.1 + p2.size.1 + (0 : Int)) / 18446744073709551616)), (16, vi (1 : Int))] [.box (qa1449 p1 p2), .box qa1448] ?_
   refine zd (XR.one (zq fun K16 hK16 => zr (zg [2, 4] 1 [2,3,4,5,16,17] (zd (hK16 _ _ (zq fun K17 hK17 => ?_))))))
   refine zc true (fun _ => ?_) (fun hx => by cases hx)
   refine zs (hK17 _ _ (zq fun K18 hK18 => zb 1 (zq fun K19 hK19 => zr ?_)))
   refine zv [2, 4] 2 [2,3,4,5,6,16] [] [(2, .one (.pt 0 0 0 0)), (3, .one (.pv (.rp [(qa1445 p2)] 0 0))), (4, .one (.pt 1 0 0 0)), (5, vk .u64 ((p1.size.1 + p2.size.1 + (0 : Int)) / 18446744073709551616)), (6, vi (1 : Int)), (16, vi (1 : Int))] [.box (qa1449 p1 p2), .box qa1448] ?_
   refine zd (hK19 _ _ ?_)
   obtain ⟨g20, h⟩ := zG h
   obtain ⟨y1, hy21, h⟩ := zB h
   obtain ⟨y2, hy22, h⟩ := zB h
   refine XW.drwG 17 [2] [([], []), ([], []), ([0], []), ([0], []), ([0], []), ([], []), ([], []), ([], []), ([], []), ([], []), ([], []), ([], []), ([], []), ([], []), ([0], []), ([0], []), ([0], [0])] (qa1465 p1 p2 y1 y2) [.box (qa1450 p1 p2 y1), .box qa1448] (by kernel_rfl) (by kernel_rfl) ?_ ?_
   ·refine GY.go 10 [(qa1445 p2)] [(29, vk .u64 ((p1.size.1 + p2.size.1 + (0 : Int)) / 18446744073709551616)), (28, vk .u64 p2.size.2.1), (27, .one (.pv (.rp [(qa1445 p2)] 0 2))), (26, .one (.pv (.rp [(qa1445 p2)] 0 1))), (25, vi (1 : Int)), (24, vk .u64 p1.size.2.1), (23, .one (.pt 0 0 0 2)), (22, .one (.pt 0 0 0 1)), (21, vi (1 : Int)), (20, vi (1 : Int)), (2, .one (.pt 0 0 0 0)), (3, .one (.pv (.rp [(qa1445 p2)] 0 0))), (4, .one (.pt 1 0 0 0)), (5, vk .u64 ((p1.size.1 + p2.size.1 + (0 : Int)) / 18446744073709551616)), (6, vi (1 : Int)), (16, vi (1 : Int))] [0 ≤ (1 : Int) ∧ (1 : Int) < 4, 0 ≤ (1 : Int) ∧ (1 : Int) < 4, ([(qa1445 p2)] : List (List PV))[0]? = some (qa1445 p2)] (by kernel_rfl) (⟨by decide, by decide, rfl, trivial⟩) ?_
    refine GY.ext 127 [.int .u64 p1.size.2.1, .int .u64 p2.size.2.1, .int .u64 ((p1.size.1 + p2.size.1 + (0 : Int)) / 18446744073709551616)] [.int .u64 ((p1.size.2.1 + p2.size.2.1 + ((p1.size.1 + p2.size.1 + (0 : Int)) / 18446744073709551616)) % 18446744073709551616), .int .u64 ((p1.size.2.1 + p2.size.2.1 + ((p1.size.1 + p2.size.1 + (0 : Int)) / 18446744073709551616)) / 18446744073709551616)] [(30, .tp [vk .u64 ((p1.size.2.1 + p2.size.2.1 + ((p1.size.1 + p2.size.1 + (0 : Int)) / 18446744073709551616)) % 18446744073709551616), vk .u64 ((p1.size.2.1 + p2.size.2.1 + ((p1.size.1 + p2.size.1 + (0 : Int)) / 18446744073709551616)) / 18446744073709551616)]), (29, vk .u64 ((p1.size.1 + p2.size.1 + (0 : Int)) / 18446744073709551616)), (28, vk .u64 p2.size.2.1), (27, .one (.pv (.rp [(qa1445 p2)] 0 2))), (26, .one (.pv (.rp [(qa1445 p2)] 0 1))), (25, vi (1 : Int)), (24, vk .u64 p1.size.2.1), (23, .one (.pt 0 0 0 2)), (22, .one (.pt 0 0 0 1)), (21, vi (1 : Int)), (20, vi (1 : Int)), (2, .one (.pt 0 0 0 0)), (3, .one (.pv (.rp [(qa1445 p2)] 0 0))), (4, .one (.pt 1 0 0 0)), (5, vk .u64 ((p1.size.1 + p2.size.1 + (0 : Int)) / 18446744073709551616)), (6, vi (1 : Int)), (16, vi (1 : Int))] [] (by kernel_rfl) (by kernel_rfl) (ext_Add64 (fn := Tryd.f127) (by kernel_rfl) (by kernel_rfl) (by kernel_rfl) (by kernel_rfl) (by kernel_rfl) g20.1 g20.2.1 g20.2.2.1 g20.2.2.2) rfl (by kernel_rfl) (by kernel_rfl) (by kernel_rfl) ?_
    refine zgv 2 [] [(31, vk .u64 ((p1.size.2.1 + p2.size.2.1 + ((p1.size.1 + p2.size.1 + (0 : Int)) / 18446744073709551616)) % 18446744073709551616)), (19, .tp [vk .u64 ((p1.size.2.1 + p2.size.2.1 + ((p1.size.1 + p2.size.1 + (0 : Int)) / 18446744073709551616)) % 18446744073709551616), vk .u64 ((p1.size.2.1 + p2.size.2.1 + ((p1.size.1 + p2.size.1 + (0 : Int)) / 18446744073709551616)) / 18446744073709551616)]), (30, .tp [vk .u64 ((p1.size.2.1 + p2.size.2.1 + ((p1.size.1 + p2.size.1 + (0 : Int)) / 18446744073709551616)) % 18446744073709551616), vk .u64 ((p1.size.2.1 + p2.size.2.1 + ((p1.size.1 + p2.size.1 + (0 : Int)) / 18446744073709551616)) / 18446744073709551616)]), (29, vk .u64 ((p1.size.1 + p2.size.1 + (0 : Int)) / 18446744073709551616)), (28, vk .u64 p2.size.2.1), (27, .one (.pv (.rp [[.s (.bool p2.neg), .s (.int .u64 p2.size.1), .s (.int .u64 p2.size.2.1), .s (.int .u64 p2.size.2.2.1), .s (.int .u64 p2.size.2.2.2)]] 0 2))), (26, .one (.pv (.rp [[.s (.bool p2.neg), .s (.int .u64 p2.size.1), .s (.int .u64 p2.size.2.1), .s (.int .u64 p2.size.2.2.1), .s (.int .u64 p2.size.2.2.2)]] 0 1))), (25, vi (1 : Int)), (24, vk .u64 p1.size.2.1), (23, .one (.pt 0 0 0 2)), (22, .one (.pt 0 0 0 1)), (21, vi (1 : Int)), (20, vi (1 : Int)), (2, .one (.pt 0 0 0 0)), (3, .one (.pv (.rp [[.s (.bool p2.neg), .s (.int .u64 p2.size.1), .s (.int .u64 p2.size.2.1), .s (.int .u64 p2.size.2.2.1), .s (.int .u64 p2.size.2.2.2)]] 0 0))), (4, .one (.pt 1 0 0 0)), (5, vk .u64 ((p1.size.1 + p2.size.1 + (0 : Int)) / 18446744073709551616)), (6, vi (1 : Int)), (16, vi (1 : Int))] ?_
    rw [show ((p1.size.2.1 + p2.size.2.1 + ((p1.size.1 + p2.size.1 + (0 : Int)) / 18446744073709551616)) % 18446744073709551616) = y1 from Option.some.inj hy21]
    refine zgv 1 [] [(32, vk .u64 ((p1.size.2.1 + p2.size.2.1 + ((p1.size.1 + p2.size.1 + (0 : Int)) / 18446744073709551616)) / 18446744073709551616)), (31, vk .u64 y1), (19, .tp [vk .u64 y1, vk .u64 ((p1.size.2.1 + p2.size.2.1 + ((p1.size.1 + p2.size.1 + (0 : Int)) / 18446744073709551616)) / 18446744073709551616)]), (30, .tp [vk .u64 y1, vk .u64 ((p1.size.2.1 + p2.size.2.1 + ((p1.size.1 + p2.size.1 + (0 : Int)) / 18446744073709551616)) / 18446744073709551616)]), (29, vk .u64 ((p1.size.1 + p2.size.1 + (0 : Int)) / 18446744073709551616)), (28, vk .u64 p2.size.2.1), (27, .one (.pv (.rp [[.s (.bool p2.neg), .s (.int .u64 p2.size.1), .s (.int .u64 p2.size.2.1), .s (.int .u64 p2.size.2.2.1), .s (.int .u64 p2.size.2.2.2)]] 0 2))), (26, .one (.pv (.rp [[.s (.bool p2.neg), .s (.int .u64 p2.size.1), .s (.int .u64 p2.size.2.1), .s (.int .u64 p2.size.2.2.1), .s (.int .u64 p2.size.2.2.2)]] 0 1))), (25, vi (1 : Int)), (24, vk .u64 p1.size.2.1), (23, .one (.pt 0 0 0 2)), (22, .one (.pt 0 0 0 1)), (21, vi (1 : Int)), (20, vi (1 : Int)), (2, .one (.pt 0 0 0 0)), (3, .one (.pv (.rp [[.s (.bool p2.neg), .s (.int .u64 p2.size.1), .s (.int .u64 p2.size.2.1), .s (.int .u64 p2.size.2.2.1), .s (.int .u64 p2.size.2.2.2)]] 0 0))), (4, .one (.pt 1 0 0 0)), (5, vk .u64 ((p1.size.1 + p2.size.1 + (0 : Int)) / 18446744073709551616)), (6, vi (1 : Int)), (16, vi (1 : Int))] ?_
    rw [show ((p1.size.2.1 + p2.size.2.1 + ((p1.size.1 + p2.size.1 + (0 : Int)) / 18446744073709551616)) / 18446744073709551616) = y2 from Option.some.inj hy22]
    refine GY.go 2 [] (qa1465 p1 p2 y1 y2) [0 ≤ (1 : Int) ∧ (1 : Int) < 4] (by kernel_rfl) (⟨by decide, trivial⟩) ?_
    refine GY.wr [] (qa1465 p1 p2 y1 y2) [0] [.box (qa1450 p1 p2 y1), .box qa1448] [] (by kernel_rfl) (by kernel_rfl) trivial ?_
    exact GY.done (by kernel_rfl) (by kernel_rfl)
   refine zg [2, 4] 1 [2,3,4,5,16] (zd (hK18 _ _ (zr (zv [2, 4] 2 [2,3,4,5,16] [] [(2, .one (.pt 0 0 0 0)), (3, .one (.pv (.rp [(qa1445 p2)] 0 0))), (4, .one (.pt 1 0 0 0)), (5, vk .u64 y2), (16, vi (2 : Int))] [.box (qa1450 p1 p2 y1), .box qa1448] (zd (XR.one ?_))))))
   refine zq fun K23 hK23 => zr (zg [2, 4] 1 [2,3,4,5,16,17] (zd (hK23 _ _ (zq fun K24 hK24 => zc true (fun _ => ?_) (fun hx => by cases hx)))))
   refine zs (hK24 _ _ (zq fun K25 hK25 => zb 1 (zq fun K26 hK26 => zr ?_)))
   refine zv [2, 4] 2 [2,3,4,5,6,16] [] [(2, .one (.pt 0 0 0 0)), (3, .one (.pv (.rp [(qa1445 p2)] 0 0))), (4, .one (.pt 1 0 0 0)), (5, vk .u64 y2), (6, vi (2 : Int)), (16, vi (2 : Int))] [.box (qa1450 p1 p2 y1), .box qa1448] (zd (hK26 _ _ ?_))
   obtain ⟨g27, h⟩ := zG h
   refine XW.drwG 17 [2] [([], []), ([], []), ([0], []), ([0], []), ([0], []), ([], []), ([], []), ([], []), ([], []), ([], []), ([], []), ([], []), ([], []), ([], []), ([0], []), ([0], []), ([0], [0])] (qa1471 p1 p2 y2) [.box (qa1451 p1 p2 y1 y2), .box qa1448] (by kernel_rfl) (by kernel_rfl) ?_ ?_
   ·refine GY.go 10 [(qa1445 p2)] [(29, vk .u64 y2), (28, vk .u64 p2.size.2.2.1), (27, .one (.pv (.rp [(qa1445 p2)] 0 3))), (26, .one (.pv (.rp [(qa1445 p2)] 0 1))), (25, vi (2 : Int)), (24, vk .u64 p1.size.2.2.1), (23, .one (.pt 0 0 0 3)), (22, .one (.pt 0 0 0 1)), (21, vi (2 : Int)), (20, vi (2 : Int)), (2, .one (.pt 0 0 0 0)), (3, .one (.pv (.rp [(qa1445 p2)] 0 0))), (4, .one (.pt 1 0 0 0)), (5, vk .u64 y2), (6, vi (2 : Int)), (16, vi (2 : Int))] [0 ≤ (2 : Int) ∧ (2 : Int) < 4, 0 ≤ (2 : Int) ∧ (2 : Int) < 4, ([(qa1445 p2)] : List (List PV))[0]? = some (qa1445 p2)] (by kernel_rfl) (⟨by decide, by decide, rfl, trivial⟩) ?_
    refine GY.ext 127 [.int .u64 p1.size.2.2.1, .int .u64 p2.size.2.2.1, .int .u64 y2] [.int .u64 ((p1.size.2.2.1 + p2.size.2.2.1 + y2) % 18446744073709551616), .int .u64 ((p1.size.2.2.1 + p2.size.2.2.1 + y2) / 18446744073709551616)] [(30, .tp [vk .u64 ((p1.size.2.2.1 + p2.size.2.2.1 + y2) % 18446744073709551616), vk .u64 ((p1.size.2.2.1 + p2.size.2.2.1 + y2) / 18446744073709551616)]), (29, vk .u64 y2), (28, vk .u64 p2.size.2.2.1), (27, .one (.pv (.rp [(qa1445 p2)] 0 3))), (26, .one (.pv (.rp [(qa1445 p2)] 0 1))), (25, vi (2 : Int)), (24, vk .u64 p1.size.2.2.1), (23, .one (.pt 0 0 0 3)), (22, .one (.pt 0 0 0 1)), (21, vi (2 : Int)), (20, vi (2 : Int)), (2, .one (.pt 0 0 0 0)), (3, .one (.pv (.rp [(qa1445 p2)] 0 0))), (4, .one (.pt 1 0 0 0)), (5, vk .u64 y2), (6, vi (2 : Int)), (16, vi (2 : Int))] [] (by kernel_rfl) (by kernel_rfl) (ext_Add64 (fn := Tryd.f127) (by kernel_rfl) (by kernel_rfl) (by kernel_rfl) (by kernel_rfl) (by kernel_rfl) g27.1 g27.2.1 g27.2.2.1 g27.2.2.2) rfl (by kernel_rfl) (by kernel_rfl) (by kernel_rfl) ?_
    refine GY.go 5 [] (qa1471 p1 p2 y2) [0 ≤ (2 : Int) ∧ (2 : Int) < 4] (by kernel_rfl) (⟨by decide, trivial⟩) ?_
    refine GY.wr [] (qa1471 p1 p2 y2) [0] [.box (qa1451 p1 p2 y1 y2), .box qa1448] [] (by kernel_rfl) (by kernel_rfl) trivial ?_
    exact GY.done (by kernel_rfl) (by kernel_rfl)
   refine zg [2, 4] 1 [2,3,4,5,16] (zd (hK25 _ _ (zr ?_)))
   refine zv [2, 4] 2 [2,3,4,5,16] [] [(2, .one (.pt 0 0 0 0)), (3, .one (.pv (.rp [(qa1445 p2)] 0 0))), (4, .one (.pt 1 0 0 0)), (5, vk .u64 ((p1.size.2.2.1 + p2.size.2.2.1 + y2) / 18446744073709551616)), (16, vi (3 : Int))] [.box (qa1451 p1 p2 y1 y2), .box qa1448] ?_
   refine zd (XR.one (zq fun K28 hK28 => zr (zg [2, 4] 1 [2,3,4,5,16,17] (zd (hK28 _ _ (zq fun K29 hK29 => ?_))))))
   refine zc true (fun _ => ?_) (fun hx => by cases hx)
   refine zs (hK29 _ _ (zq fun K30 hK30 => zb 1 (zq fun K31 hK31 => zr ?_)))
   refine zv [2, 4] 2 [2,3,4,5,6,16] [] [(2, .one (.pt 0 0 0 0)), (3, .one (.pv (.rp [(qa1445 p2)] 0 0))), (4, .one (.pt 1 0 0 0)), (5, vk .u64 ((p1.size.2.2.1 + p2.size.2.2.1 + y2) / 18446744073709551616)), (6, vi (3 : Int)), (16, vi (3 : Int))] [.box (qa1451 p1 p2 y1 y2), .box qa1448] ?_
   refine zd (hK31 _ _ ?_)
   obtain ⟨g32, h⟩ := zG h
   obtain ⟨y3, hy33, h⟩ := zB h
   obtain ⟨y4, hy34, h⟩ := zB h
   refine XW.drwG 17 [2] [([], []), ([], []), ([0], []), ([0], []), ([0], []), ([], []), ([], []), ([], []), ([], []), ([], []), ([], []), ([], []), ([], []), ([], []), ([0], []), ([0], []), ([0], [0])] (qa1477 p1 p2 y2 y3 y4) [.box (qa1452 p1 p2 y1 y2 y3), .box qa1448] (by kernel_rfl) (by kernel_rfl) ?_ ?_
   ·refine GY.go 10 [(qa1445 p2)] [(29, vk .u64 ((p1.size.2.2.1 + p2.size.2.2.1 + y2) / 18446744073709551616)), (28, vk .u64 p2.size.2.2.2), (27, .one (.pv (.rp [(qa1445 p2)] 0 4))), (26, .one (.pv (.rp [(qa1445 p2)] 0 1))), (25, vi (3 : Int)), (24, vk .u64 p1.size.2.2.2), (23, .one (.pt 0 0 0 4)), (22, .one (.pt 0 0 0 1)), (21, vi (3 : Int)), (20, vi (3 : Int)), (2, .one (.pt 0 0 0 0)), (3, .one (.pv (.rp [(qa1445 p2)] 0 0))), (4, .one (.pt 1 0 0 0)), (5, vk .u64 ((p1.size.2.2.1 + p2.size.2.2.1 + y2) / 18446744073709551616)), (6, vi (3 : Int)), (16, vi (3 : Int))] [0 ≤ (3 : Int) ∧ (3 : Int) < 4, 0 ≤ (3 : Int) ∧ (3 : Int) < 4, ([(qa1445 p2)] : List (List PV))[0]? = some (qa1445 p2)] (by kernel_rfl) (⟨by decide, by decide, rfl, trivial⟩) ?_
    refine GY.ext 127 [.int .u64 p1.size.2.2.2, .int .u64 p2.size.2.2.2, .int .u64 ((p1.size.2.2.1 + p2.size.2.2.1 + y2) / 18446744073709551616)] [.int .u64 ((p1.size.2.2.2 + p2.size.2.2.2 + ((p1.size.2.2.1 + p2.size.2.2.1 + y2) / 18446744073709551616)) % 18446744073709551616), .int .u64 ((p1.size.2.2.2 + p2.size.2.2.2 + ((p1.size.2.2.1 + p2.size.2.2.1 + y2) / 18446744073709551616)) / 18446744073709551616)] [(30, .tp [vk .u64 ((p1.size.2.2.2 + p2.size.2.2.2 + ((p1.size.2.2.1 + p2.size.2.2.1 + y2) / 18446744073709551616)) % 18446744073709551616), vk .u64 ((p1.size.2.2.2 + p2.size.2.2.2 + ((p1.size.2.2.1 + p2.size.2.2.1 + y2) / 18446744073709551616)) / 18446744073709551616)]), (29, vk .u64 ((p1.size.2.2.1 + p2.size.2.2.1 + y2) / 18446744073709551616)), (28, vk .u64 p2.size.2.2.2), (27, .one (.pv (.rp [(qa1445 p2)] 0 4))), (26, .one (.pv (.rp [(qa1445 p2)] 0 1))), (25, vi (3 : Int)), (24, vk .u64 p1.size.2.2.2), (23, .one (.pt 0 0 0 4)), (22, .one (.pt 0 0 0 1)), (21, vi (3 : Int)), (20, vi (3 : Int)), (2, .one (.pt 0 0 0 0)), (3, .one (.pv (.rp [(qa1445 p2)] 0 0))), (4, .one (.pt 1 0 0 0)), (5, vk .u64 ((p1.size.2.2.1 + p2.size.2.2.1 + y2) / 18446744073709551616)), (6, vi (3 : Int)), (16, vi (3 : Int))] [] (by kernel_rfl) (by kernel_rfl) (ext_Add64 (fn := Tryd.f127) (by kernel_rfl) (by kernel_rfl) (by kernel_rfl) (by kernel_rfl) (by kernel_rfl) g32.1 g32.2.1 g32.2.2.1 g32.2.2.2) rfl (by kernel_rfl) (by kernel_rfl) (by kernel_rfl) ?_
    refine zgv 2 [] [(31, vk .u64 ((p1.size.2.2.2 + p2.size.2.2.2 + ((p1.size.2.2.1 + p2.size.2.2.1 + y2) / 18446744073709551616)) % 18446744073709551616)), (19, .tp [vk .u64 ((p1.size.2.2.2 + p2.size.2.2.2 + ((p1.size.2.2.1 + p2.size.2.2.1 + y2) / 18446744073709551616)) % 18446744073709551616), vk .u64 ((p1.size.2.2.2 + p2.size.2.2.2 + ((p1.size.2.2.1 + p2.size.2.2.1 + y2) / 18446744073709551616)) / 18446744073709551616)]), (30, .tp [vk .u64 ((p1.size.2.2.2 + p2.size.2.2.2 + ((p1.size.2.2.1 + p2.size.2.2.1 + y2) / 18446744073709551616)) % 18446744073709551616), vk .u64 ((p1.size.2.2.2 + p2.size.2.2.2 + ((p1.size.2.2.1 + p2.size.2.2.1 + y2) / 18446744073709551616)) / 18446744073709551616)]), (29, vk .u64 ((p1.size.2.2.1 + p2.size.2.2.1 + y2) / 18446744073709551616)), (28, vk .u64 p2.size.2.2.2), (27, .one (.pv (.rp [[.s (.bool p2.neg), .s (.int .u64 p2.size.1), .s (.int .u64 p2.size.2.1), .s (.int .u64 p2.size.2.2.1), .s (.int .u64 p2.size.2.2.2)]] 0 4))), (26, .one (.pv (.rp [[.s (.bool p2.neg), .s (.int .u64 p2.size.1), .s (.int .u64 p2.size.2.1), .s (.int .u64 p2.size.2.2.1), .s (.int .u64 p2.size.2.2.2)]] 0 1))), (25, vi (3 : Int)), (24, vk .u64 p1.size.2.2.2), (23, .one (.pt 0 0 0 4)), (22, .one (.pt 0 0 0 1)), (21, vi (3 : Int)), (20, vi (3 : Int)), (2, .one (.pt 0 0 0 0)), (3, .one (.pv (.rp [[.s (.bool p2.neg), .s (.int .u64 p2.size.1), .s (.int .u64 p2.size.2.1), .s (.int .u64 p2.size.2.2.1), .s (.int .u64 p2.size.2.2.2)]] 0 0))), (4, .one (.pt 1 0 0 0)), (5, vk .u64 ((p1.size.2.2.1 + p2.size.2.2.1 + y2) / 18446744073709551616)), (6, vi (3 : Int)), (16, vi (3 : Int))] ?_
    rw [show ((p1.size.2.2.2 + p2.size.2.2.2 + ((p1.size.2.2.1 + p2.size.2.2.1 + y2) / 18446744073709551616)) % 18446744073709551616) = y3 from Option.some.inj hy33]
    refine zgv 1 [] [(32, vk .u64 ((p1.size.2.2.2 + p2.size.2.2.2 + ((p1.size.2.2.1 + p2.size.2.2.1 + y2) / 18446744073709551616)) / 18446744073709551616)), (31, vk .u64 y3), (19, .tp [vk .u64 y3, vk .u64 ((p1.size.2.2.2 + p2.size.2.2.2 + ((p1.size.2.2.1 + p2.size.2.2.1 + y2) / 18446744073709551616)) / 18446744073709551616)]), (30, .tp [vk .u64 y3, vk .u64 ((p1.size.2.2.2 + p2.size.2.2.2 + ((p1.size.2.2.1 + p2.size.2.2.1 + y2) / 18446744073709551616)) / 18446744073709551616)]), (29, vk .u64 ((p1.size.2.2.1 + p2.size.2.2.1 + y2) / 18446744073709551616)), (28, vk .u64 p2.size.2.2.2), (27, .one (.pv (.rp [[.s (.bool p2.neg), .s (.int .u64 p2.size.1), .s (.int .u64 p2.size.2.1), .s (.int .u64 p2.size.2.2.1), .s (.int .u64 p2.size.2.2.2)]] 0 4))), (26, .one (.pv (.rp [[.s (.bool p2.neg), .s (.int .u64 p2.size.1), .s (.int .u64 p2.size.2.1), .s (.int .u64 p2.size.2.2.1), .s (.int .u64 p2.size.2.2.2)]] 0 1))), (25, vi (3 : Int)), (24, vk .u64 p1.size.2.2.2), (23, .one (.pt 0 0 0 4)), (22, .one (.pt 0 0 0 1)), (21, vi (3 : Int)), (20, vi (3 : Int)), (2, .one (.pt 0 0 0 0)), (3, .one (.pv (.rp [[.s (.bool p2.neg), .s (.int .u64 p2.size.1), .s (.int .u64 p2.size.2.1), .s (.int .u64 p2.size.2.2.1), .s (.int .u64 p2.size.2.2.2)]] 0 0))), (4, .one (.pt 1 0 0 0)), (5, vk .u64 ((p1.size.2.2.1 + p2.size.2.2.1 + y2) / 18446744073709551616)), (6, vi (3 : Int)), (16, vi (3 : Int))] ?_
    rw [show ((p1.size.2.2.2 + p2.size.2.2.2 + ((p1.size.2.2.1 + p2.size.2.2.1 + y2) / 18446744073709551616)) / 18446744073709551616) = y4 from Option.some.inj hy34]
    refine GY.go 2 [] (qa1477 p1 p2 y2 y3 y4) [0 ≤ (3 : Int) ∧ (3 : Int) < 4] (by kernel_rfl) (⟨by decide, trivial⟩) ?_
    refine GY.wr [] (qa1477 p1 p2 y2 y3 y4) [0] [.box (qa1452 p1 p2 y1 y2 y3), .box qa1448] [] (by kernel_rfl) (by kernel_rfl) trivial ?_
    exact GY.done (by kernel_rfl) (by kernel_rfl)
   refine zg [2, 4] 1 [2,3,4,5,16] (zd (hK30 _ _ (zr ?_)))
   refine zv [2, 4] 2 [2,3,4,5,16] [] [(2, .one (.pt 0 0 0 0)), (3, .one (.pv (.rp [(qa1445 p2)] 0 0))), (4, .one (.pt 1 0 0 0)), (5, vk .u64 y4), (16, vi (4 : Int))] [.box (qa1452 p1 p2 y1 y2 y3), .box qa1448] (zd (XR.one (zq fun K35 hK35 => ?_)))
   refine zr (zg [2, 4] 1 [2,3,4,5,16,17] (zd (hK35 _ _ (zq fun K36 hK36 => zc false (fun hx => by cases hx) (fun _ => ?_)))))
   refine zx 0 (hQ1 _ _ _ (hK9 _ _ (zq fun K37 hK37 => zr (zg [2, 4] 2 [4] (zd (hK37 _ _ ?_))))))
   refine ze ?_
   obtain rfl := Option.some.inj h
   exact zf [.ag (qa1452 p1 p2 y1 y2 y3)] (.ag (.cons (.rfl _ rfl) (.cons (.rfl _ rfl) (.cons (.rfl _ rfl) (.cons (.rfl _ rfl) (.cons (.rfl _ rfl) .nil))))))

end

def value_wide_bytes_s (p1 : GWide) (p2 : (List Int)) : Option (Unit × (List Int)) :=
    bnd (value_whole (1 : Int)) fun r1 =>
    bnd (value_wide_times (GWide.mk r1.neg (r1.size.1, r1.size.2.1, r1.size.2.2.1, r1.size.2.2.2)) (9223372036854775808 : Int)) fun r2 =>
    bnd (value_wide_times (GWide.mk r2.neg (r2.size.1, r2.size.2.1, r2.size.2.2.1, r2.size.2.2.2)) (9223372036854775808 : Int)) fun r3 =>
    bnd (value_wide_times (GWide.mk r3.neg (r3.size.1, r3.size.2.1, r3.size.2.2.1, r3.size.2.2.2)) (2 : Int)) fun r4 =>
    bnd (value_wide_plus BIG (GWide.mk r4.neg (r4.size.1, r4.size.2.1, r4.size.2.2.1, r4.size.2.2.2)) (GWide.mk p1.neg (p1.size.1, p1.size.2.1, p1.size.2.2.1, p1.size.2.2.2))) fun r5 =>
    bnd (value_word_s r5.size.2.1 p2) fun r6 =>
    bnd (value_word_s r5.size.1 r6.2) fun r7 =>
    some ((), r7.2)

abbrev qa1482 (p1 : GWide) : List CV := [cb p1.neg, ck .u64 p1.size.1, ck .u64 p1.size.2.1, ck .u64 p1.size.2.2.1, ck .u64 p1.size.2.2.2]
abbrev qa1485 (p1 : GWide) : List PV := [.s (.bool p1.neg), .s (.int .u64 p1.size.1), .s (.int .u64 p1.size.2.1), .s (.int .u64 p1.size.2.2.1), .s (.int .u64 p1.size.2.2.2)]
abbrev qa1486 (r5 : GWide) : List CV := [cb r5.neg, ck .u64 r5.size.1, ck .u64 r5.size.2.1, ck .u64 r5.size.2.2.1, ck .u64 r5.size.2.2.2]
abbrev qa1487 (r4 : GWide) : List CV := [cb r4.neg, ck .u64 r4.size.1, ck .u64 r4.size.2.1, ck .u64 r4.size.2.2.1, ck .u64 r4.size.2.2.2]
abbrev qa1488 (r3 : GWide) : List CV := [cb r3.neg, ck .u64 r3.size.1, ck .u64 r3.size.2.1, ck .u64 r3.size.2.2.1, ck .u64 r3.size.2.2.2]
abbrev qa1489 (r2 : GWide) : List CV := [cb r2.neg, ck .u64 r2.size.1, ck .u64 r2.size.2.1, ck .u64 r2.size.2.2.1, ck .u64 r2.size.2.2.2]
abbrev qa1490 (r1 : GWide) : List CV := [cb r1.neg, ck .u64 r1.size.1, ck .u64 r1.size.2.1, ck .u64 r1.size.2.2.1, ck .u64 r1.size.2.2.2]
abbrev qa1491 : List CV := [cb false, ck .u64 (0 : Int), ck .u64 (0 : Int), ck .u64 (0 : Int), ck .u64 (0 : Int)]
abbrev qa1503 (p1 : GWide) (p2 : (List Int)) (r1 : GWide) (r2 : GWide) (r3 : GWide) (r4 : GWide) (r5 : GWide) : Fr := [(5, .one (.pt 1 0 0 0)), (12, .ag (qa1486 r5)), (11, .ag (qa1482 p1)), (10, .ag (qa1487 r4)), (9, .ag (qa1488 r3)), (8, .ag (qa1489 r2)), (7, .ag (qa1490 r1)), (1, .one (.sl 0 1 0 p2.length)), (2, .one (.pv (.rp [(qa1485 p1)] 0 0)))]

theorem c_value_wide_bytes_s (p1 : GWide) (p2 : (List Int)) (r : (Unit × (List Int))) (h : value_wide_bytes_s p1 p2 = some r) : MX Tryd.prog 109 [.ag (qa1482 p1), .one (.sl 0 1 0 p2.length)] [.arr 1 ((eK .u8).els p2)] [0] (.one (.sl 0 1 0 r.2.length)) [.arr 1 ((eK .u8).els r.2)] := by
 unfold value_wide_bytes_s at h
 refine MX.of 1 1 rfl (n := 24) (fn := Tryd.f109) (c := cd Tryd.f109 []) (by kernel_rfl) (by kernel_rfl) (by kernel_rfl) (Nat.le_of_ble_eq_true rfl) rfl (zq fun K1 hK1 => zr (zv [5] 2 [1,2] [] [(1, .one (.sl 0 1 0 p2.length)), (2, .one (.pv (.rp [(qa1485 p1)] 0 0)))] [.arr 1 ((eK .u8).els p2)] (zd (hK1 _ _ (zq fun K2 hK2 => ?_)))))
 obtain ⟨r1, c3, h⟩ := zB h
 obtain ⟨r2, c4, h⟩ := zB h
 obtain ⟨r3, c5, h⟩ := zB h
 obtain ⟨r4, c6, h⟩ := zB h
 obtain ⟨r5, c7, h⟩ := zB h
 refine XW.sub (Sub.dead 1) ?_
 refine XW.drwG 7 [1, 2] [([], []), ([], []), ([], []), ([], []), ([], []), ([], []), ([1], [1])] (qa1503 p1 p2 r1 r2 r3 r4 r5) [.arr 1 ((eK .u8).els p2), .box qa1491] (by kernel_rfl) (by kernel_rfl) ?_ ?_
 ·refine GY.cal 117 [vi (1 : Int)] (.ag (qa1490 r1)) [(7, .ag (qa1490 r1)), (1, .one (.sl 0 1 0 p2.length)), (2, .one (.pv (.rp [(qa1485 p1)] 0 0)))] [] (by kernel_rfl) (by kernel_rfl) (c_value_whole _ _ c3) rfl rfl (by kernel_rfl) (by kernel_rfl) (by kernel_rfl) ?_
  refine GY.cal 119 [.ag (qa1490 r1), vk .u64 (9223372036854775808 : Int)] (.ag (qa1489 r2)) [(8, .ag (qa1489 r2)), (7, .ag (qa1490 r1)), (1, .one (.sl 0 1 0 p2.length)), (2, .one (.pv (.rp [(qa1485 p1)] 0 0)))] [] (by kernel_rfl) (by kernel_rfl) (c_value_wide_times _ _ _ c4) rfl rfl (by kernel_rfl) (by kernel_rfl) (by kernel_rfl) ?_
  refine GY.cal 119 [.ag (qa1489 r2), vk .u64 (9223372036854775808 : Int)] (.ag (qa1488 r3)) [(9, .ag (qa1488 r3)), (8, .ag (qa1489 r2)), (7, .ag (qa1490 r1)), (1, .one (.sl 0 1 0 p2.length)), (2, .one (.pv (.rp [(qa1485 p1)] 0 0)))] [] (by kernel_rfl) (by kernel_rfl) (c_value_wide_times _ _ _ c5) rfl rfl (by kernel_rfl) (by kernel_rfl) (by kernel_rfl) ?_
  refine GY.cal 119 [.ag (qa1488 r3), vk .u64 (2 : Int)] (.ag (qa1487 r4)) [(10, .ag (qa1487 r4)), (9, .ag (qa1488 r3)), (8, .ag (qa1489 r2)), (7, .ag (qa1490 r1)), (1, .one (.sl 0 1 0 p2.length)), (2, .one (.pv (.rp [(qa1485 p1)] 0 0)))] [] (by kernel_rfl) (by kernel_rfl) (c_value_wide_times _ _ _ c6) rfl rfl (by kernel_rfl) (by kernel_rfl) (by kernel_rfl) ?_
  refine zgv 1 [(qa1485 p1)] [(11, .ag (qa1482 p1)), (10, .ag (qa1487 r4)), (9, .ag (qa1488 r3)), (8, .ag (qa1489 r2)), (7, .ag (qa1490 r1)), (1, .one (.sl 0 1 0 p2.length)), (2, .one (.pv (.rp [(qa1485 p1)] 0 0)))] ?_
  refine GY.cal 120 [.ag (qa1487 r4), .ag (qa1482 p1)] (.ag (qa1486 r5)) [(12, .ag (qa1486 r5)), (11, .ag (qa1482 p1)), (10, .ag (qa1487 r4)), (9, .ag (qa1488 r3)), (8, .ag (qa1489 r2)), (7, .ag (qa1490 r1)), (1, .one (.sl 0 1 0 p2.length)), (2, .one (.pv (.rp [(qa1485 p1)] 0 0)))] [] (by kernel_rfl) (by kernel_rfl) (c_value_wide_plus BIG _ _ _ c7) rfl rfl (by kernel_rfl) (by kernel_rfl) (by kernel_rfl) ?_
  refine GY.new true 1 [] (qa1503 p1 p2 r1 r2 r3 r4 r5) [1] [.arr 1 ((eK .u8).els p2), .box qa1491] [] (by kernel_rfl) (by kernel_rfl) trivial ?_
  exact GY.done (by kernel_rfl) (by kernel_rfl)
 refine zg [5] 1 [1,5] (zd (hK2 _ _ (zq fun K8 hK8 => zq fun K9 hK9 => zr (zg [5] 1 [1,5,6] (zd ?_)))))
 refine hK9 _ _ (zb 0 (XW.rounds' 3 (x := cd Tryd.f109 [1,1,0,1,0,0]) (by kernel_rfl) fun Q1 hQ1 => XR.one (zq fun K10 hK10 => zq fun K11 hK11 => zr (zv [5] 2 [1,5,6,14] [] [(1, .one (.sl 0 1 0 p2.length)), (5, .one (.pt 1 0 0 0)), (6, vi (1 : Int)), (14, vb true)] [.arr 1 ((eK .u8).els p2), .box (qa1486 r5)] ?_))))
 refine zd (hK11 _ _ (zc true (fun _ => ?_) (fun hx => by cases hx)))
 refine zs (hK10 _ _ (zq fun K12 hK12 => zb 1 ?_))
 obtain ⟨r6, c13, h⟩ := zB h
 refine zr (zp [5] 5 [5,6,17,21] [] [(5, .one (.pt 1 0 0 0)), (6, vi (1 : Int)), (17, .one (.sl 0 1 0 p2.length)), (21, vk .u64 r5.size.2.1)] [.arr 1 ((eK .u8).els p2), .box (qa1486 r5)] [0 ≤ (1 : Int) ∧ (1 : Int) < 4] (⟨by decide, trivial⟩) ?_)
 refine XO.calx 107 [.one (.sl 0 1 0 p2.length), vk .u64 r5.size.2.1] [.arr 1 ((eK .u8).els p2)] [.arr 1 ((eK .u8).els r6.2)] [0] (.one (.sl 0 1 0 r6.2.length)) [0] [0] [(22, .one (.sl 0 1 0 r6.2.length)), (5, .one (.pt 1 0 0 0)), (6, vi (1 : Int)), (17, .j), (21, vk .u64 r5.size.2.1)] [.arr 1 ((eK .u8).els r6.2), .box (qa1486 r5)] (by kernel_rfl) (c_value_word_s _ _ _ c13) (by kernel_rfl) (by kernel_rfl) (by kernel_rfl) (by kernel_rfl) (by kernel_rfl) (by kernel_rfl) (by kernel_rfl) (zg [5] 1 [1,5,6] (zd ?_))
 refine hK12 _ _ (zr (zv [5] 3 [1,5,6] [] [(1, .one (.sl 0 1 0 r6.2.length)), (5, .one (.pt 1 0 0 0)), (6, vi (0 : Int))] [.arr 1 ((eK .u8).els r6.2), .box (qa1486 r5)] (zd (XR.one (zq fun K14 hK14 => zq fun K15 hK15 => zr ?_)))))
 refine zg [5] 2 [1,5,6,14] (zd (hK15 _ _ (zc true (fun _ => ?_) (fun hx => by cases hx))))
 refine zs (hK14 _ _ (zq fun K16 hK16 => zb 1 ?_))
 obtain ⟨r7, c17, h⟩ := zB h
 refine zr (zp [5] 5 [5,6,17,21] [] [(5, .one (.pt 1 0 0 0)), (6, vi (0 : Int)), (17, .one (.sl 0 1 0 r6.2.length)), (21, vk .u64 r5.size.1)] [.arr 1 ((eK .u8).els r6.2), .box (qa1486 r5)] [0 ≤ (0 : Int) ∧ (0 : Int) < 4] (⟨by decide, trivial⟩) ?_)
 refine XO.calx 107 [.one (.sl 0 1 0 r6.2.length), vk .u64 r5.size.1] [.arr 1 ((eK .u8).els r6.2)] [.arr 1 ((eK .u8).els r7.2)] [0] (.one (.sl 0 1 0 r7.2.length)) [0] [0] [(22, .one (.sl 0 1 0 r7.2.length)), (5, .one (.pt 1 0 0 0)), (6, vi (0 : Int)), (17, .j), (21, vk .u64 r5.size.1)] [.arr 1 ((eK .u8).els r7.2), .box (qa1486 r5)] (by kernel_rfl) (c_value_word_s _ _ _ c17) (by kernel_rfl) (by kernel_rfl) (by kernel_rfl) (by kernel_rfl) (by kernel_rfl) (by kernel_rfl) (by kernel_rfl) (zg [5] 1 [1,5,6] (zd ?_))
 refine hK16 _ _ (zr (zv [5] 3 [1,5,6] [] [(1, .one (.sl 0 1 0 r7.2.length)), (5, .one (.pt 1 0 0 0)), (6, vi (-1 : Int))] [.arr 1 ((eK .u8).els r7.2), .box (qa1486 r5)] (zd (XR.one (zq fun K18 hK18 => zq fun K19 hK19 => zr ?_)))))
 refine zg [5] 2 [1,5,6,14] (zd (hK19 _ _ (zc false (fun hx => by cases hx) (fun _ => ?_))))
 refine zx 0 (hQ1 _ _ _ (hK8 _ _ (zq fun K20 hK20 => zr (zv [5] 2 [4] [] [(4, .one (.sl 0 1 0 r7.2.length))] [.arr 1 ((eK .u8).els r7.2), .box (qa1486 r5)] (zd (hK20 _ _ ?_))))))
 refine ze ?_
 obtain rfl := Option.some.inj h
 exact FinM.fin (.inr rfl) [] [.one (.sl 0 1 0 r7.2.length)] [] (by kernel_rfl) trivial (by kernel_rfl) (by kernel_rfl) (.one (.rfl _ rfl))

def value_key_s_j2 (l2 : List Int) : Option (Unit × (List Int)) :=
    grd (l2.length + 1 ≤ 4294967296) <|
    some ((), (l2 ++ [(0 : Int)]))

def value_key_s_l1 (q_value_key_s : GValue → (List Int) → Option (Unit × (List Int))) (p1 : GValue) : Nat → List Int → Int → Option (Unit × (List Int))
  | 0, _, _ => none
  | k1 + 1, l1, x2 =>
    ift (decide (x2 < (p1.items.length : Int)))
      (bnd (at? p1.items x2) fun e1 =>
       grd (l1.length + 1 ≤ 4294967296) <|
       bnd (q_value_key_s e1 (l1 ++ [(1 : Int)])) fun r4 =>
       (value_key_s_l1 q_value_key_s p1 k1) r4.2 (IntKind.i64.wrap (x2 + (1 : Int))))
      (value_key_s_j2 l1)

def value_key_s_j1 (q_value_key_s : GValue → (List Int) → Option (Unit × (List Int))) (p1 : GValue) (p2 : (List Int)) (x1 : Bool) : Option (Unit × (List Int)) :=
    ift x1
      (bnd (some (IntKind.u64.wrap ((IntKind.u64.wrap p1.n) + (9223372036854775808 : Int)))) fun y1 =>
       bnd (value_word_s y1 (p2 ++ [(IntKind.u8.wrap p1.kind)])) fun r1 =>
       some ((), r1.2))
      (ift (p1.kind == (3 : Int))
         (bnd (value_scaled p1.n (IntKind.i64.wrap ((12 : Int) - p1.scale))) fun r2 =>
          bnd (value_wide_bytes_s (GWide.mk r2.neg (r2.size.1, r2.size.2.1, r2.size.2.2.1, r2.size.2.2.2)) (p2 ++ [(IntKind.u8.wrap p1.kind)])) fun r3 =>
          grd (r3.2.length + 1 ≤ 4294967296) <|
          some ((), (r3.2 ++ [(IntKind.u8.wrap p1.scale)])))
         (ift (p1.kind == (4 : Int))
            (grd ((p2 ++ [(IntKind.u8.wrap p1.kind)]).length + (bytesL p1.s).length ≤ 4294967296) <|
             grd (((p2 ++ [(IntKind.u8.wrap p1.kind)]) ++ (bytesL p1.s)).length + 1 ≤ 4294967296) <|
             some ((), (((p2 ++ [(IntKind.u8.wrap p1.kind)]) ++ (bytesL p1.s)) ++ [(0 : Int)])))
            (value_key_s_l1 q_value_key_s p1 BIG (p2 ++ [(IntKind.u8.wrap p1.kind)]) (0 : Int))))

def value_key_s : Nat → GValue → (List Int) → Option (Unit × (List Int))
  | 0, _, _ => none
  | k0 + 1, p1, p2 =>
    ift (p1.kind == (0 : Int))
      (grd (p2.length + 1 ≤ 4294967296) <|
       some ((), (p2 ++ [(8 : Int)])))
      (grd (p2.length + 1 ≤ 4294967296) <|
       ift (p1.kind == (1 : Int))
         (grd ((p2 ++ [(IntKind.u8.wrap p1.kind)]).length + 1 ≤ 4294967296) <|
          some ((), ((p2 ++ [(IntKind.u8.wrap p1.kind)]) ++ [(IntKind.u8.wrap p1.n)])))
         (ift (p1.kind == (2 : Int))
            (value_key_s_j1 (value_key_s k0) p1 p2 (p1.kind == (2 : Int)))
            (value_key_s_j1 (value_key_s k0) p1 p2 (p1.kind == (5 : Int)))))

abbrev qa1517 (p1 : GValue) : List PV := [pi p1.kind, pi p1.n, pi p1.scale, .s (.string p1.s), .ro (eValue.els p1.items)]
abbrev qa1520 (p1 : GValue) (p2 : (List Int)) : St := [.arr 1 ((eK .u8).els (p2 ++ [(IntKind.u8.wrap p1.kind)]))]
abbrev qa1526 (r2 : GWide) : List CV := [cb r2.neg, ck .u64 r2.size.1, ck .u64 r2.size.2.1, ck .u64 r2.size.2.2.1, ck .u64 r2.size.2.2.2]
abbrev qa1540 (e1 : GValue) : List CV := [ci e1.kind, ci e1.n, ci e1.scale, cst e1.s, cl eValue e1.items]
abbrev qa1544 (p1 : GValue) (x2 : Int) (r4 : (Unit × (List Int))) : Fr := [(0, .one (.sl 0 1 0 r4.2.length)), (62, vl eValue p1.items), (63, vi (p1.items.length : Int)), (64, vi (IntKind.i64.wrap (x2 + (1 : Int))))]
abbrev qa1547 (p1 : GValue) (r2 : GWide) (r3 : (Unit × (List Int))) : Fr := [(51, vl (eK .u8) [(IntKind.u8.wrap p1.scale)]), (50, vk .u8 (IntKind.u8.wrap p1.scale)), (49, vi p1.scale), (48, .one (.pv (.rp [(qa1517 p1)] 0 2))), (47, .one (.sl 0 1 0 r3.2.length)), (46, .j), (45, .ag (qa1526 r2)), (44, vi (IntKind.i64.wrap ((12 : Int) - p1.scale))), (43, vi p1.scale), (42, .one (.pv (.rp [(qa1517 p1)] 0 2))), (41, vi p1.n), (40, .one (.pv (.rp [(qa1517 p1)] 0 1))), (0, .j), (3, .one (.pv (.rp [(qa1517 p1)] 0 0))), (20, vi p1.kind), (38, vb (p1.kind == (3 : Int)))]
abbrev qa1553 (p1 : GValue) (l1 : List Int) (x2 : Int) (e1 : GValue) : Fr := [(71, .ag (qa1540 e1)), (70, .one (.sl 0 1 0 ((l1 ++ [(1 : Int)]).length))), (69, vl (eK .u8) [(1 : Int)]), (68, .j), (0, .j), (6, .one (.pt 1 0 0 0)), (62, vl eValue p1.items), (63, vi (p1.items.length : Int)), (64, vi x2)]

theorem c_value_key_s : ∀ (k0 : Nat) (p1 : GValue) (p2 : (List Int)) (r : (Unit × (List Int))), value_key_s k0 p1 p2 = some r → MX Tryd.prog 91 [.one (.sl 0 1 0 p2.length), .ag [ci p1.kind, ci p1.n, ci p1.scale, cst p1.s, cl eValue p1.items]] [.arr 1 ((eK .u8).els p2)] [0] (.one (.sl 0 1 0 r.2.length)) [.arr 1 ((eK .u8).els r.2)]
 | 0, _, _, r, h => by rw [value_key_s.eq_1] at h; cases h
 | k0 + 1, p1, p2, r, h => by
  rw [value_key_s.eq_2] at h
  refine MX.of 1 1 rfl (n := 77) (fn := Tryd.f91) (c := cd Tryd.f91 []) (by kernel_rfl) (by kernel_rfl) (by kernel_rfl) (Nat.le_of_ble_eq_true rfl) rfl (zq fun K1 hK1 => zr (zg [6] 2 [0,3] (zd (hK1 _ _ (zq fun K2 hK2 => zq fun K3 hK3 => ?_)))))
  refine zr (zu [6] 3 [0,3,9] [(qa1517 p1)] (zd (hK3 _ _ (zC h (fun b4 h => ?_) (fun b4 h => ?_)))))
  ·refine zq fun K5 hK5 => ?_
   obtain ⟨g6, h⟩ := zG h
   refine zr (zp [6] 3 [12] [] [(12, .one (.sl 0 1 0 (p2.length + ((eK .u8).els [(8 : Int)]).length)))] [.arr 1 ((eK .u8).els p2 ++ (eK .u8).els [(8 : Int)])] [elemsOk 1 ((eK .u8).els [(8 : Int)]), p2.length = ((eK .u8).els p2).length, p2.length + ((eK .u8).els [(8 : Int)]).length ≤ 4294967296] (⟨(eK .u8).ok _, ((eK .u8).len p2).symm, g6, trivial⟩) ?_)
   rw [show p2.length + ((eK .u8).els [(8 : Int)]).length = (p2 ++ [(8 : Int)]).length from (eK .u8).lapp _ _]
   rw [show (eK .u8).els p2 ++ (eK .u8).els [(8 : Int)] = (eK .u8).els (p2 ++ [(8 : Int)]) from (eK .u8).app2 _ _]
   refine zv [6] 1 [4] [] [(4, .one (.sl 0 1 0 ((p2 ++ [(8 : Int)]).length)))] [.arr 1 ((eK .u8).els (p2 ++ [(8 : Int)]))] (zd (hK5 _ _ (ze ?_)))
   obtain rfl := Option.some.inj h
   exact FinM.fin (.inr rfl) [] [.one (.sl 0 1 0 ((p2 ++ [(8 : Int)]).length))] [] (by kernel_rfl) trivial (by kernel_rfl) (by kernel_rfl) (.one (.rfl _ rfl))
  ·refine zs (hK2 _ _ (zq fun K7 hK7 => ?_))
   obtain ⟨g8, h⟩ := zG h
   refine zr ?_
   refine zp [6] 6 [3,18] [[pi p1.kind, pi p1.n, pi p1.scale, .s (.string p1.s), .ro (eValue.els p1.items)]] [(3, .one (.pv (.rp [[pi p1.kind, pi p1.n, pi p1.scale, .s (.string p1.s), .ro (eValue.els p1.items)]] 0 0))), (18, .one (.sl 0 1 0 (p2.length + ((eK .u8).els [(IntKind.u8.wrap p1.kind)]).length)))] [.arr 1 ((eK .u8).els p2 ++ (eK .u8).els [(IntKind.u8.wrap p1.kind)])] [([[pi p1.kind, pi p1.n, pi p1.scale, .s (.string p1.s), .ro (eValue.els p1.items)]] : List (List PV))[0]? = some [pi p1.kind, pi p1.n, pi p1.scale, .s (.string p1.s), .ro (eValue.els p1.items)], elemsOk 1 ((eK .u8).els [(IntKind.u8.wrap p1.kind)]), p2.length = ((eK .u8).els p2).length, p2.length + ((eK .u8).els [(IntKind.u8.wrap p1.kind)]).length ≤ 4294967296] (⟨rfl, (eK .u8).ok _, ((eK .u8).len p2).symm, g8, trivial⟩) ?_
   rw [show p2.length + ((eK .u8).els [(IntKind.u8.wrap p1.kind)]).length = (p2 ++ [(IntKind.u8.wrap p1.kind)]).length from (eK .u8).lapp _ _]
   rw [show (eK .u8).els p2 ++ (eK .u8).els [(IntKind.u8.wrap p1.kind)] = (eK .u8).els (p2 ++ [(IntKind.u8.wrap p1.kind)]) from (eK .u8).app2 _ _]
   refine zg [6] 1 [0,3] (zd (hK7 _ _ (zq fun K9 hK9 => zq fun K10 hK10 => zr (zu [6] 2 [0,3,20] [(qa1517 p1)] (zd ?_)))))
   refine hK10 _ _ (zb 0 (zq fun K11 hK11 => zr (zv [6] 2 [0,3,20,21] [] [(0, .one (.sl 0 1 0 ((p2 ++ [(IntKind.u8.wrap p1.kind)]).length))), (3, .one (.pv (.rp [(qa1517 p1)] 0 0))), (20, vi p1.kind), (21, vb (p1.kind == (1 : Int)))] (qa1520 p1 p2) (zd (hK11 _ _ (zC h (fun b12 h => ?_) (fun b12 h => ?_)))))))
   ·refine zq fun K13 hK13 => ?_
    obtain ⟨g14, h⟩ := zG h
    refine zr ?_
    refine zp [6] 6 [28] [[pi p1.kind, pi p1.n, pi p1.scale, .s (.string p1.s), .ro (eValue.els p1.items)]] [(28, .one (.sl 0 1 0 ((p2 ++ [(IntKind.u8.wrap p1.kind)]).length + ((eK .u8).els [(IntKind.u8.wrap p1.n)]).length)))] [.arr 1 ((eK .u8).els (p2 ++ [(IntKind.u8.wrap p1.kind)]) ++ (eK .u8).els [(IntKind.u8.wrap p1.n)])] [([[pi p1.kind, pi p1.n, pi p1.scale, .s (.string p1.s), .ro (eValue.els p1.items)]] : List (List PV))[0]? = some [pi p1.kind, pi p1.n, pi p1.scale, .s (.string p1.s), .ro (eValue.els p1.items)], elemsOk 1 ((eK .u8).els [(IntKind.u8.wrap p1.n)]), (p2 ++ [(IntKind.u8.wrap p1.kind)]).length = ((eK .u8).els (p2 ++ [(IntKind.u8.wrap p1.kind)])).length, (p2 ++ [(IntKind.u8.wrap p1.kind)]).length + ((eK .u8).els [(IntKind.u8.wrap p1.n)]).length ≤ 4294967296] (⟨rfl, (eK .u8).ok _, ((eK .u8).len (p2 ++ [(IntKind.u8.wrap p1.kind)])).symm, g14, trivial⟩) ?_
    rw [show (p2 ++ [(IntKind.u8.wrap p1.kind)]).length + ((eK .u8).els [(IntKind.u8.wrap p1.n)]).length = ((p2 ++ [(IntKind.u8.wrap p1.kind)]) ++ [(IntKind.u8.wrap p1.n)]).length from (eK .u8).lapp _ _]
    rw [show (eK .u8).els (p2 ++ [(IntKind.u8.wrap p1.kind)]) ++ (eK .u8).els [(IntKind.u8.wrap p1.n)] = (eK .u8).els ((p2 ++ [(IntKind.u8.wrap p1.kind)]) ++ [(IntKind.u8.wrap p1.n)]) from (eK .u8).app2 _ _]
    refine zv [6] 1 [4] [] [(4, .one (.sl 0 1 0 (((p2 ++ [(IntKind.u8.wrap p1.kind)]) ++ [(IntKind.u8.wrap p1.n)]).length)))] [.arr 1 ((eK .u8).els ((p2 ++ [(IntKind.u8.wrap p1.kind)]) ++ [(IntKind.u8.wrap p1.n)]))] (zd (hK13 _ _ (ze ?_)))
    obtain rfl := Option.some.inj h
    exact FinM.fin (.inr rfl) [] [.one (.sl 0 1 0 (((p2 ++ [(IntKind.u8.wrap p1.kind)]) ++ [(IntKind.u8.wrap p1.n)]).length))] [] (by kernel_rfl) trivial (by kernel_rfl) (by kernel_rfl) (.one (.rfl _ rfl))
   ·refine zq fun K15 hK15 => ?_
    have hJ1 : ∀ (x1 : Bool), value_key_s_j1 (value_key_s k0) p1 p2 x1 = some r → ∀ fr1 st1, Sub 77 1 [0] fr1 st1 [(0, .one (.sl 0 1 0 ((p2 ++ [(IntKind.u8.wrap p1.kind)]).length))), (3, .one (.pv (.rp [(qa1517 p1)] 0 0))), (20, vi p1.kind), (29, vb x1)] (qa1520 p1 p2) → K15 fr1 st1 := by
     intro x1 h fr1 st1 hS
     unfold value_key_s_j1 at h
     refine hK15 _ _ (XW.sub hS ?_)
     refine zC h (fun b18 h => ?_) (fun b18 h => ?_)
     ·refine zq fun K19 hK19 => ?_
      obtain ⟨y1, hy20, h⟩ := zB h
      obtain ⟨r1, c21, h⟩ := zB h
      refine zr (zv [6] 5 [32,36] [[pi p1.kind, pi p1.n, pi p1.scale, .s (.string p1.s), .ro (eValue.els p1.items)]] [(32, .one (.sl 0 1 0 ((p2 ++ [(IntKind.u8.wrap p1.kind)]).length))), (36, vk .u64 (IntKind.u64.wrap ((IntKind.u64.wrap p1.n) + (9223372036854775808 : Int))))] [.arr 1 ((eK .u8).els (p2 ++ [(IntKind.u8.wrap p1.kind)]))] ?_)
      rw [show (IntKind.u64.wrap ((IntKind.u64.wrap p1.n) + (9223372036854775808 : Int))) = y1 from Option.some.inj hy20]
      refine XO.calx 107 [.one (.sl 0 1 0 ((p2 ++ [(IntKind.u8.wrap p1.kind)]).length)), vk .u64 y1] (qa1520 p1 p2) [.arr 1 ((eK .u8).els r1.2)] [0] (.one (.sl 0 1 0 r1.2.length)) [0] [0] [(37, .one (.sl 0 1 0 r1.2.length)), (32, .j), (36, vk .u64 y1)] [.arr 1 ((eK .u8).els r1.2)] (by kernel_rfl) (c_value_word_s _ _ _ c21) (by kernel_rfl) (by kernel_rfl) (by kernel_rfl) (by kernel_rfl) (by kernel_rfl) (by kernel_rfl) (by kernel_rfl) (zv [6] 1 [4] [] [(4, .one (.sl 0 1 0 r1.2.length))] [.arr 1 ((eK .u8).els r1.2)] (zd (hK19 _ _ (ze ?_))))
      obtain rfl := Option.some.inj h
      exact FinM.fin (.inr rfl) [] [.one (.sl 0 1 0 r1.2.length)] [] (by kernel_rfl) trivial (by kernel_rfl) (by kernel_rfl) (.one (.rfl _ rfl))
     ·refine zq fun K22 hK22 => zr (zg [6] 2 [0,3,20,38] (zd (hK22 _ _ (zC h (fun b23 h => ?_) (fun b23 h => ?_)))))
      ·refine zq fun K24 hK24 => ?_
       obtain ⟨r2, c25, h⟩ := zB h
       obtain ⟨r3, c26, h⟩ := zB h
       obtain ⟨g27, h⟩ := zG h
       refine XW.drwG 12 [0, 1] [([], []), ([], []), ([], []), ([], []), ([], []), ([], []), ([0], []), ([0], [0]), ([], []), ([], []), ([], []), ([], [])] (qa1547 p1 r2 r3) [.arr 1 ((eK .u8).els r3.2)] (by kernel_rfl) (by kernel_rfl) ?_ ?_
       ·refine zgv 5 [(qa1517 p1), (qa1517 p1)] [(44, vi (IntKind.i64.wrap ((12 : Int) - p1.scale))), (43, vi p1.scale), (42, .one (.pv (.rp [(qa1517 p1)] 0 2))), (41, vi p1.n), (40, .one (.pv (.rp [(qa1517 p1)] 0 1))), (0, .one (.sl 0 1 0 ((p2 ++ [(IntKind.u8.wrap p1.kind)]).length))), (3, .one (.pv (.rp [(qa1517 p1)] 0 0))), (20, vi p1.kind), (38, vb (p1.kind == (3 : Int)))] ?_
        refine GY.cal 108 [vi p1.n, vi (IntKind.i64.wrap ((12 : Int) - p1.scale))] (.ag (qa1526 r2)) [(45, .ag (qa1526 r2)), (44, vi (IntKind.i64.wrap ((12 : Int) - p1.scale))), (43, vi p1.scale), (42, .one (.pv (.rp [(qa1517 p1)] 0 2))), (41, vi p1.n), (40, .one (.pv (.rp [(qa1517 p1)] 0 1))), (0, .one (.sl 0 1 0 ((p2 ++ [(IntKind.u8.wrap p1.kind)]).length))), (3, .one (.pv (.rp [(qa1517 p1)] 0 0))), (20, vi p1.kind), (38, vb (p1.kind == (3 : Int)))] [] (by kernel_rfl) (by kernel_rfl) (c_value_scaled _ _ _ c25) rfl rfl (by kernel_rfl) (by kernel_rfl) (by kernel_rfl) ?_
        refine zgv 1 [] [(46, .one (.sl 0 1 0 ((p2 ++ [(IntKind.u8.wrap p1.kind)]).length))), (45, .ag (qa1526 r2)), (44, vi (IntKind.i64.wrap ((12 : Int) - p1.scale))), (43, vi p1.scale), (42, .one (.pv (.rp [(qa1517 p1)] 0 2))), (41, vi p1.n), (40, .one (.pv (.rp [(qa1517 p1)] 0 1))), (0, .one (.sl 0 1 0 ((p2 ++ [(IntKind.u8.wrap p1.kind)]).length))), (3, .one (.pv (.rp [(qa1517 p1)] 0 0))), (20, vi p1.kind), (38, vb (p1.kind == (3 : Int)))] ?_
        refine GY.calx 109 [.ag (qa1526 r2), .one (.sl 0 1 0 ((p2 ++ [(IntKind.u8.wrap p1.kind)]).length))] (qa1520 p1 p2) [.arr 1 ((eK .u8).els r3.2)] [0] (.one (.sl 0 1 0 r3.2.length)) [0] [0] [(47, .one (.sl 0 1 0 r3.2.length)), (46, .j), (45, .ag (qa1526 r2)), (44, vi (IntKind.i64.wrap ((12 : Int) - p1.scale))), (43, vi p1.scale), (42, .one (.pv (.rp [(qa1517 p1)] 0 2))), (41, vi p1.n), (40, .one (.pv (.rp [(qa1517 p1)] 0 1))), (0, .j), (3, .one (.pv (.rp [(qa1517 p1)] 0 0))), (20, vi p1.kind), (38, vb (p1.kind == (3 : Int)))] [0] [.arr 1 ((eK .u8).els r3.2)] (by kernel_rfl) (by kernel_rfl) (c_value_wide_bytes_s _ _ _ c26) (by kernel_rfl) (by kernel_rfl) (by kernel_rfl) (by kernel_rfl) (by kernel_rfl) (by kernel_rfl) (by kernel_rfl) ?_
        refine zgv 4 [(qa1517 p1)] (qa1547 p1 r2 r3) ?_
        exact GY.done (by kernel_rfl) (by kernel_rfl)
       refine zp [6] 1 [52] [] [(52, .one (.sl 0 1 0 (r3.2.length + ((eK .u8).els [(IntKind.u8.wrap p1.scale)]).length)))] [.arr 1 ((eK .u8).els r3.2 ++ (eK .u8).els [(IntKind.u8.wrap p1.scale)])] [elemsOk 1 ((eK .u8).els [(IntKind.u8.wrap p1.scale)]), r3.2.length = ((eK .u8).els r3.2).length, r3.2.length + ((eK .u8).els [(IntKind.u8.wrap p1.scale)]).length ≤ 4294967296] (⟨(eK .u8).ok _, ((eK .u8).len r3.2).symm, g27, trivial⟩) ?_
       rw [show r3.2.length + ((eK .u8).els [(IntKind.u8.wrap p1.scale)]).length = (r3.2 ++ [(IntKind.u8.wrap p1.scale)]).length from (eK .u8).lapp _ _]
       rw [show (eK .u8).els r3.2 ++ (eK .u8).els [(IntKind.u8.wrap p1.scale)] = (eK .u8).els (r3.2 ++ [(IntKind.u8.wrap p1.scale)]) from (eK .u8).app2 _ _]
       refine zv [6] 1 [4] [] [(4, .one (.sl 0 1 0 ((r3.2 ++ [(IntKind.u8.wrap p1.scale)]).length)))] [.arr 1 ((eK .u8).els (r3.2 ++ [(IntKind.u8.wrap p1.scale)]))] (zd (hK24 _ _ (ze ?_)))
       obtain rfl := Option.some.inj h
       exact FinM.fin (.inr rfl) [] [.one (.sl 0 1 0 ((r3.2 ++ [(IntKind.u8.wrap p1.scale)]).length))] [] (by kernel_rfl) trivial (by kernel_rfl) (by kernel_rfl) (.one (.rfl _ rfl))
      ·refine zq fun K28 hK28 => zr (zg [6] 2 [0,3,53] (zd (hK28 _ _ (zC h (fun b29 h => ?_) (fun b29 h => ?_)))))
       ·refine zq fun K30 hK30 => ?_
        obtain ⟨g31, h⟩ := zG h
        obtain ⟨g32, h⟩ := zG h
        refine zr ?_
        refine zp [6] 4 [58] [[pi p1.kind, pi p1.n, pi p1.scale, .s (.string p1.s), .ro (eValue.els p1.items)]] [(58, .one (.sl 0 1 0 ((p2 ++ [(IntKind.u8.wrap p1.kind)]).length + (byteEls p1.s).length)))] [.arr 1 ((eK .u8).els (p2 ++ [(IntKind.u8.wrap p1.kind)]) ++ byteEls p1.s)] [([[pi p1.kind, pi p1.n, pi p1.scale, .s (.string p1.s), .ro (eValue.els p1.items)]] : List (List PV))[0]? = some [pi p1.kind, pi p1.n, pi p1.scale, .s (.string p1.s), .ro (eValue.els p1.items)], elemsOk 1 (byteEls p1.s), (p2 ++ [(IntKind.u8.wrap p1.kind)]).length = ((eK .u8).els (p2 ++ [(IntKind.u8.wrap p1.kind)])).length, (p2 ++ [(IntKind.u8.wrap p1.kind)]).length + (byteEls p1.s).length ≤ 4294967296] (⟨rfl, byteEls_ok _, ((eK .u8).len (p2 ++ [(IntKind.u8.wrap p1.kind)])).symm, (by rw [byteEls_len]; exact g31), trivial⟩) ?_
        rw [show (p2 ++ [(IntKind.u8.wrap p1.kind)]).length + (byteEls p1.s).length = ((p2 ++ [(IntKind.u8.wrap p1.kind)]) ++ (bytesL p1.s)).length from byteEls_lapp _ _]
        rw [show (eK .u8).els (p2 ++ [(IntKind.u8.wrap p1.kind)]) ++ byteEls p1.s = (eK .u8).els ((p2 ++ [(IntKind.u8.wrap p1.kind)]) ++ (bytesL p1.s)) from byteEls_app _ _]
        refine zp [6] 2 [60] [] [(60, .one (.sl 0 1 0 (((p2 ++ [(IntKind.u8.wrap p1.kind)]) ++ (bytesL p1.s)).length + ((eK .u8).els [(0 : Int)]).length)))] [.arr 1 ((eK .u8).els ((p2 ++ [(IntKind.u8.wrap p1.kind)]) ++ (bytesL p1.s)) ++ (eK .u8).els [(0 : Int)])] [elemsOk 1 ((eK .u8).els [(0 : Int)]), ((p2 ++ [(IntKind.u8.wrap p1.kind)]) ++ (bytesL p1.s)).length = ((eK .u8).els ((p2 ++ [(IntKind.u8.wrap p1.kind)]) ++ (bytesL p1.s))).length, ((p2 ++ [(IntKind.u8.wrap p1.kind)]) ++ (bytesL p1.s)).length + ((eK .u8).els [(0 : Int)]).length ≤ 4294967296] (⟨(eK .u8).ok _, ((eK .u8).len ((p2 ++ [(IntKind.u8.wrap p1.kind)]) ++ (bytesL p1.s))).symm, g32, trivial⟩) ?_
        rw [show ((p2 ++ [(IntKind.u8.wrap p1.kind)]) ++ (bytesL p1.s)).length + ((eK .u8).els [(0 : Int)]).length = (((p2 ++ [(IntKind.u8.wrap p1.kind)]) ++ (bytesL p1.s)) ++ [(0 : Int)]).length from (eK .u8).lapp _ _]
        rw [show (eK .u8).els ((p2 ++ [(IntKind.u8.wrap p1.kind)]) ++ (bytesL p1.s)) ++ (eK .u8).els [(0 : Int)] = (eK .u8).els (((p2 ++ [(IntKind.u8.wrap p1.kind)]) ++ (bytesL p1.s)) ++ [(0 : Int)]) from (eK .u8).app2 _ _]
        refine zv [6] 1 [4] [] [(4, .one (.sl 0 1 0 ((((p2 ++ [(IntKind.u8.wrap p1.kind)]) ++ (bytesL p1.s)) ++ [(0 : Int)]).length)))] [.arr 1 ((eK .u8).els (((p2 ++ [(IntKind.u8.wrap p1.kind)]) ++ (bytesL p1.s)) ++ [(0 : Int)]))] (zd (hK30 _ _ (ze ?_)))
        obtain rfl := Option.some.inj h
        exact FinM.fin (.inr rfl) [] [.one (.sl 0 1 0 ((((p2 ++ [(IntKind.u8.wrap p1.kind)]) ++ (bytesL p1.s)) ++ [(0 : Int)]).length))] [] (by kernel_rfl) trivial (by kernel_rfl) (by kernel_rfl) (.one (.rfl _ rfl))
       ·refine zs (hK9 _ _ (zq fun K33 hK33 => ?_))
        have hJ2 : ∀ (l2 : List Int), value_key_s_j2 l2 = some r → ∀ fr1 st1, Sub 77 1 [0] fr1 st1 [(0, .one (.sl 0 1 0 l2.length))] [.arr 1 ((eK .u8).els l2)] → K33 fr1 st1 := by
         intro l2 h fr1 st1 hS
         unfold value_key_s_j2 at h
         refine hK33 _ _ (XW.sub hS ?_)
         refine zq fun K43 hK43 => ?_
         obtain ⟨g44, h⟩ := zG h
         refine zr (zp [6] 3 [76] [] [(76, .one (.sl 0 1 0 (l2.length + ((eK .u8).els [(0 : Int)]).length)))] [.arr 1 ((eK .u8).els l2 ++ (eK .u8).els [(0 : Int)])] [elemsOk 1 ((eK .u8).els [(0 : Int)]), l2.length = ((eK .u8).els l2).length, l2.length + ((eK .u8).els [(0 : Int)]).length ≤ 4294967296] (⟨(eK .u8).ok _, ((eK .u8).len l2).symm, g44, trivial⟩) ?_)
         rw [show l2.length + ((eK .u8).els [(0 : Int)]).length = (l2 ++ [(0 : Int)]).length from (eK .u8).lapp _ _]
         rw [show (eK .u8).els l2 ++ (eK .u8).els [(0 : Int)] = (eK .u8).els (l2 ++ [(0 : Int)]) from (eK .u8).app2 _ _]
         refine zv [6] 1 [4] [] [(4, .one (.sl 0 1 0 ((l2 ++ [(0 : Int)]).length)))] [.arr 1 ((eK .u8).els (l2 ++ [(0 : Int)]))] (zd (hK43 _ _ (ze ?_)))
         obtain rfl := Option.some.inj h
         exact FinM.fin (.inr rfl) [] [.one (.sl 0 1 0 ((l2 ++ [(0 : Int)]).length))] [] (by kernel_rfl) trivial (by kernel_rfl) (by kernel_rfl) (.one (.rfl _ rfl))
        refine zq fun K34 hK34 => zr (zv [6] 3 [0,62,63] [[pi p1.kind, pi p1.n, pi p1.scale, .s (.string p1.s), .ro (eValue.els p1.items)]] [(0, .one (.sl 0 1 0 ((p2 ++ [(IntKind.u8.wrap p1.kind)]).length))), (62, vl eValue p1.items), (63, vi ((eValue.els p1.items).length : Int))] [.arr 1 ((eK .u8).els (p2 ++ [(IntKind.u8.wrap p1.kind)]))] ?_)
        rw [eValue.len p1.items]
        refine zg [6] 1 [0,62,63,64] (zd (hK34 _ _ (zb 1 (XW.rounds' BIG (x := cd Tryd.f91 [1,1,1,1,0,1,0,0]) (by kernel_rfl) fun Q1 hQ1 => ?_))))
        have hL1 : ∀ (k1 : Nat) (l1 : List Int) (x2 : Int), value_key_s_l1 (value_key_s k0) p1 k1 l1 x2 = some r → XR Tryd.prog 77 1 [0] (cd Tryd.f91 [1,1,1,1,0,1,0,0]) Q1 k1 [(0, .one (.sl 0 1 0 l1.length)), (62, vl eValue p1.items), (63, vi (p1.items.length : Int)), (64, vi x2)] [.arr 1 ((eK .u8).els l1)] := by
         intro k1
         induction k1 with
         | zero => intro l1 x2 h; rw [value_key_s_l1.eq_1] at h; cases h
         | succ k1 ih1 =>
          intro l1 x2 h
          rw [value_key_s_l1.eq_2] at h
          refine zq fun K35 hK35 => zr (zg [6] 1 [0,62,63,64,65] (zd (hK35 _ _ (zq fun K36 hK36 => zC h (fun b37 h => ?_) (fun b37 h => ?_)))))
          ·refine zs (hK36 _ _ (zq fun K38 hK38 => zb 2 (zq fun K39 hK39 => ?_)))
           obtain ⟨e1, a40, h⟩ := zB h
           refine zr ?_
           refine zp [6] 4 [0,6,62,63,64] [[pi e1.kind, pi e1.n, pi e1.scale, .s (.string e1.s), .ro (eValue.els e1.items)]] [(0, .one (.sl 0 1 0 l1.length)), (6, .one (.pt 1 0 0 0)), (62, vl eValue p1.items), (63, vi (p1.items.length : Int)), (64, vi x2)] [.arr 1 ((eK .u8).els l1), .box (qa1540 e1)] [0 ≤ x2 ∧ x2 < ((eValue.els p1.items).length : Int) ∧ elemsOk 5 (eValue.els p1.items), (eValue.els p1.items)[x2.toNat]? = some [pi e1.kind, pi e1.n, pi e1.scale, .s (.string e1.s), .ro (eValue.els e1.items)]] (⟨eValue.inb a40, ((eValue.get a40).trans (by cases e1; rfl)), trivial⟩) ?_
           refine zd (hK39 _ _ ?_)
           obtain ⟨g41, h⟩ := zG h
           obtain ⟨r4, c42, h⟩ := zB h
           refine XW.drwG 4 [0, 2] [([0], []), ([], []), ([0], [0]), ([1], [])] (qa1553 p1 l1 x2 e1) [.arr 1 ((eK .u8).els (l1 ++ [(1 : Int)])), .box (qa1540 e1)] (by kernel_rfl) (by kernel_rfl) ?_ ?_
           ·refine zgv 2 [] [(69, vl (eK .u8) [(1 : Int)]), (68, .one (.sl 0 1 0 l1.length)), (0, .one (.sl 0 1 0 l1.length)), (6, .one (.pt 1 0 0 0)), (62, vl eValue p1.items), (63, vi (p1.items.length : Int)), (64, vi x2)] ?_
            refine GY.wr [] [(70, .one (.sl 0 1 0 (l1.length + ((eK .u8).els [(1 : Int)]).length))), (69, vl (eK .u8) [(1 : Int)]), (68, .j), (0, .j), (6, .one (.pt 1 0 0 0)), (62, vl eValue p1.items), (63, vi (p1.items.length : Int)), (64, vi x2)] [0] [.arr 1 ((eK .u8).els l1 ++ (eK .u8).els [(1 : Int)]), .box [ci e1.kind, ci e1.n, ci e1.scale, cst e1.s, cl eValue e1.items]] [elemsOk 1 ((eK .u8).els [(1 : Int)]), l1.length = ((eK .u8).els l1).length, l1.length + ((eK .u8).els [(1 : Int)]).length ≤ 4294967296] (by kernel_rfl) (by kernel_rfl) (⟨(eK .u8).ok _, ((eK .u8).len l1).symm, g41, trivial⟩) ?_
            rw [show l1.length + ((eK .u8).els [(1 : Int)]).length = (l1 ++ [(1 : Int)]).length from (eK .u8).lapp _ _]
            rw [show (eK .u8).els l1 ++ (eK .u8).els [(1 : Int)] = (eK .u8).els (l1 ++ [(1 : Int)]) from (eK .u8).app2 _ _]
            exact zgv 1 [] (qa1553 p1 l1 x2 e1) (GY.done (by kernel_rfl) (by kernel_rfl))
           refine XO.calx 91 [.one (.sl 0 1 0 ((l1 ++ [(1 : Int)]).length)), .ag (qa1540 e1)] [.arr 1 ((eK .u8).els (l1 ++ [(1 : Int)]))] [.arr 1 ((eK .u8).els r4.2)] [0] (.one (.sl 0 1 0 r4.2.length)) [0] [0] [(72, .one (.sl 0 1 0 r4.2.length)), (71, .ag (qa1540 e1)), (70, .j), (69, vl (eK .u8) [(1 : Int)]), (68, .j), (0, .j), (6, .one (.pt 1 0 0 0)), (62, vl eValue p1.items), (63, vi (p1.items.length : Int)), (64, vi x2)] [.arr 1 ((eK .u8).els r4.2), .box (qa1540 e1)] (by kernel_rfl) (c_value_key_s k0 _ _ _ c42) (by kernel_rfl) (by kernel_rfl) (by kernel_rfl) (by kernel_rfl) (by kernel_rfl) (by kernel_rfl) (by kernel_rfl) ?_
           exact zg [6] 1 [0,62,63,64] (zd (hK38 _ _ (zr (zg [6] 2 [0,62,63,64] (zd (XR.sub (Sub.trans (Sub.pick (fr' := (qa1544 p1 x2 r4)) [0,62,63,64] (by kernel_rfl)) (Sub.take (fr' := (qa1544 p1 x2 r4)) 1 (by decide) (by kernel_rfl) (by kernel_rfl))) (ih1 r4.2 (IntKind.i64.wrap (x2 + (1 : Int))) h)))))))
          ·exact zx 1 (hQ1 _ _ _ (hJ2 l1 h _ _ (zk [0])))
        exact XR.sub (zk [0,62,63,64]) (hL1 BIG (p2 ++ [(IntKind.u8.wrap p1.kind)]) (0 : Int) h)
    refine zq fun K16 hK16 => zr (zg [6] 2 [0,3,20,29] (zd (hK16 _ _ (zC h (fun b17 h => ?_) (fun b17 h => ?_)))))
    ·exact zs (hJ1 (p1.kind == (2 : Int)) h _ _ (zk [0,3,20,29]))
    ·exact zr (zg [6] 2 [0,3,20,29] (zd (hJ1 (p1.kind == (5 : Int)) h _ _ (zk [0,3,20,29]))))

def slices_Clip_byte_byte (p1 : (List Int)) : Option (List Int) :=
    grd (0 ≤ (0 : Int) ∧ (0 : Int) ≤ (p1.length : Int) ∧ (p1.length : Int) ≤ (p1.length : Int) ∧ (p1.length : Int) ≤ (p1.length : Int)) <|
    some ((p1.drop (0 : Int).toNat).take ((p1.length : Int).toNat - (0 : Int).toNat))


theorem c_slices_Clip_byte_byte (p1 : (List Int)) (r : (List Int)) (h : slices_Clip_byte_byte p1 = some r) : PC Tryd.prog 92 [vl (eK .u8) p1] (vl (eK .u8) r) := by
 unfold slices_Clip_byte_byte at h
 refine zF 9 Tryd.f92 (zq fun K1 hK1 => zr (zg [] 1 [0] (zd (hK1 _ _ (zq fun K2 hK2 => ?_)))))
 obtain ⟨g3, h⟩ := zG h
 refine zr (zv [] 3 [0,3,5] [] [(0, vl (eK .u8) p1), (3, vl (eK .u8) p1), (5, vi (((eK .u8).els p1).length : Int))] [] ?_)
 rw [(eK .u8).len p1]
 refine zv [] 2 [3,5,7] [] [(3, vl (eK .u8) p1), (5, vi (p1.length : Int)), (7, vi (((eK .u8).els p1).length : Int))] [] ?_
 rw [(eK .u8).len p1]
 refine zp [] 1 [8] [] [(8, .one (.pv (.ro ((((eK .u8).els p1).drop (0 : Int).toNat).take ((p1.length : Int).toNat - (0 : Int).toNat)))))] [] [(0 ≤ (0 : Int) ∧ (0 : Int) ≤ (p1.length : Int) ∧ (p1.length : Int) ≤ (p1.length : Int) ∧ (p1.length : Int) ≤ (((eK .u8).els p1).length : Int)) ∧ elemsOk 1 ((eK .u8).els p1)] (⟨(eK .u8).cutMOk g3, trivial⟩) ?_
 rw [show (((eK .u8).els p1).drop (0 : Int).toNat).take ((p1.length : Int).toNat - (0 : Int).toNat) = (eK .u8).els ((p1.drop (0 : Int).toNat).take ((p1.length : Int).toNat - (0 : Int).toNat)) from (eK .u8).cut _ _ _]
 refine zg [] 1 [2] (zd (hK2 _ _ (ze ?_)))
 obtain rfl := Option.some.inj h
 exact zf [vl (eK .u8) ((p1.drop (0 : Int).toNat).take ((p1.length : Int).toNat - (0 : Int).toNat))] (.one (.rfl _ rfl))

def value_Key_j1 (l2 : List Int) : Option (List Int) :=
    bnd (slices_Clip_byte_byte l2) fun r3 =>
    some r3

def value_Key_l1 (p1 : (List GValue)) : Nat → List Int → Int → Option (List Int)
  | 0, _, _ => none
  | k1 + 1, l1, x1 =>
    ift (decide (x1 < (p1.length : Int)))
      (bnd (at? p1 x1) fun e1 =>
       bnd (value_key_s BIG e1 l1) fun r2 =>
       (value_Key_l1 p1 k1) r2.2 (IntKind.i64.wrap (x1 + (1 : Int))))
      (value_Key_j1 l1)

def value_Key (p1 : (List GValue)) : Option (List Int) :=
    bnd (slices_ContainsFunc_api_Value_api_Value_of_value_Key_1 p1) fun r1 =>
    ift r1
      (some [])
      (value_Key_l1 p1 BIG [] (0 : Int))

abbrev qa1565 (e1 : GValue) : List CV := [ci e1.kind, ci e1.n, ci e1.scale, cst e1.s, cl eValue e1.items]

theorem c_value_Key (p1 : (List GValue)) (r : (List Int)) (h : value_Key p1 = some r) : PC Tryd.prog 67 [vl eValue p1] (vl (eK .u8) r) := by
 unfold value_Key at h
 refine zF 20 Tryd.f67 (zq fun K1 hK1 => zr (zg [5] 1 [0] (zd (hK1 _ _ (zq fun K2 hK2 => zq fun K3 hK3 => ?_)))))
 obtain ⟨r1, c4, h⟩ := zB h
 refine zr (zg [5] 1 [0,6] (zl 75 [vl eValue p1, .one (.pv (.fn 90 []))] (vb r1) [(7, vb r1), (0, vl eValue p1), (6, vl eValue p1)] (c_slices_ContainsFunc_api_Value_api_Value_of_value_Key_1 _ _ c4) (zd (hK3 _ _ (zC h (fun b5 h => ?_) (fun b5 h => ?_))))))
 ·refine zq fun K6 hK6 => zr (zg [5] 1 [2] (zd (hK6 _ _ (ze ?_))))
  obtain rfl := Option.some.inj h
  exact zf [.one (.pv (.s (.slice none 0 0)))] (.one (.nl))
 ·refine zs (hK2 _ _ (zq fun K7 hK7 => zr (zg [5] 1 [0,3] (zd (hK7 _ _ (zq fun K8 hK8 => ?_))))))
  have hJ1 : ∀ (l2 : List Int), value_Key_j1 l2 = some r → ∀ fr1 st1, Sub 20 0 [] fr1 st1 [(3, .one (.sl 0 1 0 l2.length))] [.arr 1 ((eK .u8).els l2)] → K8 fr1 st1 := by
   intro l2 h fr1 st1 hS
   unfold value_Key_j1 at h
   refine hK8 _ _ (XW.sub hS ?_)
   refine zq fun K17 hK17 => ?_
   obtain ⟨r3, c18, h⟩ := zB h
   refine zr (zv [5] 1 [18] [] [(18, .one (.sl 0 1 0 l2.length))] [.arr 1 ((eK .u8).els l2)] (XO.sub (Sub.kill (fr' := [(18, vl (eK .u8) l2)]) 0 (Nat.zero_le _) (by kernel_rfl) ⟨.one (cf_sl (eK .u8) l2 rfl rfl rfl), trivial⟩) (za (c_slices_Clip_byte_byte _ _ c18) (zg [5] 1 [2] (zd (hK17 _ _ (ze ?_)))))))
   obtain rfl := Option.some.inj h
   exact zf [vl (eK .u8) r3] (.one (.rfl _ rfl))
  refine zq fun K9 hK9 => zr (zv [5] 2 [3,8,9] [] [(3, .one (.pv (.s (.slice none 0 0)))), (8, vl eValue p1), (9, vi ((eValue.els p1).length : Int))] [] ?_)
  rw [eValue.len p1]
  refine zv [5] 1 [3,8,9,10] [] [(3, .one (.pv (.s (.slice none 0 0)))), (8, vl eValue p1), (9, vi (p1.length : Int)), (10, vi (0 : Int))] [] (zd (hK9 _ _ (zb 0 (XW.sub (Sub.list (t := 3) (sz := 1) rfl) (XW.rounds' BIG (x := cd Tryd.f67 [1,1,1,0,1,0,0]) (by kernel_rfl) fun Q1 hQ1 => ?_)))))
  have hL1 : ∀ (k1 : Nat) (l1 : List Int) (x1 : Int), value_Key_l1 p1 k1 l1 x1 = some r → XR Tryd.prog 20 0 [] (cd Tryd.f67 [1,1,1,0,1,0,0]) Q1 k1 [(3, .one (.sl 0 1 0 l1.length)), (8, vl eValue p1), (9, vi (p1.length : Int)), (10, vi x1)] [.arr 1 ((eK .u8).els l1)] := by
   intro k1
   induction k1 with
   | zero => intro l1 x1 h; rw [value_Key_l1.eq_1] at h; cases h
   | succ k1 ih1 =>
    intro l1 x1 h
    rw [value_Key_l1.eq_2] at h
    refine zq fun K10 hK10 => zr (zg [5] 1 [3,8,9,10,11] (zd (hK10 _ _ (zq fun K11 hK11 => zC h (fun b12 h => ?_) (fun b12 h => ?_)))))
    ·refine zs (hK11 _ _ (zq fun K13 hK13 => zb 1 (zq fun K14 hK14 => ?_)))
     obtain ⟨e1, a15, h⟩ := zB h
     refine zr (zo [5] 4 [3,5,8,9,10] [[pi e1.kind, pi e1.n, pi e1.scale, .s (.string e1.s), .ro (eValue.els e1.items)]] [0 ≤ x1 ∧ x1 < ((eValue.els p1).length : Int) ∧ elemsOk 5 (eValue.els p1), (eValue.els p1)[x1.toNat]? = some [pi e1.kind, pi e1.n, pi e1.scale, .s (.string e1.s), .ro (eValue.els e1.items)]] (⟨eValue.inb a15, ((eValue.get a15).trans (by cases e1; rfl)), trivial⟩) (zd (hK14 _ _ ?_)))
     obtain ⟨r2, c16, h⟩ := zB h
     refine zr (zv [5] 2 [8,9,10,14,15] [] [(8, vl eValue p1), (9, vi (p1.length : Int)), (10, vi x1), (14, .one (.sl 0 1 0 l1.length)), (15, .ag (qa1565 e1))] [.arr 1 ((eK .u8).els l1), .box (qa1565 e1)] ?_)
     refine XO.calx 91 [.one (.sl 0 1 0 l1.length), .ag (qa1565 e1)] [.arr 1 ((eK .u8).els l1)] [.arr 1 ((eK .u8).els r2.2)] [0] (.one (.sl 0 1 0 r2.2.length)) [0] [0] [(16, .one (.sl 0 1 0 r2.2.length)), (8, vl eValue p1), (9, vi (p1.length : Int)), (10, vi x1), (14, .j), (15, .ag (qa1565 e1))] [.arr 1 ((eK .u8).els r2.2), .box (qa1565 e1)] (by kernel_rfl) (c_value_key_s BIG _ _ _ c16) (by kernel_rfl) (by kernel_rfl) (by kernel_rfl) (by kernel_rfl) (by kernel_rfl) (by kernel_rfl) (by kernel_rfl) ?_
     exact zg [5] 1 [3,8,9,10] (zd (hK13 _ _ (zr (zg [5] 2 [3,8,9,10] (zd (XR.sub (Sub.trans (Sub.pick (fr' := [(3, .one (.sl 0 1 0 r2.2.length)), (8, vl eValue p1), (9, vi (p1.length : Int)), (10, vi (IntKind.i64.wrap (x1 + (1 : Int))))]) [3,8,9,10] (by kernel_rfl)) (Sub.take (fr' := [(3, .one (.sl 0 1 0 r2.2.length)), (8, vl eValue p1), (9, vi (p1.length : Int)), (10, vi (IntKind.i64.wrap (x1 + (1 : Int))))]) 1 (Nat.zero_le _) (by kernel_rfl) (by kernel_rfl))) (ih1 r2.2 (IntKind.i64.wrap (x1 + (1 : Int))) h)))))))
    ·exact zx 0 (hQ1 _ _ _ (hJ1 l1 h _ _ (zk [3])))
  exact XR.sub (zk [3,8,9,10]) (hL1 BIG [] (0 : Int) h)

def value_HashBytes_j1 (x3 : Int) : Option Int :=
    some x3

def value_HashBytes_l1 (p1 : (List Int)) : Nat → Int → Int → Option Int
  | 0, _, _ => none
  | k1 + 1, x1, x2 =>
    ift (decide (x2 < (p1.length : Int)))
      (bnd (at? p1 x2) fun e1 =>
       bnd (some (IntKind.u64.wrap (BitVec.ofInt (IntKind.u64).bits x1 ^^^ BitVec.ofInt (IntKind.u64).bits (IntKind.u64.wrap e1)).toNat)) fun y1 =>
       (value_HashBytes_l1 p1 k1) (IntKind.u64.wrap (y1 * (1099511628211 : Int))) (IntKind.i64.wrap (x2 + (1 : Int))))
      (value_HashBytes_j1 x1)

def value_HashBytes (p1 : (List Int)) : Option Int :=
    value_HashBytes_l1 p1 BIG (14695981039346656037 : Int) (0 : Int)


theorem c_value_HashBytes (p1 : (List Int)) (r : Int) (h : value_HashBytes p1 = some r) : PC Tryd.prog 66 [vl (eK .u8) p1] (vk .u64 r) := by
 unfold value_HashBytes at h
 refine zF 19 Tryd.f66 (zq fun K1 hK1 => zr (zg [] 1 [0] (zd (hK1 _ _ (zq fun K2 hK2 => zr ?_)))))
 refine zg [] 1 [0,3] (zd (hK2 _ _ (zq fun K3 hK3 => ?_)))
 have hJ1 : ∀ (x3 : Int), value_HashBytes_j1 x3 = some r → ∀ fr1 st1, Sub 19 0 [] fr1 st1 [(3, vk .u64 x3)] [] → K3 fr1 st1 := by
  intro x3 h fr1 st1 hS
  unfold value_HashBytes_j1 at h
  refine hK3 _ _ (XW.sub hS ?_)
  refine zq fun K12 hK12 => zr (zg [] 2 [2] (zd (hK12 _ _ (ze ?_))))
  obtain rfl := Option.some.inj h
  exact zf [vk .u64 x3] (.one (.rfl _ rfl))
 refine zq fun K4 hK4 => zr (zv [] 2 [3,6,7] [] [(3, vk .u64 (14695981039346656037 : Int)), (6, vl (eK .u8) p1), (7, vi (((eK .u8).els p1).length : Int))] [] ?_)
 rw [(eK .u8).len p1]
 refine zg [] 1 [3,6,7,8] (zd (hK4 _ _ (zb 0 (XW.rounds' BIG (x := cd Tryd.f66 [1,1,0,1,0,0]) (by kernel_rfl) fun Q1 hQ1 => ?_))))
 have hL1 : ∀ (k1 : Nat) (x1 : Int) (x2 : Int), value_HashBytes_l1 p1 k1 x1 x2 = some r → XR Tryd.prog 19 0 [] (cd Tryd.f66 [1,1,0,1,0,0]) Q1 k1 [(3, vk .u64 x1), (6, vl (eK .u8) p1), (7, vi (p1.length : Int)), (8, vi x2)] [] := by
  intro k1
  induction k1 with
  | zero => intro x1 x2 h; rw [value_HashBytes_l1.eq_1] at h; cases h
  | succ k1 ih1 =>
   intro x1 x2 h
   rw [value_HashBytes_l1.eq_2] at h
   refine zq fun K5 hK5 => zr (zg [] 1 [3,6,7,8,9] (zd (hK5 _ _ (zq fun K6 hK6 => zC h (fun b7 h => ?_) (fun b7 h => ?_)))))
   ·refine zs (hK6 _ _ (zq fun K8 hK8 => zb 1 (zq fun K9 hK9 => ?_)))
    obtain ⟨e1, a10, h⟩ := zB h
    refine zr (zo [] 3 [3,5,6,7,8] [[.s (.int .u8 e1)]] [0 ≤ x2 ∧ x2 < (((eK .u8).els p1).length : Int) ∧ elemsOk 1 ((eK .u8).els p1), ((eK .u8).els p1)[x2.toNat]? = some [.s (.int .u8 e1)]] (⟨(eK .u8).inb a10, ((eK .u8).get a10), trivial⟩) (zd (hK9 _ _ ?_)))
    obtain ⟨y1, hy11, h⟩ := zB h
    refine zr (zv [] 4 [6,7,8,15] [] [(6, vl (eK .u8) p1), (7, vi (p1.length : Int)), (8, vi x2), (15, vk .u64 (IntKind.u64.wrap (BitVec.ofInt (IntKind.u64).bits x1 ^^^ BitVec.ofInt (IntKind.u64).bits (IntKind.u64.wrap e1)).toNat))] [] ?_)
    rw [show (IntKind.u64.wrap (BitVec.ofInt (IntKind.u64).bits x1 ^^^ BitVec.ofInt (IntKind.u64).bits (IntKind.u64.wrap e1)).toNat) = y1 from Option.some.inj hy11]
    exact zg [] 2 [3,6,7,8] (zd (hK8 _ _ (zr (zg [] 2 [3,6,7,8] (zd (XR.sub (zk [3,6,7,8]) (ih1 (IntKind.u64.wrap (y1 * (1099511628211 : Int))) (IntKind.i64.wrap (x2 + (1 : Int))) h)))))))
   ·exact zx 0 (hQ1 _ _ _ (hJ1 x1 h _ _ (zk [3])))
 exact XR.sub (zk [3,6,7,8]) (hL1 BIG (14695981039346656037 : Int) (0 : Int) h)

def value_Hash (p1 : GValue) : Option Int :=
    bnd (value_Key [p1]) fun r1 =>
    bnd (value_HashBytes r1) fun r2 =>
    some r2


theorem c_value_Hash (p1 : GValue) (r : Int) (h : value_Hash p1 = some r) : PC Tryd.prog 39 [.ag [ci p1.kind, ci p1.n, ci p1.scale, cst p1.s, cl eValue p1.items]] (vk .u64 r) := by
 unfold value_Hash at h
 refine zF 7 Tryd.f39 (zq fun K1 hK1 => zr (zg [] 2 [1] (zd (hK1 _ _ (zq fun K2 hK2 => ?_)))))
 obtain ⟨r1, c3, h⟩ := zB h
 obtain ⟨r2, c4, h⟩ := zB h
 refine zr (zv [] 2 [4] [[pi p1.kind, pi p1.n, pi p1.scale, .s (.string p1.s), .ro (eValue.els p1.items)]] [(4, .one (.pv (.ro [[pi p1.kind, pi p1.n, pi p1.scale, .s (.string p1.s), .ro (eValue.els p1.items)]])))] [] ?_)
 rw [show ([[pi p1.kind, pi p1.n, pi p1.scale, .s (.string p1.s), .ro (eValue.els p1.items)]] : List (List PV)) = eValue.els [p1] from by cases p1; rfl]
 refine za (c_value_Key _ _ c3) (za (c_value_HashBytes _ _ c4) (zv [] 1 [2] [] [(2, vk .u64 r2)] [] (zd (hK2 _ _ (ze ?_)))))
 obtain rfl := Option.some.inj h
 exact zf [vk .u64 r2] (.one (.rfl _ rfl))

def table_number (p1 : Int) : Option GValue :=
    some (GValue.mk (2 : Int) p1 (0 : Int) ByteArray.empty [])


theorem c_table_number (p1 : Int) (r : GValue) (h : table_number p1 = some r) : PC Tryd.prog 38 [vi p1] (.ag [ci r.kind, ci r.n, ci r.scale, cst r.s, cl eValue r.items]) := by
 unfold table_number at h
 refine zF 5 Tryd.f38 (zq fun K1 hK1 => zr (zg [2] 1 [0,2] (zd (hK1 _ _ (zq fun K2 hK2 => zr ?_)))))
 refine zg [2] 3 [2] (zd (hK2 _ _ (ze ?_)))
 obtain rfl := Option.some.inj h
 exact zf [.ag [ci (2 : Int), ci p1, ci (0 : Int), cst ByteArray.empty, .pv (.s (.slice none 0 0))]] (.ag (.cons (.rfl _ rfl) (.cons (.rfl _ rfl) (.cons (.rfl _ rfl) (.cons (.rfl _ rfl) (.cons (.nl) .nil))))))

def table_floor_j1 (x1 : Int) : Option Int :=
    some x1

def table_floor (p1 : Int) (p2 : Int) : Option Int :=
    grd (p2 ≠ 0) <|
    grd (p2 ≠ 0) <|
    ift (decide ((p1.tmod p2) < (0 : Int)))
      (table_floor_j1 (IntKind.i64.wrap ((IntKind.i64.wrap (p1.tdiv p2)) - (1 : Int))))
      (table_floor_j1 (IntKind.i64.wrap (p1.tdiv p2)))


theorem c_table_floor (p1 : Int) (p2 : Int) (r : Int) (h : table_floor p1 p2 = some r) : PC Tryd.prog 41 [vi p1, vi p2] (vi r) := by
 unfold table_floor at h
 refine zF 16 Tryd.f41 (zq fun K1 hK1 => zr (zg [] 1 [0,1] (zd (hK1 _ _ (zq fun K2 hK2 => ?_)))))
 obtain ⟨g3, h⟩ := zG h
 refine zr (zo [] 4 [0,1,5] [] [p2 ≠ 0] (⟨g3, trivial⟩) (zd (hK2 _ _ (zq fun K4 hK4 => ?_))))
 have hJ1 : ∀ (x1 : Int), table_floor_j1 x1 = some r → ∀ fr1 st1, Sub 16 0 [] fr1 st1 [(5, vi x1)] [] → K4 fr1 st1 := by
  intro x1 h fr1 st1 hS
  unfold table_floor_j1 at h
  refine hK4 _ _ (XW.sub hS ?_)
  refine zq fun K8 hK8 => zr (zg [] 2 [4] (zd (hK8 _ _ (ze ?_))))
  obtain rfl := Option.some.inj h
  exact zf [vi x1] (.one (.rfl _ rfl))
 refine zq fun K5 hK5 => ?_
 obtain ⟨g6, h⟩ := zG h
 refine zr (zp [] 4 [5,12] [] [(5, vi (IntKind.i64.wrap (p1.tdiv p2))), (12, vb (decide ((p1.tmod p2) < (0 : Int))))] [] [p2 ≠ 0] (⟨g6, trivial⟩) (zd (hK5 _ _ (zC h (fun b7 h => ?_) (fun b7 h => ?_)))))
 ·exact zr (zg [] 3 [5] (zd (hJ1 (IntKind.i64.wrap ((IntKind.i64.wrap (p1.tdiv p2)) - (1 : Int))) h _ _ (zk [5]))))
 ·exact zs (hJ1 (IntKind.i64.wrap (p1.tdiv p2)) h _ _ (zk [5]))

def table_truncated (p1 : GValue) (p2 : Int) : Option GValue :=
    ift (p1.kind == (4 : Int))
      (grd (p1.s.size ≤ 4294967296) <|
       bnd (some (if ((runesS p1.s).length : Int) < p2 then ((runesS p1.s).length : Int) else p2)) fun y1 =>
       grd (0 ≤ (0 : Int) ∧ (0 : Int) ≤ y1 ∧ y1 ≤ ((runesS p1.s).length : Int)) <|
       some (GValue.mk p1.kind p1.n p1.scale (runesBytes (((runesS p1.s).drop (0 : Int).toNat).take (y1.toNat - (0 : Int).toNat))) p1.items))
      (bnd (table_floor p1.n p2) fun r1 =>
       bnd (some (if (-999999999999999999 : Int) > (IntKind.i64.wrap (r1 * p2)) then (-999999999999999999 : Int) else (IntKind.i64.wrap (r1 * p2)))) fun y2 =>
       some (GValue.mk p1.kind y2 p1.scale p1.s p1.items))


theorem c_table_truncated (p1 : GValue) (p2 : Int) (r : GValue) (h : table_truncated p1 p2 = some r) : PC Tryd.prog 40 [.ag [ci p1.kind, ci p1.n, ci p1.scale, cst p1.s, cl eValue p1.items], vi p2] (.ag [ci r.kind, ci r.n, ci r.scale, cst r.s, cl eValue r.items]) := by
 unfold table_truncated at h
 refine zF 30 Tryd.f40 (zq fun K1 hK1 => zr (zg [2, 4] 2 [1,2,4] (zd (hK1 _ _ (zq fun K2 hK2 => zq fun K3 hK3 => ?_)))))
 refine zr (zg [2, 4] 3 [1,2,4,8] (zd (hK3 _ _ (zC h (fun b4 h => ?_) (fun b4 h => ?_)))))
 ·refine zq fun K5 hK5 => ?_
  obtain ⟨g6, h⟩ := zG h
  refine zr (zp [2, 4] 3 [1,2,4,11] [] [(1, vi p2), (2, .one (.pt 0 0 0 0)), (4, .one (.pt 1 0 0 0)), (11, .one (.pv (.ro (runeEls p1.s))))] [.box [ci p1.kind, ci p1.n, ci p1.scale, cst p1.s, cl eValue p1.items], .box [ci (0 : Int), ci (0 : Int), ci (0 : Int), cst ByteArray.empty, .pv (.s (.slice none 0 0))]] [p1.s.size ≤ 4294967296] (⟨g6, trivial⟩) ?_)
  rw [runeEls_eR p1.s]
  refine zg [2, 4] 1 [1,2,4,5] (zd (hK5 _ _ (zq fun K7 hK7 => ?_)))
  obtain ⟨y1, hy8, h⟩ := zB h
  obtain ⟨g9, h⟩ := zG h
  refine zr (zv [2, 4] 4 [2,4,12,13,15] [] [(2, .one (.pt 0 0 0 0)), (4, .one (.pt 1 0 0 0)), (12, vl (eK .i32) (runesS p1.s)), (13, vi p2), (15, vi (((eK .i32).els (runesS p1.s)).length : Int))] [.box [ci p1.kind, ci p1.n, ci p1.scale, cst p1.s, cl eValue p1.items], .box [ci (0 : Int), ci (0 : Int), ci (0 : Int), cst ByteArray.empty, .pv (.s (.slice none 0 0))]] ?_)
  rw [(eK .i32).len (runesS p1.s)]
  refine zv [2, 4] 1 [2,4,12,16] [] [(2, .one (.pt 0 0 0 0)), (4, .one (.pt 1 0 0 0)), (12, vl (eK .i32) (runesS p1.s)), (16, vi (if ((runesS p1.s).length : Int) < p2 then ((runesS p1.s).length : Int) else p2))] [.box [ci p1.kind, ci p1.n, ci p1.scale, cst p1.s, cl eValue p1.items], .box [ci (0 : Int), ci (0 : Int), ci (0 : Int), cst ByteArray.empty, .pv (.s (.slice none 0 0))]] ?_
  rw [show (if ((runesS p1.s).length : Int) < p2 then ((runesS p1.s).length : Int) else p2) = y1 from Option.some.inj hy8]
  refine zp [2, 4] 1 [2,4,17] [] [(2, .one (.pt 0 0 0 0)), (4, .one (.pt 1 0 0 0)), (17, .one (.pv (.ro ((((eK .i32).els (runesS p1.s)).drop (0 : Int).toNat).take (y1.toNat - (0 : Int).toNat)))))] [.box [ci p1.kind, ci p1.n, ci p1.scale, cst p1.s, cl eValue p1.items], .box [ci (0 : Int), ci (0 : Int), ci (0 : Int), cst ByteArray.empty, .pv (.s (.slice none 0 0))]] [(0 ≤ (0 : Int) ∧ (0 : Int) ≤ y1 ∧ y1 ≤ (((eK .i32).els (runesS p1.s)).length : Int)) ∧ elemsOk 1 ((eK .i32).els (runesS p1.s))] (⟨(eK .i32).cutOk g9, trivial⟩) ?_
  rw [show (((eK .i32).els (runesS p1.s)).drop (0 : Int).toNat).take (y1.toNat - (0 : Int).toNat) = (eK .i32).els (((runesS p1.s).drop (0 : Int).toNat).take (y1.toNat - (0 : Int).toNat)) from (eK .i32).cut _ _ _]
  refine zp [2, 4] 1 [2,4,18] [] [(2, .one (.pt 0 0 0 0)), (4, .one (.pt 1 0 0 0)), (18, vs (strOfRunes ((eK .i32).els (((runesS p1.s).drop (0 : Int).toNat).take (y1.toNat - (0 : Int).toNat)))))] [.box [ci p1.kind, ci p1.n, ci p1.scale, cst p1.s, cl eValue p1.items], .box [ci (0 : Int), ci (0 : Int), ci (0 : Int), cst ByteArray.empty, .pv (.s (.slice none 0 0))]] [runesOk ((eK .i32).els (((runesS p1.s).drop (0 : Int).toNat).take (y1.toNat - (0 : Int).toNat)))] (⟨runesOk_eR _, trivial⟩) ?_
  rw [strOfRunes_eR (((runesS p1.s).drop (0 : Int).toNat).take (y1.toNat - (0 : Int).toNat))]
  refine zg [2, 4] 2 [2,4] (zd (hK7 _ _ (zq fun K10 hK10 => zr (zg [2, 4] 2 [4] (zd (hK10 _ _ ?_))))))
  refine ze ?_
  obtain rfl := Option.some.inj h
  exact zf [.ag [ci p1.kind, ci p1.n, ci p1.scale, cst (runesBytes (((runesS p1.s).drop (0 : Int).toNat).take (y1.toNat - (0 : Int).toNat))), cl eValue p1.items]] (.ag (.cons (.rfl _ rfl) (.cons (.rfl _ rfl) (.cons (.rfl _ rfl) (.cons (.rfl _ rfl) (.cons (.rfl _ rfl) .nil))))))
 ·refine zs (hK2 _ _ (zq fun K11 hK11 => ?_))
  obtain ⟨r1, c12, h⟩ := zB h
  obtain ⟨y2, hy13, h⟩ := zB h
  refine zr (zv [2, 4] 3 [1,2,4,22,23] [] [(1, vi p2), (2, .one (.pt 0 0 0 0)), (4, .one (.pt 1 0 0 0)), (22, vi p1.n), (23, vi p2)] [.box [ci p1.kind, ci p1.n, ci p1.scale, cst p1.s, cl eValue p1.items], .box [ci (0 : Int), ci (0 : Int), ci (0 : Int), cst ByteArray.empty, .pv (.s (.slice none 0 0))]] (za (c_table_floor _ _ _ c12) ?_))
  refine zv [2, 4] 3 [2,4,27] [] [(2, .one (.pt 0 0 0 0)), (4, .one (.pt 1 0 0 0)), (27, vi (if (-999999999999999999 : Int) > (IntKind.i64.wrap (r1 * p2)) then (-999999999999999999 : Int) else (IntKind.i64.wrap (r1 * p2))))] [.box [ci p1.kind, ci p1.n, ci p1.scale, cst p1.s, cl eValue p1.items], .box [ci (0 : Int), ci (0 : Int), ci (0 : Int), cst ByteArray.empty, .pv (.s (.slice none 0 0))]] ?_
  rw [show (if (-999999999999999999 : Int) > (IntKind.i64.wrap (r1 * p2)) then (-999999999999999999 : Int) else (IntKind.i64.wrap (r1 * p2))) = y2 from Option.some.inj hy13]
  refine zg [2, 4] 2 [2,4] (zd (hK11 _ _ (zq fun K14 hK14 => zr (zg [2, 4] 2 [4] (zd (hK14 _ _ ?_))))))
  refine ze ?_
  obtain rfl := Option.some.inj h
  exact zf [.ag [ci p1.kind, ci y2, ci p1.scale, cst p1.s, cl eValue p1.items]] (.ag (.cons (.rfl _ rfl) (.cons (.rfl _ rfl) (.cons (.rfl _ rfl) (.cons (.rfl _ rfl) (.cons (.rfl _ rfl) .nil))))))

def table_Transform_j2 (p1 : GTransform) (p2 : GValue) (x2 : Int) (x3 : Int) : Option GValue :=
    ift (p1.kind == (1 : Int))
      (some p2)
      (ift (p1.kind == (2 : Int))
         (bnd (value_Hash p2) fun r5 =>
          grd ((IntKind.u64.wrap p1.param) ≠ 0) <|
          bnd (table_number (IntKind.i64.wrap (r5.tmod (IntKind.u64.wrap p1.param)))) fun r6 =>
          some r6)
         (ift (p1.kind == (3 : Int))
            (bnd (table_truncated p2 p1.param) fun r7 =>
             some r7)
            (ift (p1.kind == (4 : Int))
               (bnd (table_number (IntKind.i64.wrap (x2 - (1970 : Int)))) fun r8 =>
                some r8)
               (ift (p1.kind == (5 : Int))
                  (bnd (some (IntKind.i64.wrap ((12 : Int) * (IntKind.i64.wrap (x2 - (1970 : Int)))))) fun y1 =>
                   bnd (table_number (IntKind.i64.wrap ((IntKind.i64.wrap (y1 + x3)) - (1 : Int)))) fun r9 =>
                   some r9)
                  (ift (p1.kind == (6 : Int))
                     (bnd (table_floor p2.n (86400 : Int)) fun r10 =>
                      bnd (table_number r10) fun r11 =>
                      some r11)
                     (ift (p1.kind == (7 : Int))
                        (bnd (table_floor p2.n (3600 : Int)) fun r12 =>
                         bnd (table_number r12) fun r13 =>
                         some r13)
                        (some (GValue.mk (0 : Int) (0 : Int) (0 : Int) ByteArray.empty []))))))))

def table_Transform_j1 (p1 : GTransform) (p2 : GValue) (x1 : Bool) : Option GValue :=
    ift x1
      (some (GValue.mk (0 : Int) (0 : Int) (0 : Int) ByteArray.empty []))
      (ift (p2.kind == (5 : Int))
         (bnd (value_Part p2.n (1 : Int) (ByteArray.mk #[117, 116, 99])) fun r3 =>
          bnd (value_Part p2.n (2 : Int) (ByteArray.mk #[117, 116, 99])) fun r4 =>
          table_Transform_j2 p1 p2 r3.1 r4.1)
         (table_Transform_j2 p1 p2 (0 : Int) (0 : Int)))

def table_Transform (p1 : GTransform) (p2 : GValue) : Option GValue :=
    bnd (table_TransformType p1 (GType.mk p2.kind p2.scale [])) fun r1 =>
    ift (r1.2 != (0 : Int))
      (table_Transform_j1 p1 p2 true)
      (bnd (value_Sound p2) fun r2 =>
       table_Transform_j1 p1 p2 (!r2))

abbrev qa1589 (p2 : GValue) : List CV := [ci p2.kind, ci p2.n, ci p2.scale, cst p2.s, cl eValue p2.items]
abbrev qa1591 (p1 : GTransform) : List PV := [pi p1.kind, pi p1.param]
abbrev qa1592 (p2 : GValue) : List PV := [pi p2.kind, pi p2.n, pi p2.scale, .s (.string p2.s), .ro (eValue.els p2.items)]
abbrev qa1594 (r1 : (GType × Int)) : List CV := [ci r1.1.kind, ci r1.1.scale, cl eField r1.1.fields]
abbrev qa1595 : List CV := [ci (0 : Int), ci (0 : Int), ci (0 : Int), cst ByteArray.empty, .pv (.s (.slice none 0 0))]
abbrev qa1597 (r6 : GValue) : List CV := [ci r6.kind, ci r6.n, ci r6.scale, cst r6.s, cl eValue r6.items]
abbrev qa1603 (r13 : GValue) : List CV := [ci r13.kind, ci r13.n, ci r13.scale, cst r13.s, cl eValue r13.items]
abbrev qa1606 (r1 : (GType × Int)) : St := [.box qa1595, .box (qa1594 r1)]

theorem c_table_Transform (p1 : GTransform) (p2 : GValue) (r : GValue) (h : table_Transform p1 p2 = some r) : PC Tryd.prog 15 [.ag [ci p1.kind, ci p1.param], .ag (qa1589 p2)] (.ag [ci r.kind, ci r.n, ci r.scale, cst r.s, cl eValue r.items]) := by
 unfold table_Transform at h
 refine zF 90 Tryd.f15 (zq fun K1 hK1 => zr (zg [4, 5] 3 [2,3,4] (zd (hK1 _ _ (zq fun K2 hK2 => ?_)))))
 obtain ⟨r1, c3, h⟩ := zB h
 refine zr (zu [4, 5] 6 [2,3,4,10,15] [(qa1591 p1), (qa1592 p2), (qa1592 p2)] ?_)
 refine zl 35 [.ag [ci p1.kind, ci p1.param], .ag [ci p2.kind, ci p2.scale, .pv (.s (.slice none 0 0))]] (.tp [.ag (qa1594 r1), vi r1.2]) [(16, .tp [.ag (qa1594 r1), vi r1.2]), (2, .one (.pv (.rp [(qa1591 p1)] 0 0))), (3, .one (.pv (.rp [(qa1592 p2)] 0 0))), (4, .one (.pt 0 0 0 0)), (10, .ag [ci p1.kind, ci p1.param]), (15, .ag [ci p2.kind, ci p2.scale, .pv (.s (.slice none 0 0))])] (PC.le (c_table_TransformType _ _ _ c3) ⟨.rfl _, ALe.agc ⟨.rfl _, .rfl _, .nl, trivial⟩, trivial⟩) ?_
 refine zv [4, 5] 6 [2,3,4,6] [] [(2, .one (.pv (.rp [(qa1591 p1)] 0 0))), (3, .one (.pv (.rp [(qa1592 p2)] 0 0))), (4, .one (.pt 0 0 0 0)), (6, vi r1.2)] (qa1606 r1) (zd (hK2 _ _ (zq fun K4 hK4 => zq fun K5 hK5 => ?_)))
 have hJ1 : ∀ (x1 : Bool), table_Transform_j1 p1 p2 x1 = some r → ∀ fr1 st1, Sub 90 0 [] fr1 st1 [(2, .one (.pv (.rp [(qa1591 p1)] 0 0))), (3, .one (.pv (.rp [(qa1592 p2)] 0 0))), (4, .one (.pt 0 0 0 0)), (25, vb x1)] (qa1606 r1) → K5 fr1 st1 := by
  intro x1 h fr1 st1 hS
  unfold table_Transform_j1 at h
  refine hK5 _ _ (XW.sub hS ?_)
  refine zC h (fun b8 h => ?_) (fun b8 h => ?_)
  ·refine zq fun K9 hK9 => zr (zg [4, 5] 2 [4] (zd (hK9 _ _ (ze ?_))))
   obtain rfl := Option.some.inj h
   exact zf [.ag qa1595] (.ag (.cons (.rfl _ rfl) (.cons (.rfl _ rfl) (.cons (.rfl _ rfl) (.cons (.rfl _ rfl) (.cons (.nl) .nil))))))
  ·refine zs (hK4 _ _ (zq fun K10 hK10 => zr (zg [4, 5] 2 [2,3,4,7,8] (zd (hK10 _ _ (zq fun K11 hK11 => ?_))))))
   have hJ2 : ∀ (x2 : Int) (x3 : Int), table_Transform_j2 p1 p2 x2 x3 = some r → ∀ fr1 st1, Sub 90 0 [] fr1 st1 [(2, .one (.pv (.rp [(qa1591 p1)] 0 0))), (3, .one (.pv (.rp [(qa1592 p2)] 0 0))), (4, .one (.pt 0 0 0 0)), (7, vi x2), (8, vi x3)] (qa1606 r1) → K11 fr1 st1 := by
    intro x2 x3 h fr1 st1 hS
    unfold table_Transform_j2 at h
    refine hK11 _ _ (XW.sub hS ?_)
    refine zq fun K17 hK17 => zq fun K18 hK18 => zr (zu [4, 5] 2 [2,3,4,7,8,43] [(qa1591 p1)] (zd (hK18 _ _ (zb 0 (zq fun K19 hK19 => ?_)))))
    refine zr (zg [4, 5] 2 [2,3,4,7,8,43,44] (zd (hK19 _ _ (zC h (fun b20 h => ?_) (fun b20 h => ?_)))))
    ·refine zq fun K21 hK21 => zr (zv [4, 5] 2 [4] [(qa1592 p2)] [(4, .one (.pt 0 0 0 0))] [.box (qa1589 p2), .box (qa1594 r1)] (zd (hK21 _ _ (ze ?_))))
     obtain rfl := Option.some.inj h
     exact zf [.ag (qa1589 p2)] (.ag (.cons (.rfl _ rfl) (.cons (.rfl _ rfl) (.cons (.rfl _ rfl) (.cons (.rfl _ rfl) (.cons (.rfl _ rfl) .nil))))))
    ·refine zq fun K22 hK22 => zr (zg [4, 5] 2 [2,3,4,7,8,43,47] (zd (hK22 _ _ (zC h (fun b23 h => ?_) (fun b23 h => ?_)))))
     ·refine zq fun K24 hK24 => ?_
      obtain ⟨r5, c25, h⟩ := zB h
      obtain ⟨g26, h⟩ := zG h
      obtain ⟨r6, c27, h⟩ := zB h
      refine zw 5 [(53, vk .u64 (IntKind.u64.wrap p1.param)), (52, vi p1.param), (51, .one (.pv (.rp [(qa1591 p1)] 0 1))), (50, vk .u64 r5), (49, .ag (qa1589 p2)), (2, .one (.pv (.rp [(qa1591 p1)] 0 0))), (3, .one (.pv (.rp [(qa1592 p2)] 0 0))), (4, .one (.pt 0 0 0 0)), (7, vi x2), (8, vi x3), (43, vi p1.kind), (47, vb (p1.kind == (2 : Int)))] ?_ ?_
      ·refine zyu 1 [(qa1592 p2)] ?_
       exact DX.cal 39 [.ag (qa1589 p2)] (vk .u64 r5) [(50, vk .u64 r5), (49, .ag (qa1589 p2)), (2, .one (.pv (.rp [(qa1591 p1)] 0 0))), (3, .one (.pv (.rp [(qa1592 p2)] 0 0))), (4, .one (.pt 0 0 0 0)), (7, vi x2), (8, vi x3), (43, vi p1.kind), (47, vb (p1.kind == (2 : Int)))] (by kernel_rfl) (c_value_Hash _ _ c25) rfl rfl (by kernel_rfl) (zyu 3 [(qa1591 p1)] zyd)
      refine zo [4, 5] 2 [4,55] [] [(IntKind.u64.wrap p1.param) ≠ 0] (⟨g26, trivial⟩) (zl 38 [vi (IntKind.i64.wrap (r5.tmod (IntKind.u64.wrap p1.param)))] (.ag (qa1597 r6)) [(56, .ag (qa1597 r6)), (4, .one (.pt 0 0 0 0)), (55, vi (IntKind.i64.wrap (r5.tmod (IntKind.u64.wrap p1.param))))] (c_table_number _ _ c27) (zg [4, 5] 1 [4] (zd (hK24 _ _ (ze ?_)))))
      obtain rfl := Option.some.inj h
      exact zf [.ag (qa1597 r6)] (.ag (.cons (.rfl _ rfl) (.cons (.rfl _ rfl) (.cons (.rfl _ rfl) (.cons (.rfl _ rfl) (.cons (.rfl _ rfl) .nil))))))
     ·refine zq fun K28 hK28 => zr (zg [4, 5] 2 [2,3,4,7,8,43,57] (zd (hK28 _ _ (zC h (fun b29 h => ?_) (fun b29 h => ?_)))))
      ·refine zq fun K30 hK30 => ?_
       obtain ⟨r7, c31, h⟩ := zB h
       refine zr (zv [4, 5] 3 [4,59,61] [(qa1592 p2), (qa1591 p1)] [(4, .one (.pt 0 0 0 0)), (59, .ag (qa1589 p2)), (61, vi p1.param)] (qa1606 r1) (za (c_table_truncated _ _ _ c31) (zg [4, 5] 1 [4] (zd (hK30 _ _ (ze ?_))))))
       obtain rfl := Option.some.inj h
       exact zf [.ag [ci r7.kind, ci r7.n, ci r7.scale, cst r7.s, cl eValue r7.items]] (.ag (.cons (.rfl _ rfl) (.cons (.rfl _ rfl) (.cons (.rfl _ rfl) (.cons (.rfl _ rfl) (.cons (.rfl _ rfl) .nil))))))
      ·refine zq fun K32 hK32 => zr (zv [4, 5] 2 [3,4,7,8,43,63] [] [(3, .one (.pv (.rp [(qa1592 p2)] 0 0))), (4, .one (.pt 0 0 0 0)), (7, vi x2), (8, vi x3), (43, vi p1.kind), (63, vb (p1.kind == (4 : Int)))] (qa1606 r1) (zd (hK32 _ _ (zC h (fun b33 h => ?_) (fun b33 h => ?_)))))
       ·refine zq fun K34 hK34 => ?_
        obtain ⟨r8, c35, h⟩ := zB h
        refine zr (zg [4, 5] 2 [4,66] (za (c_table_number _ _ c35) (zv [4, 5] 1 [4] [] [(4, .one (.pt 0 0 0 0))] [.box [ci r8.kind, ci r8.n, ci r8.scale, cst r8.s, cl eValue r8.items], .box (qa1594 r1)] (zd (hK34 _ _ (ze ?_))))))
        obtain rfl := Option.some.inj h
        exact zf [.ag [ci r8.kind, ci r8.n, ci r8.scale, cst r8.s, cl eValue r8.items]] (.ag (.cons (.rfl _ rfl) (.cons (.rfl _ rfl) (.cons (.rfl _ rfl) (.cons (.rfl _ rfl) (.cons (.rfl _ rfl) .nil))))))
       ·refine zq fun K36 hK36 => zr (zg [4, 5] 2 [3,4,7,8,43,68] (zd (hK36 _ _ (zC h (fun b37 h => ?_) (fun b37 h => ?_)))))
        ·refine zq fun K38 hK38 => ?_
         obtain ⟨y1, hy39, h⟩ := zB h
         obtain ⟨r9, c40, h⟩ := zB h
         refine zr (zv [4, 5] 3 [4,8,72] [] [(4, .one (.pt 0 0 0 0)), (8, vi x3), (72, vi (IntKind.i64.wrap ((12 : Int) * (IntKind.i64.wrap (x2 - (1970 : Int))))))] [.box [ci (0 : Int), ci (0 : Int), ci (0 : Int), cst ByteArray.empty, .pv (.s (.slice none 0 0))], .box [ci r1.1.kind, ci r1.1.scale, cl eField r1.1.fields]] ?_)
         rw [show (IntKind.i64.wrap ((12 : Int) * (IntKind.i64.wrap (x2 - (1970 : Int))))) = y1 from Option.some.inj hy39]
         refine zg [4, 5] 3 [4,75] (za (c_table_number _ _ c40) (zv [4, 5] 1 [4] [] [(4, .one (.pt 0 0 0 0))] [.box [ci r9.kind, ci r9.n, ci r9.scale, cst r9.s, cl eValue r9.items], .box (qa1594 r1)] (zd (hK38 _ _ (ze ?_)))))
         obtain rfl := Option.some.inj h
         exact zf [.ag [ci r9.kind, ci r9.n, ci r9.scale, cst r9.s, cl eValue r9.items]] (.ag (.cons (.rfl _ rfl) (.cons (.rfl _ rfl) (.cons (.rfl _ rfl) (.cons (.rfl _ rfl) (.cons (.rfl _ rfl) .nil))))))
        ·refine zq fun K41 hK41 => zr (zg [4, 5] 2 [3,4,43,77] (zd (hK41 _ _ (zC h (fun b42 h => ?_) (fun b42 h => ?_)))))
         ·refine zq fun K43 hK43 => ?_
          obtain ⟨r10, c44, h⟩ := zB h
          obtain ⟨r11, c45, h⟩ := zB h
          refine zr (zu [4, 5] 2 [4,80] [(qa1592 p2)] (zl 41 [vi p2.n, vi (86400 : Int)] (vi r10) [(81, vi r10), (4, .one (.pt 0 0 0 0)), (80, vi p2.n)] (c_table_floor _ _ _ c44) (za (c_table_number _ _ c45) (zg [4, 5] 1 [4] (zd (hK43 _ _ (ze ?_)))))))
          obtain rfl := Option.some.inj h
          exact zf [.ag [ci r11.kind, ci r11.n, ci r11.scale, cst r11.s, cl eValue r11.items]] (.ag (.cons (.rfl _ rfl) (.cons (.rfl _ rfl) (.cons (.rfl _ rfl) (.cons (.rfl _ rfl) (.cons (.rfl _ rfl) .nil))))))
         ·refine zq fun K46 hK46 => zr (zv [4, 5] 2 [3,4,83] [] [(3, .one (.pv (.rp [(qa1592 p2)] 0 0))), (4, .one (.pt 0 0 0 0)), (83, vb (p1.kind == (7 : Int)))] (qa1606 r1) (zd (hK46 _ _ (zC h (fun b47 h => ?_) (fun b47 h => ?_)))))
          ·refine zq fun K48 hK48 => ?_
           obtain ⟨r12, c49, h⟩ := zB h
           obtain ⟨r13, c50, h⟩ := zB h
           refine zr (zu [4, 5] 2 [4,86] [(qa1592 p2)] (za (c_table_floor _ _ _ c49) (zl 38 [vi r12] (.ag (qa1603 r13)) [(88, .ag (qa1603 r13)), (87, vi r12), (4, .one (.pt 0 0 0 0)), (86, vi p2.n)] (c_table_number _ _ c50) (zg [4, 5] 1 [4] (zd (hK48 _ _ (ze ?_)))))))
           obtain rfl := Option.some.inj h
           exact zf [.ag (qa1603 r13)] (.ag (.cons (.rfl _ rfl) (.cons (.rfl _ rfl) (.cons (.rfl _ rfl) (.cons (.rfl _ rfl) (.cons (.rfl _ rfl) .nil))))))
          ·refine zs (hK17 _ _ (zq fun K51 hK51 => zr (zg [4, 5] 2 [4] (zd (hK51 _ _ (ze ?_))))))
           obtain rfl := Option.some.inj h
           exact zf [.ag qa1595] (.ag (.cons (.rfl _ rfl) (.cons (.rfl _ rfl) (.cons (.rfl _ rfl) (.cons (.rfl _ rfl) (.cons (.nl) .nil))))))
   refine zq fun K12 hK12 => zr (zv [4, 5] 3 [2,3,4,7,8,29] [(qa1592 p2)] [(2, .one (.pv (.rp [(qa1591 p1)] 0 0))), (3, .one (.pv (.rp [(qa1592 p2)] 0 0))), (4, .one (.pt 0 0 0 0)), (7, vi (0 : Int)), (8, vi (0 : Int)), (29, vb (p2.kind == (5 : Int)))] (qa1606 r1) (zd (hK12 _ _ ?_)))
   refine zC h (fun b13 h => ?_) (fun b13 h => ?_)
   ·refine zq fun K14 hK14 => ?_
    obtain ⟨r3, c15, h⟩ := zB h
    refine zr (zu [4, 5] 2 [2,3,4,32] [(qa1592 p2)] (za (c_value_Part _ _ _ _ c15) (zv [4, 5] 4 [2,3,4,7] [] [(2, .one (.pv (.rp [(qa1591 p1)] 0 0))), (3, .one (.pv (.rp [(qa1592 p2)] 0 0))), (4, .one (.pt 0 0 0 0)), (7, vi r3.1)] (qa1606 r1) (zd (hK14 _ _ ?_)))))
    obtain ⟨r4, c16, h⟩ := zB h
    exact zr (zu [4, 5] 2 [2,3,4,7,38] [(qa1592 p2)] (za (c_value_Part _ _ _ _ c16) (zv [4, 5] 4 [2,3,4,7,8] [] [(2, .one (.pv (.rp [(qa1591 p1)] 0 0))), (3, .one (.pv (.rp [(qa1592 p2)] 0 0))), (4, .one (.pt 0 0 0 0)), (7, vi r3.1), (8, vi r4.1)] (qa1606 r1) (zd (hJ2 r3.1 r4.1 h _ _ (zk [2,3,4,7,8]))))))
   ·exact zs (hJ2 (0 : Int) (0 : Int) h _ _ (zk [2,3,4,7,8]))
 rcases zW h with ⟨b6, h⟩ | ⟨b6, h⟩
 ·exact zr (zg [4, 5] 3 [2,3,4,21] (zt 21 b6 (zg [4, 5] 4 [2,3,4,25] (zd (hJ1 true h _ _ (zk [2,3,4,25]))))))
 ·obtain ⟨r2, c7, h⟩ := zB h
  refine zr (zv [4, 5] 3 [2,3,4,21] [] [(2, .one (.pv (.rp [(qa1591 p1)] 0 0))), (3, .one (.pv (.rp [(qa1592 p2)] 0 0))), (4, .one (.pt 0 0 0 0)), (21, vb (r1.2 != (0 : Int)))] (qa1606 r1) (zt 21 b6 (zu [4, 5] 1 [2,3,4,21,22] [(qa1592 p2)] (za (c_value_Sound _ _ c7) ?_))))
  exact zv [4, 5] 2 [2,3,4,25] [] [(2, .one (.pv (.rp [(qa1591 p1)] 0 0))), (3, .one (.pv (.rp [(qa1592 p2)] 0 0))), (4, .one (.pt 0 0 0 0)), (25, vb (!r2))] (qa1606 r1) (zd (hJ1 (!r2) h _ _ (zk [2,3,4,25])))

def ref1_order (p1 : Int) (p2 : Int) : Option Int :=
    ift (decide (p1 < p2))
      (some (-1 : Int))
      (ift (decide (p2 < p1))
         (some (1 : Int))
         (some (0 : Int)))


theorem c_ref1_order (p1 : Int) (p2 : Int) (r : Int) (h : ref1_order p1 p2 = some r) : PC Tryd.prog 42 [vi p1, vi p2] (vi r) := by
 unfold ref1_order at h
 refine zF 11 Tryd.f42 (zq fun K1 hK1 => zr (zg [] 1 [0,1] (zd (hK1 _ _ (zq fun K2 hK2 => zq fun K3 hK3 => ?_)))))
 refine zr (zg [] 3 [0,1,7] (zd (hK3 _ _ (zC h (fun b4 h => ?_) (fun b4 h => ?_)))))
 ·refine zq fun K5 hK5 => zr (zv [] 1 [4] [] [(4, vi (-1 : Int))] [] (zd (hK5 _ _ (ze ?_))))
  obtain rfl := Option.some.inj h
  exact zf [vi (-1 : Int)] (.one (.rfl _ rfl))
 ·refine zs (hK2 _ _ (zq fun K6 hK6 => zq fun K7 hK7 => zr (zg [] 3 [10] (zd (hK7 _ _ ?_)))))
  refine zC h (fun b8 h => ?_) (fun b8 h => ?_)
  ·refine zq fun K9 hK9 => zr (zg [] 1 [4] (zd (hK9 _ _ (ze ?_))))
   obtain rfl := Option.some.inj h
   exact zf [vi (1 : Int)] (.one (.rfl _ rfl))
  ·refine zs (hK6 _ _ (zq fun K10 hK10 => zr (zv [] 1 [4] [] [(4, vi (0 : Int))] [] (zd (hK10 _ _ (ze ?_))))))
   obtain rfl := Option.some.inj h
   exact zf [vi (0 : Int)] (.one (.rfl _ rfl))

def ref1_within_j1 (x1 : Bool) : Option Bool :=
    some x1

def ref1_within (p1 : Int) (p2 : Int) (p3 : Int) : Option Bool :=
    ift (decide (p2 ≤ p1))
      (ref1_within_j1 (decide (p1 ≤ p3)))
      (ref1_within_j1 false)


theorem c_ref1_within (p1 : Int) (p2 : Int) (p3 : Int) (r : Bool) (h : ref1_within p1 p2 p3 = some r) : PC Tryd.prog 68 [vi p1, vi p2, vi p3] (vb r) := by
 unfold ref1_within at h
 refine zF 15 Tryd.f68 (zq fun K1 hK1 => zr (zg [] 1 [0,1,2] (zd (hK1 _ _ (zq fun K2 hK2 => ?_)))))
 have hJ1 : ∀ (x1 : Bool), ref1_within_j1 x1 = some r → ∀ fr1 st1, Sub 15 0 [] fr1 st1 [(6, vb x1)] [] → K2 fr1 st1 := by
  intro x1 h fr1 st1 hS
  unfold ref1_within_j1 at h
  refine hK2 _ _ (XW.sub hS ?_)
  refine ze ?_
  obtain rfl := Option.some.inj h
  exact zf [vb x1] (.one (.rfl _ rfl))
 rcases zW h with ⟨b3, h⟩ | ⟨b3, h⟩
 ·exact zr (zg [] 4 [0,2,10] (zt 10 b3 (zv [] 5 [6] [] [(6, vb (decide (p1 ≤ p3)))] [] (zd (hJ1 (decide (p1 ≤ p3)) h _ _ (zk [6]))))))
 ·exact zr (zg [] 4 [0,2,10] (zt 10 b3 (zg [] 5 [6] (zd (hJ1 false h _ _ (zk [6]))))))

def ref1_wideOf_j1 (rec1 : List Int → Int → Option RWide) (l1 : List Int) (x1 : Int) (x2 : Int) : Option RWide :=
    grd (l1.length + 1 ≤ 4294967296) <|
    rec1 (l1 ++ [x2]) (IntKind.i64.wrap (x1.tdiv (10 : Int)))

def ref1_wideOf_j2 (p1 : Int) (l2 : List Int) : Option RWide :=
    some (RWide.mk (decide (p1 < (0 : Int))) l2)

def ref1_wideOf_l1 (p1 : Int) : Nat → List Int → Int → Option RWide
  | 0, _, _ => none
  | k1 + 1, l1, x1 =>
    ift (x1 != (0 : Int))
      (ift (decide ((x1.tmod (10 : Int)) < (0 : Int)))
         (ref1_wideOf_j1 (ref1_wideOf_l1 p1 k1) l1 x1 (IntKind.i64.wrap (0 - (x1.tmod (10 : Int)))))
         (ref1_wideOf_j1 (ref1_wideOf_l1 p1 k1) l1 x1 (x1.tmod (10 : Int))))
      (ref1_wideOf_j2 p1 l1)

def ref1_wideOf (p1 : Int) : Option RWide :=
    ref1_wideOf_l1 p1 BIG [] p1

abbrev qa1630 : List CV := [cb false, .pv (.s (.slice none 0 0))]

theorem c_ref1_wideOf (p1 : Int) (r : RWide) (h : ref1_wideOf p1 = some r) : PC Tryd.prog 95 [vi p1] (.ag [cb r.below, cl eI r.d]) := by
 unfold ref1_wideOf at h
 refine zF 25 Tryd.f95 (zq fun K1 hK1 => zr (zg [2] 1 [0,2] (zd (hK1 _ _ (zq fun K2 hK2 => zr ?_)))))
 refine zg [2] 1 [0,2,3] (zd (hK2 _ _ (zq fun K3 hK3 => ?_)))
 have hJ2 : ∀ (l2 : List Int), ref1_wideOf_j2 p1 l2 = some r → ∀ fr1 st1, Sub 25 0 [] fr1 st1 [(0, vi p1), (2, .one (.pt 0 0 0 0)), (3, .one (.sl 1 1 0 l2.length))] [.box qa1630, .arr 1 (eI.els l2)] → K3 fr1 st1 := by
  intro l2 h fr1 st1 hS
  unfold ref1_wideOf_j2 at h
  refine hK3 _ _ (XW.sub hS ?_)
  refine zq fun K14 hK14 => zr (zg [2] 5 [2] (zd (hK14 _ _ (ze ?_))))
  obtain rfl := Option.some.inj h
  exact zf [.ag [cb (decide (p1 < (0 : Int))), .sl 1 1 0 l2.length]] (.ag (.cons (.rfl _ rfl) (.cons (cf_sl eI l2 rfl rfl rfl) .nil)))
 refine zq fun K4 hK4 => zr (zv [2] 2 [0,2,3,4] [] [(0, vi p1), (2, .one (.pt 0 0 0 0)), (3, .one (.pv (.s (.slice none 0 0)))), (4, vi p1)] [.box [cb false, .pv (.s (.slice none 0 0))]] (zd (hK4 _ _ (zb 0 (XW.sub (Sub.list (t := 3) (sz := 1) rfl) (XW.rounds' BIG (x := cd Tryd.f95 [1,1,0,1,0,0]) (by kernel_rfl) fun Q1 hQ1 => ?_))))))
 have hL1 : ∀ (k1 : Nat) (l1 : List Int) (x1 : Int), ref1_wideOf_l1 p1 k1 l1 x1 = some r → XR Tryd.prog 25 0 [] (cd Tryd.f95 [1,1,0,1,0,0]) Q1 k1 [(0, vi p1), (2, .one (.pt 0 0 0 0)), (3, .one (.sl 1 1 0 l1.length)), (4, vi x1)] [.box qa1630, .arr 1 (eI.els l1)] := by
  intro k1
  induction k1 with
  | zero => intro l1 x1 h; rw [ref1_wideOf_l1.eq_1] at h; cases h
  | succ k1 ih1 =>
   intro l1 x1 h
   rw [ref1_wideOf_l1.eq_2] at h
   refine zq fun K5 hK5 => zq fun K6 hK6 => zr (zg [2] 2 [0,2,3,4,8] (zd (hK6 _ _ (zC h (fun b7 h => ?_) (fun b7 h => ?_)))))
   ·refine zs (hK5 _ _ (zq fun K8 hK8 => zb 1 (zq fun K9 hK9 => zr (zo [2] 3 [0,2,3,4,5] [] [(10 : Int) ≠ 0] (⟨by decide, trivial⟩) (zd ?_)))))
    refine hK9 _ _ (zq fun K10 hK10 => ?_)
    have hJ1 : ∀ (x2 : Int), ref1_wideOf_j1 (ref1_wideOf_l1 p1 k1) l1 x1 x2 = some r → ∀ fr1 st1, Sub 25 0 [] fr1 st1 [(0, vi p1), (2, .one (.pt 0 0 0 0)), (3, .one (.sl 1 1 0 l1.length)), (4, vi x1), (5, vi x2)] [.box qa1630, .arr 1 (eI.els l1)] → K10 fr1 st1 := by
     intro x2 h fr1 st1 hS
     unfold ref1_wideOf_j1 at h
     refine hK10 _ _ (XW.sub hS ?_)
     obtain ⟨g13, h⟩ := zG h
     refine zr (zp [2] 4 [0,2,4,20] [] [(0, vi p1), (2, .one (.pt 0 0 0 0)), (4, vi x1), (20, .one (.sl 1 1 0 (l1.length + (eI.els [x2]).length)))] [.box [cb false, .pv (.s (.slice none 0 0))], .arr 1 (eI.els l1 ++ eI.els [x2])] [elemsOk 1 (eI.els [x2]), l1.length = (eI.els l1).length, l1.length + (eI.els [x2]).length ≤ 4294967296] (⟨eI.ok _, (eI.len l1).symm, g13, trivial⟩) ?_)
     rw [show l1.length + (eI.els [x2]).length = (l1 ++ [x2]).length from eI.lapp _ _]
     rw [show eI.els l1 ++ eI.els [x2] = eI.els (l1 ++ [x2]) from eI.app2 _ _]
     exact zg [2] 1 [0,2,3,4] (zd (hK8 _ _ (zr (zo [2] 3 [0,2,3,4] [] [(10 : Int) ≠ 0] (⟨by decide, trivial⟩) (zd (XR.sub (zk [0,2,3,4]) (ih1 (l1 ++ [x2]) (IntKind.i64.wrap (x1.tdiv (10 : Int))) h)))))))
    refine zq fun K11 hK11 => zr (zv [2] 2 [0,2,3,4,5,14] [] [(0, vi p1), (2, .one (.pt 0 0 0 0)), (3, .one (.sl 1 1 0 l1.length)), (4, vi x1), (5, vi (x1.tmod (10 : Int))), (14, vb (decide ((x1.tmod (10 : Int)) < (0 : Int))))] [.box qa1630, .arr 1 (eI.els l1)] (zd (hK11 _ _ (zC h (fun b12 h => ?_) (fun b12 h => ?_)))))
    ·exact zr (zg [2] 3 [0,2,3,4,5] (zd (hJ1 (IntKind.i64.wrap (0 - (x1.tmod (10 : Int)))) h _ _ (zk [0,2,3,4,5]))))
    ·exact zs (hJ1 (x1.tmod (10 : Int)) h _ _ (zk [0,2,3,4,5]))
   ·exact zx 0 (hQ1 _ _ _ (hJ2 l1 h _ _ (zk [0,2,3])))
 exact XR.sub (zk [0,2,3,4]) (hL1 BIG [] p1 h)

def ref1_tens (p1 : RWide) (p2 : Int) : Option RWide :=
    ift ((p1.d.length : Int) == (0 : Int))
      (some p1)
      (grd (0 ≤ p2 ∧ p2 ≤ p2 ∧ p2 ≤ 4294967296) <|
       grd ((List.replicate p2.toNat (0 : Int)).length + p1.d.length ≤ 4294967296) <|
       some (RWide.mk p1.below ((List.replicate p2.toNat (0 : Int)) ++ p1.d)))

abbrev qa1639 (p1 : RWide) : List PV := [.s (.bool p1.below), .ro (eI.els p1.d)]

theorem c_ref1_tens (p1 : RWide) (p2 : Int) (r : RWide) (h : ref1_tens p1 p2 = some r) : PC Tryd.prog 94 [.ag [cb p1.below, cl eI p1.d], vi p2] (.ag [cb r.below, cl eI r.d]) := by
 unfold ref1_tens at h
 refine zF 18 Tryd.f94 (zq fun K1 hK1 => zr (zg [4] 2 [1,2,4] (zd (hK1 _ _ (zq fun K2 hK2 => zq fun K3 hK3 => ?_)))))
 refine zr (zv [4] 3 [1,2,4,7] [[.s (.bool p1.below), .ro (eI.els p1.d)]] [(1, vi p2), (2, .one (.pv (.rp [[.s (.bool p1.below), .ro (eI.els p1.d)]] 0 0))), (4, .one (.pt 0 0 0 0)), (7, vi ((eI.els p1.d).length : Int))] [.box [cb false, .pv (.s (.slice none 0 0))]] ?_)
 rw [eI.len p1.d]
 refine zg [4] 1 [1,2,4,8] (zd (hK3 _ _ (zC h (fun b4 h => ?_) (fun b4 h => ?_))))
 ·refine zq fun K5 hK5 => zr (zu [4] 2 [4] [(qa1639 p1)] (zd (hK5 _ _ (ze ?_))))
  obtain rfl := Option.some.inj h
  exact zf [.ag [cb p1.below, cl eI p1.d]] (.ag (.cons (.rfl _ rfl) (.cons (.rfl _ rfl) .nil)))
 ·refine zs (hK2 _ _ (zq fun K6 hK6 => ?_))
  obtain ⟨g8, h⟩ := zG h
  obtain ⟨g9, h⟩ := zG h
  refine XW.sub (Sub.dead 1) ?_
  refine XW.drwG 7 [1, 2] [([], []), ([], []), ([], []), ([1], [1]), ([], []), ([], []), ([1], [1])] [(16, .one (.sl 1 1 0 (((List.replicate p2.toNat (0 : Int)) ++ p1.d).length))), (15, vl eI p1.d), (14, .one (.pv (.rp [(qa1639 p1)] 0 1))), (13, .j), (12, vi p2), (11, vb p1.below), (10, .one (.pv (.rp [(qa1639 p1)] 0 0))), (1, vi p2), (2, .one (.pv (.rp [(qa1639 p1)] 0 0))), (4, .one (.pt 0 0 0 0)), (8, vb ((p1.d.length : Int) == (0 : Int)))] [.box [cb false, .pv (.s (.slice none 0 0))], .arr 1 (eI.els ((List.replicate p2.toNat (0 : Int)) ++ p1.d))] (by kernel_rfl) (by kernel_rfl) ?_ ?_
  ·refine zgv 3 [(qa1639 p1)] [(12, vi p2), (11, vb p1.below), (10, .one (.pv (.rp [(qa1639 p1)] 0 0))), (1, vi p2), (2, .one (.pv (.rp [(qa1639 p1)] 0 0))), (4, .one (.pt 0 0 0 0)), (8, vb ((p1.d.length : Int) == (0 : Int)))] ?_
   refine GY.new false 1 [] [(13, .one (.sl 1 1 0 p2.toNat)), (12, vi p2), (11, vb p1.below), (10, .one (.pv (.rp [[.s (.bool p1.below), .ro (eI.els p1.d)]] 0 0))), (1, vi p2), (2, .one (.pv (.rp [[.s (.bool p1.below), .ro (eI.els p1.d)]] 0 0))), (4, .one (.pt 0 0 0 0)), (8, vb ((p1.d.length : Int) == (0 : Int)))] [1] [.box [cb false, .pv (.s (.slice none 0 0))], .arr 1 (List.replicate p2.toNat [pi (0 : Int)])] [0 ≤ p2, p2 ≤ p2, p2 ≤ 4294967296] (by kernel_rfl) (by kernel_rfl) (⟨g8.1, g8.2.1, g8.2.2, trivial⟩) ?_
   rw [show List.replicate p2.toNat [pi (0 : Int)] = eI.els (List.replicate p2.toNat (0 : Int)) from eI.rep _ (0 : Int)]
   refine zgv 2 [(qa1639 p1)] [(15, vl eI p1.d), (14, .one (.pv (.rp [(qa1639 p1)] 0 1))), (13, .one (.sl 1 1 0 p2.toNat)), (12, vi p2), (11, vb p1.below), (10, .one (.pv (.rp [(qa1639 p1)] 0 0))), (1, vi p2), (2, .one (.pv (.rp [(qa1639 p1)] 0 0))), (4, .one (.pt 0 0 0 0)), (8, vb ((p1.d.length : Int) == (0 : Int)))] ?_
   refine GY.wr [] [(16, .one (.sl 1 1 0 (p2.toNat + (eI.els p1.d).length))), (15, vl eI p1.d), (14, .one (.pv (.rp [[.s (.bool p1.below), .ro (eI.els p1.d)]] 0 1))), (13, .j), (12, vi p2), (11, vb p1.below), (10, .one (.pv (.rp [[.s (.bool p1.below), .ro (eI.els p1.d)]] 0 0))), (1, vi p2), (2, .one (.pv (.rp [[.s (.bool p1.below), .ro (eI.els p1.d)]] 0 0))), (4, .one (.pt 0 0 0 0)), (8, vb ((p1.d.length : Int) == (0 : Int)))] [1] [.box [cb false, .pv (.s (.slice none 0 0))], .arr 1 (eI.els (List.replicate p2.toNat (0 : Int)) ++ eI.els p1.d)] [elemsOk 1 (eI.els p1.d), p2.toNat = (eI.els (List.replicate p2.toNat (0 : Int))).length, p2.toNat + (eI.els p1.d).length ≤ 4294967296] (by kernel_rfl) (by kernel_rfl) (⟨eI.ok _, (by simp [Enc.len]), (by simp [Enc.len] at * <;> omega), trivial⟩) ?_
   rw [show p2.toNat + (eI.els p1.d).length = ((List.replicate p2.toNat (0 : Int)) ++ p1.d).length from (by simp [Enc.len] <;> omega)]
   rw [show eI.els (List.replicate p2.toNat (0 : Int)) ++ eI.els p1.d = eI.els ((List.replicate p2.toNat (0 : Int)) ++ p1.d) from eI.app2 _ _]
   exact GY.done (by kernel_rfl) (by kernel_rfl)
  refine zv [4] 2 [4] [] [(4, .one (.pt 0 0 0 0))] [.box [cb p1.below, .sl 1 1 0 (((List.replicate p2.toNat (0 : Int)) ++ p1.d).length)], .arr 1 (eI.els ((List.replicate p2.toNat (0 : Int)) ++ p1.d))] (zd (hK6 _ _ (ze ?_)))
  obtain rfl := Option.some.inj h
  exact zf [.ag [cb p1.below, .sl 1 1 0 (((List.replicate p2.toNat (0 : Int)) ++ p1.d).length)]] (.ag (.cons (.rfl _ rfl) (.cons (cf_sl eI ((List.replicate p2.toNat (0 : Int)) ++ p1.d) rfl rfl rfl) .nil)))

def ref1_twelve (p1 : GValue) : Option RWide :=
    bnd (ref1_wideOf p1.n) fun r1 =>
    bnd (ref1_tens r1 (IntKind.i64.wrap ((12 : Int) - p1.scale))) fun r2 =>
    some r2

abbrev qa1650 (p1 : GValue) : List PV := [pi p1.kind, pi p1.n, pi p1.scale, .s (.string p1.s), .ro (eValue.els p1.items)]

theorem c_ref1_twelve (p1 : GValue) (r : RWide) (h : ref1_twelve p1 = some r) : PC Tryd.prog 70 [.ag [ci p1.kind, ci p1.n, ci p1.scale, cst p1.s, cl eValue p1.items]] (.ag [cb r.below, cl eI r.d]) := by
 unfold ref1_twelve at h
 refine zF 10 Tryd.f70 (zq fun K1 hK1 => zr (zg [2] 2 [1,2] (zd (hK1 _ _ (zq fun K2 hK2 => ?_)))))
 obtain ⟨r1, c3, h⟩ := zB h
 obtain ⟨r2, c4, h⟩ := zB h
 refine zw 6 [(8, vi (IntKind.i64.wrap ((12 : Int) - p1.scale))), (7, vi p1.scale), (6, .one (.pv (.rp [(qa1650 p1)] 0 2))), (5, .ag [cb r1.below, cl eI r1.d]), (4, vi p1.n), (3, .one (.pv (.rp [(qa1650 p1)] 0 1))), (1, .one (.pv (.rp [(qa1650 p1)] 0 0))), (2, .one (.pt 0 0 0 0))] ?_ ?_
 ·refine zyu 2 [(qa1650 p1)] (DX.cal 95 [vi p1.n] (.ag [cb r1.below, cl eI r1.d]) [(5, .ag [cb r1.below, cl eI r1.d]), (4, vi p1.n), (3, .one (.pv (.rp [(qa1650 p1)] 0 1))), (1, .one (.pv (.rp [(qa1650 p1)] 0 0))), (2, .one (.pt 0 0 0 0))] (by kernel_rfl) (c_ref1_wideOf _ _ c3) rfl rfl (by kernel_rfl) ?_)
  exact zyu 3 [(qa1650 p1)] zyd
 refine za (c_ref1_tens _ _ _ c4) (zv [2] 1 [2] [] [(2, .one (.pt 0 0 0 0))] [.box [cb r2.below, cl eI r2.d]] (zd (hK2 _ _ (ze ?_))))
 obtain rfl := Option.some.inj h
 exact zf [.ag [cb r2.below, cl eI r2.d]] (.ag (.cons (.rfl _ rfl) (.cons (.rfl _ rfl) .nil)))

def ref1_most_j1 : Option Int :=
    some (0 : Int)

def ref1_most_l1 (p1 : (List Int)) (p2 : (List Int)) : Nat → Int → Option Int
  | 0, _ => none
  | k1 + 1, x1 =>
    ift (decide ((0 : Int) ≤ x1))
      (bnd (at? p1 x1) fun e1 =>
       bnd (at? p2 x1) fun e2 =>
       ift (e1 != e2)
         (some (IntKind.i64.wrap (e1 - e2)))
         ((ref1_most_l1 p1 p2 k1) (IntKind.i64.wrap (x1 - (1 : Int)))))
      (ref1_most_j1)

def ref1_most (p1 : (List Int)) (p2 : (List Int)) : Option Int :=
    ift ((p1.length : Int) != (p2.length : Int))
      (some (IntKind.i64.wrap ((p1.length : Int) - (p2.length : Int))))
      (ref1_most_l1 p1 p2 BIG (IntKind.i64.wrap ((p1.length : Int) - (1 : Int))))

abbrev qa1661 (p1 : (List Int)) (p2 : (List Int)) (x1 : Int) (e1 : Int) (e2 : Int) : Fr := [(39, vi e2), (38, .one (.pv (.rp (eI.els p2) x1.toNat 0))), (37, vi x1), (36, vl eI p2), (35, vi e1), (34, .one (.pv (.rp (eI.els p1) x1.toNat 0))), (33, vi x1), (32, vl eI p1), (0, vl eI p1), (1, vl eI p2), (5, vi x1), (31, vb (e1 != e2))]

theorem c_ref1_most (p1 : (List Int)) (p2 : (List Int)) (r : Int) (h : ref1_most p1 p2 = some r) : PC Tryd.prog 93 [vl eI p1, vl eI p2] (vi r) := by
 unfold ref1_most at h
 refine zF 41 Tryd.f93 (zq fun K1 hK1 => zr (zg [] 1 [0,1] (zd (hK1 _ _ (zq fun K2 hK2 => zq fun K3 hK3 => ?_)))))
 refine zr (zv [] 2 [0,1,7] [] [(0, vl eI p1), (1, vl eI p2), (7, vi ((eI.els p1).length : Int))] [] ?_)
 rw [eI.len p1]
 refine zv [] 2 [0,1,7,9] [] [(0, vl eI p1), (1, vl eI p2), (7, vi (p1.length : Int)), (9, vi ((eI.els p2).length : Int))] [] ?_
 rw [eI.len p2]
 refine zg [] 1 [0,1,10] (zd (hK3 _ _ (zC h (fun b4 h => ?_) (fun b4 h => ?_))))
 ·refine zq fun K5 hK5 => zr (zv [] 2 [1,12] [] [(1, vl eI p2), (12, vi ((eI.els p1).length : Int))] [] ?_)
  rw [eI.len p1]
  refine zv [] 2 [12,14] [] [(12, vi (p1.length : Int)), (14, vi ((eI.els p2).length : Int))] [] ?_
  rw [eI.len p2]
  refine zg [] 2 [4] (zd (hK5 _ _ (ze ?_)))
  obtain rfl := Option.some.inj h
  exact zf [vi (IntKind.i64.wrap ((p1.length : Int) - (p2.length : Int)))] (.one (.rfl _ rfl))
 ·refine zs (hK2 _ _ (zq fun K6 hK6 => ?_))
  have hJ1 : ∀ (_ : Unit), ref1_most_j1 = some r → ∀ fr1 st1, Sub 41 0 [] fr1 st1 [] [] → K6 fr1 st1 := by
   intro _ h fr1 st1 hS
   unfold ref1_most_j1 at h
   refine hK6 _ _ (XW.sub hS ?_)
   refine zq fun K17 hK17 => zr (zg [] 1 [4] (zd (hK17 _ _ (ze ?_))))
   obtain rfl := Option.some.inj h
   exact zf [vi (0 : Int)] (.one (.rfl _ rfl))
  refine zq fun K7 hK7 => zr (zv [] 2 [0,1,17] [] [(0, vl eI p1), (1, vl eI p2), (17, vi ((eI.els p1).length : Int))] [] ?_)
  rw [eI.len p1]
  refine zg [] 2 [0,1,5] (zd (hK7 _ _ (zb 0 (XW.rounds' BIG (x := cd Tryd.f93 [1,1,0,1,0,0]) (by kernel_rfl) fun Q1 hQ1 => ?_))))
  have hL1 : ∀ (k1 : Nat) (x1 : Int), ref1_most_l1 p1 p2 k1 x1 = some r → XR Tryd.prog 41 0 [] (cd Tryd.f93 [1,1,0,1,0,0]) Q1 k1 [(0, vl eI p1), (1, vl eI p2), (5, vi x1)] [] := by
   intro k1
   induction k1 with
   | zero => intro x1 h; rw [ref1_most_l1.eq_1] at h; cases h
   | succ k1 ih1 =>
    intro x1 h
    rw [ref1_most_l1.eq_2] at h
    refine zq fun K8 hK8 => zq fun K9 hK9 => zr (zg [] 2 [0,1,5,20] (zd (hK9 _ _ (zC h (fun b10 h => ?_) (fun b10 h => ?_)))))
    ·refine zs (hK8 _ _ (zq fun K11 hK11 => zb 1 (zq fun K12 hK12 => ?_)))
     obtain ⟨e1, a13, h⟩ := zB h
     obtain ⟨e2, a14, h⟩ := zB h
     refine zw 8 [(30, vi e2), (29, .one (.pv (.rp (eI.els p2) x1.toNat 0))), (28, vi x1), (27, vl eI p2), (26, vi e1), (25, .one (.pv (.rp (eI.els p1) x1.toNat 0))), (24, vi x1), (23, vl eI p1), (0, vl eI p1), (1, vl eI p2), (5, vi x1), (20, vb (decide ((0 : Int) ≤ x1)))] ?_ ?_
     ·exact zyo 8 [[pi e1], [pi e2]] [0 ≤ x1 ∧ x1 < ((eI.els p1).length : Int) ∧ elemsOk 1 (eI.els p1), (eI.els p1)[x1.toNat]? = some [pi e1], 0 ≤ x1 ∧ x1 < ((eI.els p2).length : Int) ∧ elemsOk 1 (eI.els p2), (eI.els p2)[x1.toNat]? = some [pi e2]] (⟨eI.inb a13, (eI.get a13), eI.inb a14, (eI.get a14), trivial⟩) zyd
     refine zg [] 1 [0,1,5,31] (zd (hK12 _ _ (zC h (fun b15 h => ?_) (fun b15 h => ?_))))
     ·refine zq fun K16 hK16 => zw 8 (qa1661 p1 p2 x1 e1 e2) ?_ ?_
      ·exact zyp 8 [[pi e1], [pi e2]] (qa1661 p1 p2 x1 e1 e2) [0 ≤ x1 ∧ x1 < ((eI.els p1).length : Int) ∧ elemsOk 1 (eI.els p1), (eI.els p1)[x1.toNat]? = some [pi e1], 0 ≤ x1 ∧ x1 < ((eI.els p2).length : Int) ∧ elemsOk 1 (eI.els p2), (eI.els p2)[x1.toNat]? = some [pi e2]] (⟨eI.inb a13, (eI.get a13), eI.inb a14, (eI.get a14), trivial⟩) zyd
      refine zv [] 2 [4] [] [(4, vi (IntKind.i64.wrap (e1 - e2)))] [] (zd (hK16 _ _ (ze (hQ1 _ _ _ ?_))))
      obtain rfl := Option.some.inj h
      exact zf [vi (IntKind.i64.wrap (e1 - e2))] (.one (.rfl _ rfl))
     ·exact zs (hK11 _ _ (zr (zg [] 3 [0,1,5] (zd (XR.sub (zk [0,1,5]) (ih1 (IntKind.i64.wrap (x1 - (1 : Int))) h))))))
    ·exact zx 0 (hQ1 _ _ _ (hJ1 () h _ _ (zk [])))
  exact XR.sub (zk [0,1,5]) (hL1 BIG (IntKind.i64.wrap ((p1.length : Int) - (1 : Int))) h)

def ref1_compareWide_j1 (x1 : Int) : Option Int :=
    ift (decide (x1 < (0 : Int)))
      (some (-1 : Int))
      (ift (decide ((0 : Int) < x1))
         (some (1 : Int))
         (some (0 : Int)))

def ref1_compareWide (p1 : RWide) (p2 : RWide) : Option Int :=
    ift (!(p1.below == p2.below))
      (ift p1.below
         (some (-1 : Int))
         (some (1 : Int)))
      (bnd (ref1_most p1.d p2.d) fun r1 =>
       ift p1.below
         (ref1_compareWide_j1 (IntKind.i64.wrap (0 - r1)))
         (ref1_compareWide_j1 r1))

abbrev qa1665 (p1 : RWide) : List PV := [.s (.bool p1.below), .ro (eI.els p1.d)]

theorem c_ref1_compareWide (p1 : RWide) (p2 : RWide) (r : Int) (h : ref1_compareWide p1 p2 = some r) : PC Tryd.prog 69 [.ag [cb p1.below, cl eI p1.d], .ag [cb p2.below, cl eI p2.d]] (vi r) := by
 unfold ref1_compareWide at h
 refine zF 26 Tryd.f69 (zq fun K1 hK1 => zr (zg [] 3 [2,3] (zd (hK1 _ _ (zq fun K2 hK2 => zq fun K3 hK3 => ?_)))))
 refine zr (zu [] 5 [2,3,10] [(qa1665 p1), [.s (.bool p2.below), .ro (eI.els p2.d)]] (zd (hK3 _ _ (zC h (fun b4 h => ?_) (fun b4 h => ?_)))))
 ·refine zq fun K5 hK5 => zq fun K6 hK6 => zr (zv [] 2 [12] [(qa1665 p1)] [(12, vb p1.below)] [] (zd (hK6 _ _ (zC h (fun b7 h => ?_) (fun b7 h => ?_)))))
  ·refine zq fun K8 hK8 => zr (zg [] 1 [4] (zd (hK8 _ _ (ze ?_))))
   obtain rfl := Option.some.inj h
   exact zf [vi (-1 : Int)] (.one (.rfl _ rfl))
  ·refine zs (hK5 _ _ (zq fun K9 hK9 => zr (zg [] 1 [4] (zd (hK9 _ _ (ze ?_))))))
   obtain rfl := Option.some.inj h
   exact zf [vi (1 : Int)] (.one (.rfl _ rfl))
 ·refine zs (hK2 _ _ (zq fun K10 hK10 => ?_))
  obtain ⟨r1, c11, h⟩ := zB h
  refine zr (zu [] 4 [2,14,16] [(qa1665 p1), [.s (.bool p2.below), .ro (eI.els p2.d)]] (za (c_ref1_most _ _ _ c11) (zv [] 1 [2,5] [] [(2, .one (.pv (.rp [(qa1665 p1)] 0 0))), (5, vi r1)] [] (zd (hK10 _ _ (zq fun K12 hK12 => ?_))))))
  have hJ1 : ∀ (x1 : Int), ref1_compareWide_j1 x1 = some r → ∀ fr1 st1, Sub 26 0 [] fr1 st1 [(5, vi x1)] [] → K12 fr1 st1 := by
   intro x1 h fr1 st1 hS
   unfold ref1_compareWide_j1 at h
   refine hK12 _ _ (XW.sub hS ?_)
   refine zq fun K15 hK15 => zq fun K16 hK16 => zr (zg [] 2 [5,23] (zd (hK16 _ _ (zC h (fun b17 h => ?_) (fun b17 h => ?_)))))
   ·refine zq fun K18 hK18 => zr (zg [] 1 [4] (zd (hK18 _ _ (ze ?_))))
    obtain rfl := Option.some.inj h
    exact zf [vi (-1 : Int)] (.one (.rfl _ rfl))
   ·refine zs (hK15 _ _ (zq fun K19 hK19 => zq fun K20 hK20 => zr (zv [] 2 [25] [] [(25, vb (decide ((0 : Int) < x1)))] [] (zd (hK20 _ _ ?_)))))
    refine zC h (fun b21 h => ?_) (fun b21 h => ?_)
    ·refine zq fun K22 hK22 => zr (zg [] 1 [4] (zd (hK22 _ _ (ze ?_))))
     obtain rfl := Option.some.inj h
     exact zf [vi (1 : Int)] (.one (.rfl _ rfl))
    ·refine zs (hK19 _ _ (zq fun K23 hK23 => zr (zg [] 1 [4] (zd (hK23 _ _ (ze ?_))))))
     obtain rfl := Option.some.inj h
     exact zf [vi (0 : Int)] (.one (.rfl _ rfl))
  refine zq fun K13 hK13 => zr (zu [] 2 [5,19] [(qa1665 p1)] (zd (hK13 _ _ (zC h (fun b14 h => ?_) (fun b14 h => ?_)))))
  ·exact zr (zg [] 3 [5] (zd (hJ1 (IntKind.i64.wrap (0 - r1)) h _ _ (zk [5]))))
  ·exact zs (hJ1 r1 h _ _ (zk [5]))

def ref1_decimals (p1 : GValue) (p2 : GValue) : Option Int :=
    bnd (ref1_within p1.scale (0 : Int) (12 : Int)) fun r1 =>
    bnd (ref1_within p2.scale (0 : Int) (12 : Int)) fun r2 =>
    ift (!(r1 == r2))
      (ift r1
         (some (-1 : Int))
         (some (1 : Int)))
      (ift r1
         (bnd (ref1_twelve p1) fun r3 =>
          bnd (ref1_twelve p2) fun r4 =>
          bnd (ref1_compareWide r3 r4) fun r5 =>
          ift (r5 != (0 : Int))
            (some r5)
            (bnd (ref1_order p1.scale p2.scale) fun r6 =>
             some r6))
         (ift (p1.n != p2.n)
            (bnd (ref1_order p1.n p2.n) fun r7 =>
             some r7)
            (bnd (ref1_order p1.scale p2.scale) fun r8 =>
             some r8)))

abbrev qa1671 (p1 : GValue) : List CV := [ci p1.kind, ci p1.n, ci p1.scale, cst p1.s, cl eValue p1.items]
abbrev qa1672 (p2 : GValue) : List CV := [ci p2.kind, ci p2.n, ci p2.scale, cst p2.s, cl eValue p2.items]
abbrev qa1673 (p2 : GValue) : List PV := [pi p2.kind, pi p2.n, pi p2.scale, .s (.string p2.s), .ro (eValue.els p2.items)]
abbrev qa1674 (p1 : GValue) : List PV := [pi p1.kind, pi p1.n, pi p1.scale, .s (.string p1.s), .ro (eValue.els p1.items)]
abbrev qa1684 (p1 : GValue) (p2 : GValue) (r1 : Bool) (r3 : RWide) : Fr := [(21, .ag (qa1672 p2)), (20, .ag [cb r3.below, cl eI r3.d]), (19, .ag (qa1671 p1)), (2, .one (.pv (.rp [(qa1674 p1)] 0 0))), (3, .one (.pv (.rp [(qa1673 p2)] 0 0))), (18, vb r1)]

theorem c_ref1_decimals (p1 : GValue) (p2 : GValue) (r : Int) (h : ref1_decimals p1 p2 = some r) : PC Tryd.prog 43 [.ag (qa1671 p1), .ag (qa1672 p2)] (vi r) := by
 unfold ref1_decimals at h
 refine zF 47 Tryd.f43 (zq fun K1 hK1 => zr (zg [] 3 [2,3] (zd (hK1 _ _ (zq fun K2 hK2 => ?_)))))
 obtain ⟨r1, c3, h⟩ := zB h
 obtain ⟨r2, c4, h⟩ := zB h
 refine zw 5 [(12, vi p2.scale), (11, .one (.pv (.rp [(qa1673 p2)] 0 2))), (10, vb r1), (9, vi p1.scale), (8, .one (.pv (.rp [(qa1674 p1)] 0 2))), (2, .one (.pv (.rp [(qa1674 p1)] 0 0))), (3, .one (.pv (.rp [(qa1673 p2)] 0 0)))] ?_ ?_
 ·refine zyu 2 [(qa1674 p1)] (DX.cal 68 [vi p1.scale, vi (0 : Int), vi (12 : Int)] (vb r1) [(10, vb r1), (9, vi p1.scale), (8, .one (.pv (.rp [(qa1674 p1)] 0 2))), (2, .one (.pv (.rp [(qa1674 p1)] 0 0))), (3, .one (.pv (.rp [(qa1673 p2)] 0 0)))] (by kernel_rfl) (c_ref1_within _ _ _ _ c3) rfl rfl (by kernel_rfl) ?_)
  exact zyu 2 [(qa1673 p2)] zyd
 refine za (c_ref1_within _ _ _ _ c4) (zv [] 2 [2,3,5,6] [] [(2, .one (.pv (.rp [(qa1674 p1)] 0 0))), (3, .one (.pv (.rp [(qa1673 p2)] 0 0))), (5, vb r1), (6, vb r2)] [] (zd (hK2 _ _ (zq fun K5 hK5 => zq fun K6 hK6 => zr (zg [] 3 [2,3,5,16] ?_)))))
 refine zd (hK6 _ _ (zC h (fun b7 h => ?_) (fun b7 h => ?_)))
 ·refine zq fun K8 hK8 => zq fun K9 hK9 => zr (zg [] 1 [17] (zd (hK9 _ _ (zC h (fun b10 h => ?_) (fun b10 h => ?_)))))
  ·refine zq fun K11 hK11 => zr (zv [] 1 [4] [] [(4, vi (-1 : Int))] [] (zd (hK11 _ _ (ze ?_))))
   obtain rfl := Option.some.inj h
   exact zf [vi (-1 : Int)] (.one (.rfl _ rfl))
  ·refine zs (hK8 _ _ (zq fun K12 hK12 => zr (zg [] 1 [4] (zd (hK12 _ _ (ze ?_))))))
   obtain rfl := Option.some.inj h
   exact zf [vi (1 : Int)] (.one (.rfl _ rfl))
 ·refine zs (hK5 _ _ (zq fun K13 hK13 => zq fun K14 hK14 => zr (zv [] 1 [2,3,18] [] [(2, .one (.pv (.rp [(qa1674 p1)] 0 0))), (3, .one (.pv (.rp [(qa1673 p2)] 0 0))), (18, vb r1)] [] (zd (hK14 _ _ ?_)))))
  refine zC h (fun b15 h => ?_) (fun b15 h => ?_)
  ·refine zq fun K16 hK16 => zq fun K17 hK17 => ?_
   obtain ⟨r3, c18, h⟩ := zB h
   obtain ⟨r4, c19, h⟩ := zB h
   obtain ⟨r5, c20, h⟩ := zB h
   refine zw 3 (qa1684 p1 p2 r1 r3) ?_ ?_
   ·refine zyu 1 [(qa1674 p1)] (zya (c_ref1_twelve _ _ c18) ?_)
    exact zyv 1 [(qa1673 p2)] (qa1684 p1 p2 r1 r3) zyd
   refine za (c_ref1_twelve _ _ c19) (za (c_ref1_compareWide _ _ _ c20) (zv [] 1 [2,3,7] [] [(2, .one (.pv (.rp [(qa1674 p1)] 0 0))), (3, .one (.pv (.rp [(qa1673 p2)] 0 0))), (7, vi r5)] [] (zd (hK17 _ _ (zq fun K21 hK21 => zr (zg [] 2 [2,3,7,25] ?_))))))
   refine zd (hK21 _ _ (zC h (fun b22 h => ?_) (fun b22 h => ?_)))
   ·refine zq fun K23 hK23 => zr (zg [] 2 [4] (zd (hK23 _ _ (ze ?_))))
    obtain rfl := Option.some.inj h
    exact zf [vi r5] (.one (.rfl _ rfl))
   ·refine zs (hK16 _ _ (zq fun K24 hK24 => ?_))
    obtain ⟨r6, c25, h⟩ := zB h
    refine zr (zv [] 4 [28,30] [(qa1674 p1), (qa1673 p2)] [(28, vi p1.scale), (30, vi p2.scale)] [] (za (c_ref1_order _ _ _ c25) (zg [] 1 [4] (zd (hK24 _ _ (ze ?_))))))
    obtain rfl := Option.some.inj h
    exact zf [vi r6] (.one (.rfl _ rfl))
  ·refine zs (hK13 _ _ (zq fun K26 hK26 => zq fun K27 hK27 => zr (zu [] 5 [2,3,36] [(qa1674 p1), (qa1673 p2)] (zd (hK27 _ _ ?_)))))
   refine zC h (fun b28 h => ?_) (fun b28 h => ?_)
   ·refine zq fun K29 hK29 => ?_
    obtain ⟨r7, c30, h⟩ := zB h
    refine zr (zv [] 4 [38,40] [(qa1674 p1), (qa1673 p2)] [(38, vi p1.n), (40, vi p2.n)] [] (za (c_ref1_order _ _ _ c30) (zg [] 1 [4] (zd (hK29 _ _ (ze ?_))))))
    obtain rfl := Option.some.inj h
    exact zf [vi r7] (.one (.rfl _ rfl))
   ·refine zs (hK26 _ _ (zq fun K31 hK31 => ?_))
    obtain ⟨r8, c32, h⟩ := zB h
    refine zr (zv [] 4 [43,45] [(qa1674 p1), (qa1673 p2)] [(43, vi p1.scale), (45, vi p2.scale)] [] (za (c_ref1_order _ _ _ c32) (zg [] 1 [4] (zd (hK31 _ _ (ze ?_))))))
    obtain rfl := Option.some.inj h
    exact zf [vi r8] (.one (.rfl _ rfl))

def ref1_texts_j2 (p1 : ByteArray) (p2 : ByteArray) : Option Int :=
    bnd (ref1_order (p1.size : Int) (p2.size : Int)) fun r2 =>
    some r2

def ref1_texts_j1 (rec1 : Int → Option Int) (p1 : ByteArray) (p2 : ByteArray) (x1 : Int) (x2 : Bool) : Option Int :=
    ift x2
      (grd (0 ≤ x1 ∧ x1 < (p1.size : Int)) <|
       grd (0 ≤ x1 ∧ x1 < (p2.size : Int)) <|
       bnd (some (((p1.data.toList.getD x1.toNat 0).toNat : Int) != ((p2.data.toList.getD x1.toNat 0).toNat : Int))) fun y1 =>
       ift y1
         (grd (0 ≤ x1 ∧ x1 < (p1.size : Int)) <|
          grd (0 ≤ x1 ∧ x1 < (p2.size : Int)) <|
          bnd (ref1_order (IntKind.i64.wrap ((p1.data.toList.getD x1.toNat 0).toNat : Int)) (IntKind.i64.wrap ((p2.data.toList.getD x1.toNat 0).toNat : Int))) fun r1 =>
          some r1)
         (rec1 (IntKind.i64.wrap (x1 + (1 : Int)))))
      (ref1_texts_j2 p1 p2)

def ref1_texts_l1 (p1 : ByteArray) (p2 : ByteArray) : Nat → Int → Option Int
  | 0, _ => none
  | k1 + 1, x1 =>
    ift (decide (x1 < (p1.size : Int)))
      (ref1_texts_j1 (ref1_texts_l1 p1 p2 k1) p1 p2 x1 (decide (x1 < (p2.size : Int))))
      (ref1_texts_j1 (ref1_texts_l1 p1 p2 k1) p1 p2 x1 false)

def ref1_texts (p1 : ByteArray) (p2 : ByteArray) : Option Int :=
    ref1_texts_l1 p1 p2 BIG (0 : Int)


theorem c_ref1_texts (p1 : ByteArray) (p2 : ByteArray) (r : Int) (h : ref1_texts p1 p2 = some r) : PC Tryd.prog 44 [vs p1, vs p2] (vi r) := by
 unfold ref1_texts at h
 refine zF 39 Tryd.f44 (zq fun K1 hK1 => zr (zg [] 1 [0,1] (zd (hK1 _ _ (zq fun K2 hK2 => ?_)))))
 have hJ2 : ∀ (_ : Unit), ref1_texts_j2 p1 p2 = some r → ∀ fr1 st1, Sub 39 0 [] fr1 st1 [(0, vs p1), (1, vs p2)] [] → K2 fr1 st1 := by
  intro _ h fr1 st1 hS
  unfold ref1_texts_j2 at h
  refine hK2 _ _ (XW.sub hS ?_)
  refine zq fun K18 hK18 => ?_
  obtain ⟨r2, c19, h⟩ := zB h
  refine zr (zg [] 4 [35,37] (za (c_ref1_order _ _ _ c19) (zv [] 1 [4] [] [(4, vi r2)] [] (zd (hK18 _ _ (ze ?_))))))
  obtain rfl := Option.some.inj h
  exact zf [vi r2] (.one (.rfl _ rfl))
 refine zq fun K3 hK3 => zr (zg [] 1 [0,1,5] (zd (hK3 _ _ (zb 0 (XW.rounds' BIG (x := cd Tryd.f44 [1,0,1,0,0]) (by kernel_rfl) fun Q1 hQ1 => ?_)))))
 have hL1 : ∀ (k1 : Nat) (x1 : Int), ref1_texts_l1 p1 p2 k1 x1 = some r → XR Tryd.prog 39 0 [] (cd Tryd.f44 [1,0,1,0,0]) Q1 k1 [(0, vs p1), (1, vs p2), (5, vi x1)] [] := by
  intro k1
  induction k1 with
  | zero => intro x1 h; rw [ref1_texts_l1.eq_1] at h; cases h
  | succ k1 ih1 =>
   intro x1 h
   rw [ref1_texts_l1.eq_2] at h
   refine zq fun K4 hK4 => zq fun K5 hK5 => ?_
   have hJ1 : ∀ (x2 : Bool), ref1_texts_j1 (ref1_texts_l1 p1 p2 k1) p1 p2 x1 x2 = some r → ∀ fr1 st1, Sub 39 0 [] fr1 st1 [(0, vs p1), (1, vs p2), (5, vi x1), (15, vb x2)] [] → K5 fr1 st1 := by
    intro x2 h fr1 st1 hS
    unfold ref1_texts_j1 at h
    refine hK5 _ _ (XW.sub hS ?_)
    refine zC h (fun b7 h => ?_) (fun b7 h => ?_)
    ·refine zs (hK4 _ _ (zq fun K8 hK8 => zb 1 (zq fun K9 hK9 => ?_)))
     obtain ⟨g10, h⟩ := zG h
     obtain ⟨g11, h⟩ := zG h
     obtain ⟨y1, hy12, h⟩ := zB h
     refine zw 6 [(23, vk .u8 ((p2.data.toList.getD x1.toNat 0).toNat : Int)), (22, vi x1), (21, vs p2), (20, vk .u8 ((p1.data.toList.getD x1.toNat 0).toNat : Int)), (19, vi x1), (18, vs p1), (0, vs p1), (1, vs p2), (5, vi x1), (15, vb x2)] ?_ ?_
     ·exact zyo 6 [] [0 ≤ x1 ∧ x1 < (p1.size : Int), 0 ≤ x1 ∧ x1 < (p2.size : Int)] (⟨g10, g11, trivial⟩) zyd
     refine zv [] 1 [0,1,5,24] [] [(0, vs p1), (1, vs p2), (5, vi x1), (24, vb (((p1.data.toList.getD x1.toNat 0).toNat : Int) != ((p2.data.toList.getD x1.toNat 0).toNat : Int)))] [] ?_
     rw [show (((p1.data.toList.getD x1.toNat 0).toNat : Int) != ((p2.data.toList.getD x1.toNat 0).toNat : Int)) = y1 from Option.some.inj hy12]
     refine zd (hK9 _ _ (zC h (fun b13 h => ?_) (fun b13 h => ?_)))
     ·refine zq fun K14 hK14 => ?_
      obtain ⟨g15, h⟩ := zG h
      obtain ⟨g16, h⟩ := zG h
      obtain ⟨r1, c17, h⟩ := zB h
      refine zw 8 [(32, vi (IntKind.i64.wrap ((p2.data.toList.getD x1.toNat 0).toNat : Int))), (31, vk .u8 ((p2.data.toList.getD x1.toNat 0).toNat : Int)), (30, vi x1), (29, vs p2), (28, vi (IntKind.i64.wrap ((p1.data.toList.getD x1.toNat 0).toNat : Int))), (27, vk .u8 ((p1.data.toList.getD x1.toNat 0).toNat : Int)), (26, vi x1), (25, vs p1), (0, vs p1), (1, vs p2), (5, vi x1), (24, vb y1)] ?_ ?_
      ·exact zyo 8 [] [0 ≤ x1 ∧ x1 < (p1.size : Int), 0 ≤ x1 ∧ x1 < (p2.size : Int)] (⟨g15, g16, trivial⟩) zyd
      refine za (c_ref1_order _ _ _ c17) (zg [] 1 [4] (zd (hK14 _ _ (ze (hQ1 _ _ _ ?_)))))
      obtain rfl := Option.some.inj h
      exact zf [vi r1] (.one (.rfl _ rfl))
     ·exact zs (hK8 _ _ (zr (zv [] 3 [0,1,5] [] [(0, vs p1), (1, vs p2), (5, vi (IntKind.i64.wrap (x1 + (1 : Int))))] [] (zd (XR.sub (zk [0,1,5]) (ih1 (IntKind.i64.wrap (x1 + (1 : Int))) h))))))
    ·exact zx 0 (hQ1 _ _ _ (hJ2 () h _ _ (zk [0,1])))
   rcases zW h with ⟨b6, h⟩ | ⟨b6, h⟩
   ·exact zr (zg [] 5 [0,1,5,10] (zt 10 b6 (zg [] 5 [0,1,5,15] (zd (hJ1 (decide (x1 < (p2.size : Int))) h _ _ (zk [0,1,5,15]))))))
   ·exact zr (zv [] 5 [0,1,5,10] [] [(0, vs p1), (1, vs p2), (5, vi x1), (10, vb (decide (x1 < (p1.size : Int))))] [] (zt 10 b6 (zg [] 5 [0,1,5,15] (zd (hJ1 false h _ _ (zk [0,1,5,15]))))))
 exact XR.sub (zk [0,1,5]) (hL1 BIG (0 : Int) h)

def ref1_Compare_j4 (p1 : GValue) (p2 : GValue) : Option Int :=
    bnd (ref1_order (p1.items.length : Int) (p2.items.length : Int)) fun r7 =>
    some r7

def ref1_Compare_j3 (rec1 : Int → Option Int) (q_ref1_Compare : GValue → GValue → Option Int) (p1 : GValue) (p2 : GValue) (x2 : Int) (x3 : Bool) : Option Int :=
    ift x3
      (bnd (at? p1.items x2) fun e1 =>
       bnd (at? p2.items x2) fun e2 =>
       bnd (q_ref1_Compare e1 e2) fun r6 =>
       ift (r6 != (0 : Int))
         (some r6)
         (rec1 (IntKind.i64.wrap (x2 + (1 : Int)))))
      (ref1_Compare_j4 p1 p2)

def ref1_Compare_l1 (q_ref1_Compare : GValue → GValue → Option Int) (p1 : GValue) (p2 : GValue) : Nat → Int → Option Int
  | 0, _ => none
  | k1 + 1, x2 =>
    ift (decide (x2 < (p1.items.length : Int)))
      (ref1_Compare_j3 (ref1_Compare_l1 q_ref1_Compare p1 p2 k1) q_ref1_Compare p1 p2 x2 (decide (x2 < (p2.items.length : Int))))
      (ref1_Compare_j3 (ref1_Compare_l1 q_ref1_Compare p1 p2 k1) q_ref1_Compare p1 p2 x2 false)

def ref1_Compare_j2 (q_ref1_Compare : GValue → GValue → Option Int) (p1 : GValue) (p2 : GValue) (x1 : Bool) : Option Int :=
    ift x1
      (bnd (ref1_order p1.n p2.n) fun r3 =>
       some r3)
      (ift (p1.scale != p2.scale)
         (bnd (ref1_order p1.scale p2.scale) fun r4 =>
          some r4)
         (bnd (ref1_texts p1.s p2.s) fun r5 =>
          ift (r5 != (0 : Int))
            (some r5)
            (ref1_Compare_l1 q_ref1_Compare p1 p2 BIG (0 : Int))))

def ref1_Compare_j1 (q_ref1_Compare : GValue → GValue → Option Int) (p1 : GValue) (p2 : GValue) : Option Int :=
    ift (p1.n != p2.n)
      (ref1_Compare_j2 q_ref1_Compare p1 p2 (p1.kind != (3 : Int)))
      (ref1_Compare_j2 q_ref1_Compare p1 p2 false)

def ref1_Compare : Nat → GValue → GValue → Option Int
  | 0, _, _ => none
  | k0 + 1, p1, p2 =>
    ift (!((p1.kind == (0 : Int)) == (p2.kind == (0 : Int))))
      (ift (p1.kind == (0 : Int))
         (some (1 : Int))
         (some (-1 : Int)))
      (ift (p1.kind == (0 : Int))
         (some (0 : Int))
         (ift (p1.kind != p2.kind)
            (bnd (ref1_order p1.kind p2.kind) fun r1 =>
             some r1)
            (ift (p1.kind == (3 : Int))
               (bnd (ref1_decimals p1 p2) fun r2 =>
                ift (r2 != (0 : Int))
                  (some r2)
                  (ref1_Compare_j1 (ref1_Compare k0) p1 p2))
               (ref1_Compare_j1 (ref1_Compare k0) p1 p2))))

abbrev qa1694 (p1 : GValue) : List CV := [ci p1.kind, ci p1.n, ci p1.scale, cst p1.s, cl eValue p1.items]
abbrev qa1695 (p2 : GValue) : List CV := [ci p2.kind, ci p2.n, ci p2.scale, cst p2.s, cl eValue p2.items]
abbrev qa1696 (p1 : GValue) : List PV := [pi p1.kind, pi p1.n, pi p1.scale, .s (.string p1.s), .ro (eValue.els p1.items)]
abbrev qa1697 (p2 : GValue) : List PV := [pi p2.kind, pi p2.n, pi p2.scale, .s (.string p2.s), .ro (eValue.els p2.items)]

theorem c_ref1_Compare : ∀ (k0 : Nat) (p1 : GValue) (p2 : GValue) (r : Int), ref1_Compare k0 p1 p2 = some r → PC Tryd.prog 17 [.ag (qa1694 p1), .ag (qa1695 p2)] (vi r)
 | 0, _, _, r, h => by rw [ref1_Compare.eq_1] at h; cases h
 | k0 + 1, p1, p2, r, h => by
  rw [ref1_Compare.eq_2] at h
  refine zF 109 Tryd.f17 (zq fun K1 hK1 => zr (zg [] 3 [2,3] (zd (hK1 _ _ (zq fun K2 hK2 => zq fun K3 hK3 => ?_)))))
  refine zr (zu [] 7 [2,3,15] [(qa1696 p1), (qa1697 p2)] (zd (hK3 _ _ (zC h (fun b4 h => ?_) (fun b4 h => ?_)))))
  ·refine zq fun K5 hK5 => zq fun K6 hK6 => zr (zv [] 3 [18] [(qa1696 p1)] [(18, vb (p1.kind == (0 : Int)))] [] (zd (hK6 _ _ (zC h (fun b7 h => ?_) (fun b7 h => ?_)))))
   ·refine zq fun K8 hK8 => zr (zg [] 1 [4] (zd (hK8 _ _ (ze ?_))))
    obtain rfl := Option.some.inj h
    exact zf [vi (1 : Int)] (.one (.rfl _ rfl))
   ·refine zs (hK5 _ _ (zq fun K9 hK9 => zr (zg [] 1 [4] (zd (hK9 _ _ (ze ?_))))))
    obtain rfl := Option.some.inj h
    exact zf [vi (-1 : Int)] (.one (.rfl _ rfl))
  ·refine zs (hK2 _ _ (zq fun K10 hK10 => zq fun K11 hK11 => zr (zu [] 3 [2,3,21] [(qa1696 p1)] (zd (hK11 _ _ ?_)))))
   refine zC h (fun b12 h => ?_) (fun b12 h => ?_)
   ·refine zq fun K13 hK13 => zr (zg [] 1 [4] (zd (hK13 _ _ (ze ?_))))
    obtain rfl := Option.some.inj h
    exact zf [vi (0 : Int)] (.one (.rfl _ rfl))
   ·refine zs (hK10 _ _ (zq fun K14 hK14 => zq fun K15 hK15 => zr (zv [] 5 [2,3,26] [(qa1696 p1), (qa1697 p2)] [(2, .one (.pv (.rp [(qa1696 p1)] 0 0))), (3, .one (.pv (.rp [(qa1697 p2)] 0 0))), (26, vb (p1.kind != p2.kind))] [] (zd (hK15 _ _ ?_)))))
    refine zC h (fun b16 h => ?_) (fun b16 h => ?_)
    ·refine zq fun K17 hK17 => ?_
     obtain ⟨r1, c18, h⟩ := zB h
     refine zr (zu [] 4 [28,30] [(qa1696 p1), (qa1697 p2)] (za (c_ref1_order _ _ _ c18) (zv [] 1 [4] [] [(4, vi r1)] [] (zd (hK17 _ _ (ze ?_))))))
     obtain rfl := Option.some.inj h
     exact zf [vi r1] (.one (.rfl _ rfl))
    ·refine zs (hK14 _ _ (zq fun K19 hK19 => ?_))
     have hJ1 : ∀ (_ : Unit), ref1_Compare_j1 (ref1_Compare k0) p1 p2 = some r → ∀ fr1 st1, Sub 109 0 [] fr1 st1 [(2, .one (.pv (.rp [(qa1696 p1)] 0 0))), (3, .one (.pv (.rp [(qa1697 p2)] 0 0)))] [] → K19 fr1 st1 := by
      intro _ h fr1 st1 hS
      unfold ref1_Compare_j1 at h
      refine hK19 _ _ (XW.sub hS ?_)
      refine zq fun K27 hK27 => zq fun K28 hK28 => ?_
      have hJ2 : ∀ (x1 : Bool), ref1_Compare_j2 (ref1_Compare k0) p1 p2 x1 = some r → ∀ fr1 st1, Sub 109 0 [] fr1 st1 [(2, .one (.pv (.rp [(qa1696 p1)] 0 0))), (3, .one (.pv (.rp [(qa1697 p2)] 0 0))), (50, vb x1)] [] → K28 fr1 st1 := by
       intro x1 h fr1 st1 hS
       unfold ref1_Compare_j2 at h
       refine hK28 _ _ (XW.sub hS ?_)
       refine zC h (fun b30 h => ?_) (fun b30 h => ?_)
       ·refine zq fun K31 hK31 => ?_
        obtain ⟨r3, c32, h⟩ := zB h
        refine zr (zu [] 4 [52,54] [(qa1696 p1), (qa1697 p2)] (za (c_ref1_order _ _ _ c32) (zv [] 1 [4] [] [(4, vi r3)] [] (zd (hK31 _ _ (ze ?_))))))
        obtain rfl := Option.some.inj h
        exact zf [vi r3] (.one (.rfl _ rfl))
       ·refine zs (hK27 _ _ (zq fun K33 hK33 => zq fun K34 hK34 => zr (zu [] 5 [2,3,60] [(qa1696 p1), (qa1697 p2)] (zd (hK34 _ _ ?_)))))
        refine zC h (fun b35 h => ?_) (fun b35 h => ?_)
        ·refine zq fun K36 hK36 => ?_
         obtain ⟨r4, c37, h⟩ := zB h
         refine zr (zu [] 4 [62,64] [(qa1696 p1), (qa1697 p2)] (zl 42 [vi p1.scale, vi p2.scale] (vi r4) [(65, vi r4), (62, vi p1.scale), (64, vi p2.scale)] (c_ref1_order _ _ _ c37) (zg [] 1 [4] (zd (hK36 _ _ (ze ?_))))))
         obtain rfl := Option.some.inj h
         exact zf [vi r4] (.one (.rfl _ rfl))
        ·refine zs (hK33 _ _ (zq fun K38 hK38 => zq fun K39 hK39 => ?_))
         obtain ⟨r5, c40, h⟩ := zB h
         refine zr (zu [] 4 [2,3,67,69] [(qa1696 p1), (qa1697 p2)] (zl 44 [vs p1.s, vs p2.s] (vi r5) [(70, vi r5), (2, .one (.pv (.rp [(qa1696 p1)] 0 0))), (3, .one (.pv (.rp [(qa1697 p2)] 0 0))), (67, vs p1.s), (69, vs p2.s)] (c_ref1_texts _ _ _ c40) (zg [] 1 [2,3,6] (zd (hK39 _ _ (zq fun K41 hK41 => zr ?_))))))
         refine zg [] 2 [2,3,6,72] (zd (hK41 _ _ (zC h (fun b42 h => ?_) (fun b42 h => ?_))))
         ·refine zq fun K43 hK43 => zr (zv [] 2 [4] [] [(4, vi r5)] [] (zd (hK43 _ _ (ze ?_))))
          obtain rfl := Option.some.inj h
          exact zf [vi r5] (.one (.rfl _ rfl))
         ·refine zs (hK38 _ _ (zq fun K44 hK44 => ?_))
          have hJ4 : ∀ (_ : Unit), ref1_Compare_j4 p1 p2 = some r → ∀ fr1 st1, Sub 109 0 [] fr1 st1 [(2, .one (.pv (.rp [(qa1696 p1)] 0 0))), (3, .one (.pv (.rp [(qa1697 p2)] 0 0)))] [] → K44 fr1 st1 := by
           intro _ h fr1 st1 hS
           unfold ref1_Compare_j4 at h
           refine hK44 _ _ (XW.sub hS ?_)
           refine zq fun K58 hK58 => ?_
           obtain ⟨r7, c59, h⟩ := zB h
           refine zr (zv [] 3 [3,104] [[pi p1.kind, pi p1.n, pi p1.scale, .s (.string p1.s), .ro (eValue.els p1.items)]] [(3, .one (.pv (.rp [[pi p2.kind, pi p2.n, pi p2.scale, .s (.string p2.s), .ro (eValue.els p2.items)]] 0 0))), (104, vi ((eValue.els p1.items).length : Int))] [] ?_)
           rw [eValue.len p1.items]
           refine zv [] 3 [104,107] [[pi p2.kind, pi p2.n, pi p2.scale, .s (.string p2.s), .ro (eValue.els p2.items)]] [(104, vi (p1.items.length : Int)), (107, vi ((eValue.els p2.items).length : Int))] [] ?_
           rw [eValue.len p2.items]
           refine za (c_ref1_order _ _ _ c59) (zg [] 1 [4] (zd (hK58 _ _ (ze ?_))))
           obtain rfl := Option.some.inj h
           exact zf [vi r7] (.one (.rfl _ rfl))
          refine zq fun K45 hK45 => zr (zg [] 1 [2,3,7] (zd (hK45 _ _ (zb 0 (XW.rounds' BIG (x := cd Tryd.f17 [1,1,1,1,1,1,1,1,0,1,0,0]) (by kernel_rfl) fun Q1 hQ1 => ?_)))))
          have hL1 : ∀ (k1 : Nat) (x2 : Int), ref1_Compare_l1 (ref1_Compare k0) p1 p2 k1 x2 = some r → XR Tryd.prog 109 0 [] (cd Tryd.f17 [1,1,1,1,1,1,1,1,0,1,0,0]) Q1 k1 [(2, .one (.pv (.rp [(qa1696 p1)] 0 0))), (3, .one (.pv (.rp [(qa1697 p2)] 0 0))), (7, vi x2)] [] := by
           intro k1
           induction k1 with
           | zero => intro x2 h; rw [ref1_Compare_l1.eq_1] at h; cases h
           | succ k1 ih1 =>
            intro x2 h
            rw [ref1_Compare_l1.eq_2] at h
            refine zq fun K46 hK46 => zq fun K47 hK47 => ?_
            have hJ3 : ∀ (x3 : Bool), ref1_Compare_j3 (ref1_Compare_l1 (ref1_Compare k0) p1 p2 k1) (ref1_Compare k0) p1 p2 x2 x3 = some r → ∀ fr1 st1, Sub 109 0 [] fr1 st1 [(2, .one (.pv (.rp [(qa1696 p1)] 0 0))), (3, .one (.pv (.rp [(qa1697 p2)] 0 0))), (7, vi x2), (85, vb x3)] [] → K47 fr1 st1 := by
             intro x3 h fr1 st1 hS
             unfold ref1_Compare_j3 at h
             refine hK47 _ _ (XW.sub hS ?_)
             refine zC h (fun b49 h => ?_) (fun b49 h => ?_)
             ·refine zs (hK46 _ _ (zq fun K50 hK50 => zb 1 (zq fun K51 hK51 => ?_)))
              obtain ⟨e1, a52, h⟩ := zB h
              obtain ⟨e2, a53, h⟩ := zB h
              obtain ⟨r6, c54, h⟩ := zB h
              refine zw 10 [(97, .ag [ci e2.kind, ci e2.n, ci e2.scale, cst e2.s, cl eValue e2.items]), (96, .one (.pv (.rp (eValue.els p2.items) x2.toNat 0))), (95, vi x2), (94, vl eValue p2.items), (93, .one (.pv (.rp [(qa1697 p2)] 0 4))), (92, .ag [ci e1.kind, ci e1.n, ci e1.scale, cst e1.s, cl eValue e1.items]), (91, .one (.pv (.rp (eValue.els p1.items) x2.toNat 0))), (90, vi x2), (89, vl eValue p1.items), (88, .one (.pv (.rp [(qa1696 p1)] 0 4))), (2, .one (.pv (.rp [(qa1696 p1)] 0 0))), (3, .one (.pv (.rp [(qa1697 p2)] 0 0))), (7, vi x2), (85, vb x3)] ?_ ?_
              ·refine zyo 10 [(qa1696 p1), [pi e1.kind, pi e1.n, pi e1.scale, .s (.string e1.s), .ro (eValue.els e1.items)], (qa1697 p2), [pi e2.kind, pi e2.n, pi e2.scale, .s (.string e2.s), .ro (eValue.els e2.items)]] [([(qa1696 p1)] : List (List PV))[0]? = some (qa1696 p1), 0 ≤ x2 ∧ x2 < ((eValue.els p1.items).length : Int) ∧ elemsOk 5 (eValue.els p1.items), (eValue.els p1.items)[x2.toNat]? = some [pi e1.kind, pi e1.n, pi e1.scale, .s (.string e1.s), .ro (eValue.els e1.items)], ([(qa1697 p2)] : List (List PV))[0]? = some (qa1697 p2), 0 ≤ x2 ∧ x2 < ((eValue.els p2.items).length : Int) ∧ elemsOk 5 (eValue.els p2.items), (eValue.els p2.items)[x2.toNat]? = some [pi e2.kind, pi e2.n, pi e2.scale, .s (.string e2.s), .ro (eValue.els e2.items)]] (⟨rfl, eValue.inb a52, ((eValue.get a52).trans (by cases e1; rfl)), rfl, eValue.inb a53, ((eValue.get a53).trans (by cases e2; rfl)), trivial⟩) ?_
               exact zyd
              refine za (c_ref1_Compare k0 _ _ _ c54) (zg [] 1 [2,3,7,8] (zd (hK51 _ _ (zq fun K55 hK55 => zr (zv [] 2 [2,3,7,8,100] [] [(2, .one (.pv (.rp [(qa1696 p1)] 0 0))), (3, .one (.pv (.rp [(qa1697 p2)] 0 0))), (7, vi x2), (8, vi r6), (100, vb (r6 != (0 : Int)))] [] (zd ?_))))))
              refine hK55 _ _ (zC h (fun b56 h => ?_) (fun b56 h => ?_))
              ·refine zq fun K57 hK57 => zr (zg [] 2 [4] (zd (hK57 _ _ (ze (hQ1 _ _ _ ?_)))))
               obtain rfl := Option.some.inj h
               exact zf [vi r6] (.one (.rfl _ rfl))
              ·exact zs (hK50 _ _ (zr (zg [] 3 [2,3,7] (zd (XR.sub (zk [2,3,7]) (ih1 (IntKind.i64.wrap (x2 + (1 : Int))) h))))))
             ·exact zx 0 (hQ1 _ _ _ (hJ4 () h _ _ (zk [2,3])))
            rcases zW h with ⟨b48, h⟩ | ⟨b48, h⟩
            ·refine zr (zv [] 4 [2,3,7,74,77] [[pi p1.kind, pi p1.n, pi p1.scale, .s (.string p1.s), .ro (eValue.els p1.items)]] [(2, .one (.pv (.rp [[pi p1.kind, pi p1.n, pi p1.scale, .s (.string p1.s), .ro (eValue.els p1.items)]] 0 0))), (3, .one (.pv (.rp [[pi p2.kind, pi p2.n, pi p2.scale, .s (.string p2.s), .ro (eValue.els p2.items)]] 0 0))), (7, vi x2), (74, vi x2), (77, vi ((eValue.els p1.items).length : Int))] [] ?_)
             rw [eValue.len p1.items]
             refine zg [] 2 [2,3,7,79] (zt 79 b48 (zv [] 4 [2,3,7,79,80,83] [[pi p2.kind, pi p2.n, pi p2.scale, .s (.string p2.s), .ro (eValue.els p2.items)]] [(2, .one (.pv (.rp [[pi p1.kind, pi p1.n, pi p1.scale, .s (.string p1.s), .ro (eValue.els p1.items)]] 0 0))), (3, .one (.pv (.rp [[pi p2.kind, pi p2.n, pi p2.scale, .s (.string p2.s), .ro (eValue.els p2.items)]] 0 0))), (7, vi x2), (79, vb true), (80, vi x2), (83, vi ((eValue.els p2.items).length : Int))] [] ?_))
             rw [eValue.len p2.items]
             exact zg [] 2 [2,3,7,85] (zd (hJ3 (decide (x2 < (p2.items.length : Int))) h _ _ (zk [2,3,7,85])))
            ·refine zr (zv [] 4 [2,3,7,74,77] [[pi p1.kind, pi p1.n, pi p1.scale, .s (.string p1.s), .ro (eValue.els p1.items)]] [(2, .one (.pv (.rp [[pi p1.kind, pi p1.n, pi p1.scale, .s (.string p1.s), .ro (eValue.els p1.items)]] 0 0))), (3, .one (.pv (.rp [[pi p2.kind, pi p2.n, pi p2.scale, .s (.string p2.s), .ro (eValue.els p2.items)]] 0 0))), (7, vi x2), (74, vi x2), (77, vi ((eValue.els p1.items).length : Int))] [] ?_)
             rw [eValue.len p1.items]
             exact zg [] 2 [2,3,7,79] (zt 79 b48 (zg [] 6 [2,3,7,85] (zd (hJ3 false h _ _ (zk [2,3,7,85])))))
          exact XR.sub (zk [2,3,7]) (hL1 BIG (0 : Int) h)
      rcases zW h with ⟨b29, h⟩ | ⟨b29, h⟩
      ·exact zr (zu [] 6 [2,3,46] [(qa1696 p1), (qa1697 p2)] (zt 46 b29 (zu [] 4 [2,3,50] [(qa1696 p1)] (zd (hJ2 (p1.kind != (3 : Int)) h _ _ (zk [2,3,50]))))))
      ·exact zr (zv [] 6 [2,3,46] [(qa1696 p1), (qa1697 p2)] [(2, .one (.pv (.rp [(qa1696 p1)] 0 0))), (3, .one (.pv (.rp [(qa1697 p2)] 0 0))), (46, vb (p1.n != p2.n))] [] (zt 46 b29 (zg [] 4 [2,3,50] (zd (hJ2 false h _ _ (zk [2,3,50]))))))
     refine zq fun K20 hK20 => zr (zu [] 3 [2,3,34] [(qa1696 p1)] (zd (hK20 _ _ (zC h (fun b21 h => ?_) (fun b21 h => ?_)))))
     ·refine zq fun K22 hK22 => ?_
      obtain ⟨r2, c23, h⟩ := zB h
      refine zr (zu [] 2 [2,3,35,36] [(qa1696 p1), (qa1697 p2)] ?_)
      refine zl 43 [.ag (qa1694 p1), .ag (qa1695 p2)] (vi r2) [(37, vi r2), (2, .one (.pv (.rp [(qa1696 p1)] 0 0))), (3, .one (.pv (.rp [(qa1697 p2)] 0 0))), (35, .ag (qa1694 p1)), (36, .ag (qa1695 p2))] (c_ref1_decimals _ _ _ c23) (zg [] 1 [2,3,5] ?_)
      refine zd (hK22 _ _ (zq fun K24 hK24 => zr (zg [] 2 [2,3,5,39] (zd (hK24 _ _ (zC h (fun b25 h => ?_) (fun b25 h => ?_)))))))
      ·refine zq fun K26 hK26 => zr (zv [] 2 [4] [] [(4, vi r2)] [] (zd (hK26 _ _ (ze ?_))))
       obtain rfl := Option.some.inj h
       exact zf [vi r2] (.one (.rfl _ rfl))
      ·exact zs (hJ1 () h _ _ (zk [2,3]))
     ·exact zs (hJ1 () h _ _ (zk [2,3]))

def ref1_characters_j2 (rec1 : Int → Option Bool) (x2 : Int) (x3 : Bool) : Option Bool :=
    ift x3
      (some false)
      (rec1 (IntKind.i64.wrap (x2 + (1 : Int))))

def ref1_characters_j3 : Option Bool :=
    some true

def ref1_characters_l1 (p1 : ByteArray) : Nat → Int → Option Bool
  | 0, _ => none
  | k1 + 1, x2 =>
    ift (decide (x2 < (p1.size : Int)))
      (grd (0 ≤ x2 ∧ x2 < (p1.size : Int)) <|
       bnd (some (decide (((p1.data.toList.getD x2.toNat 0).toNat : Int) < (32 : Int)))) fun y1 =>
       ift y1
         (ref1_characters_j2 (ref1_characters_l1 p1 k1) x2 true)
         (grd (0 ≤ x2 ∧ x2 < (p1.size : Int)) <|
          ref1_characters_j2 (ref1_characters_l1 p1 k1) x2 (((p1.data.toList.getD x2.toNat 0).toNat : Int) == (127 : Int))))
      (ref1_characters_j3)

def ref1_characters_j1 (p1 : ByteArray) (x1 : Bool) : Option Bool :=
    ift x1
      (some false)
      (ref1_characters_l1 p1 BIG (0 : Int))

def ref1_characters (p1 : ByteArray) : Option Bool :=
    bnd (utf8_ValidString p1) fun r1 =>
    ift (!r1)
      (ref1_characters_j1 p1 true)
      (ref1_characters_j1 p1 (decide ((256 : Int) < (p1.size : Int))))


theorem c_ref1_characters (p1 : ByteArray) (r : Bool) (h : ref1_characters p1 = some r) : PC Tryd.prog 96 [vs p1] (vb r) := by
 unfold ref1_characters at h
 refine zF 28 Tryd.f96 (zq fun K1 hK1 => zr (zg [] 1 [0] (zd (hK1 _ _ (zq fun K2 hK2 => zq fun K3 hK3 => ?_)))))
 have hJ1 : ∀ (x1 : Bool), ref1_characters_j1 p1 x1 = some r → ∀ fr1 st1, Sub 28 0 [] fr1 st1 [(0, vs p1), (11, vb x1)] [] → K3 fr1 st1 := by
  intro x1 h fr1 st1 hS
  unfold ref1_characters_j1 at h
  refine hK3 _ _ (XW.sub hS ?_)
  refine zC h (fun b6 h => ?_) (fun b6 h => ?_)
  ·refine zq fun K7 hK7 => zr (zg [] 1 [2] (zd (hK7 _ _ (ze ?_))))
   obtain rfl := Option.some.inj h
   exact zf [vb false] (.one (.rfl _ rfl))
  ·refine zs (hK2 _ _ (zq fun K8 hK8 => ?_))
   have hJ3 : ∀ (_ : Unit), ref1_characters_j3 = some r → ∀ fr1 st1, Sub 28 0 [] fr1 st1 [] [] → K8 fr1 st1 := by
    intro _ h fr1 st1 hS
    unfold ref1_characters_j3 at h
    refine hK8 _ _ (XW.sub hS ?_)
    refine zq fun K21 hK21 => zr (zg [] 1 [2] (zd (hK21 _ _ (ze ?_))))
    obtain rfl := Option.some.inj h
    exact zf [vb true] (.one (.rfl _ rfl))
   refine zq fun K9 hK9 => zr (zg [] 1 [0,3] (zd (hK9 _ _ (zb 0 (XW.rounds' BIG (x := cd Tryd.f96 [1,1,0,1,0,0]) (by kernel_rfl) fun Q1 hQ1 => ?_)))))
   have hL1 : ∀ (k1 : Nat) (x2 : Int), ref1_characters_l1 p1 k1 x2 = some r → XR Tryd.prog 28 0 [] (cd Tryd.f96 [1,1,0,1,0,0]) Q1 k1 [(0, vs p1), (3, vi x2)] [] := by
    intro k1
    induction k1 with
    | zero => intro x2 h; rw [ref1_characters_l1.eq_1] at h; cases h
    | succ k1 ih1 =>
     intro x2 h
     rw [ref1_characters_l1.eq_2] at h
     refine zq fun K10 hK10 => zq fun K11 hK11 => zr (zg [] 4 [0,3,15] (zd (hK11 _ _ (zC h (fun b12 h => ?_) (fun b12 h => ?_)))))
     ·refine zs (hK10 _ _ (zq fun K13 hK13 => zb 1 (zq fun K14 hK14 => ?_)))
      have hJ2 : ∀ (x3 : Bool), ref1_characters_j2 (ref1_characters_l1 p1 k1) x2 x3 = some r → ∀ fr1 st1, Sub 28 0 [] fr1 st1 [(0, vs p1), (3, vi x2), (27, vb x3)] [] → K14 fr1 st1 := by
       intro x3 h fr1 st1 hS
       unfold ref1_characters_j2 at h
       refine hK14 _ _ (XW.sub hS ?_)
       refine zC h (fun b19 h => ?_) (fun b19 h => ?_)
       ·refine zq fun K20 hK20 => zr (zg [] 1 [2] (zd (hK20 _ _ (ze (hQ1 _ _ _ ?_)))))
        obtain rfl := Option.some.inj h
        exact zf [vb false] (.one (.rfl _ rfl))
       ·exact zs (hK13 _ _ (zr (zg [] 3 [0,3] (zd (XR.sub (zk [0,3]) (ih1 (IntKind.i64.wrap (x2 + (1 : Int))) h))))))
      obtain ⟨g15, h⟩ := zG h
      obtain ⟨y1, hy16, h⟩ := zB h
      rcases zW h with ⟨b17, h⟩ | ⟨b17, h⟩
      ·refine zr (zp [] 4 [0,3,21] [] [(0, vs p1), (3, vi x2), (21, vb (decide (((p1.data.toList.getD x2.toNat 0).toNat : Int) < (32 : Int))))] [] [0 ≤ x2 ∧ x2 < (p1.size : Int)] (⟨g15, trivial⟩) ?_)
       rw [show (decide (((p1.data.toList.getD x2.toNat 0).toNat : Int) < (32 : Int))) = y1 from Option.some.inj hy16]
       exact zg [] 1 [0,3,22] (zt 22 b17 (zg [] 5 [0,3,27] (zd (hJ2 true h _ _ (zk [0,3,27])))))
      ·obtain ⟨g18, h⟩ := zG h
       refine zr (zp [] 4 [0,3,21] [] [(0, vs p1), (3, vi x2), (21, vb (decide (((p1.data.toList.getD x2.toNat 0).toNat : Int) < (32 : Int))))] [] [0 ≤ x2 ∧ x2 < (p1.size : Int)] (⟨g15, trivial⟩) ?_)
       rw [show (decide (((p1.data.toList.getD x2.toNat 0).toNat : Int) < (32 : Int))) = y1 from Option.some.inj hy16]
       exact zg [] 1 [0,3,22] (zt 22 b17 (zo [] 5 [0,3,27] [] [0 ≤ x2 ∧ x2 < (p1.size : Int)] (⟨g18, trivial⟩) (zd (hJ2 (((p1.data.toList.getD x2.toNat 0).toNat : Int) == (127 : Int)) h _ _ (zk [0,3,27])))))
     ·exact zx 0 (hQ1 _ _ _ (hJ3 () h _ _ (zk [])))
   exact XR.sub (zk [0,3]) (hL1 BIG (0 : Int) h)
 obtain ⟨r1, c4, h⟩ := zB h
 rcases zW h with ⟨b5, h⟩ | ⟨b5, h⟩
 ·exact zr (zg [] 1 [0,4] (zl 110 [vs p1] (vb r1) [(5, vb r1), (0, vs p1), (4, vs p1)] (c_utf8_ValidString _ _ c4) (zg [] 2 [0,7] (zt 7 b5 (zg [] 4 [0,11] (zd (hJ1 true h _ _ (zk [0,11]))))))))
 ·exact zr (zv [] 1 [0,4] [] [(0, vs p1), (4, vs p1)] [] (za (c_utf8_ValidString _ _ c4) (zg [] 2 [0,7] (zt 7 b5 (zv [] 4 [0,11] [] [(0, vs p1), (11, vb (decide ((256 : Int) < (p1.size : Int))))] [] (zd (hJ1 (decide ((256 : Int) < (p1.size : Int))) h _ _ (zk [0,11]))))))))

def ref1_alone_j2 (x2 : Bool) : Option Bool :=
    some x2

def ref1_alone_j3 (x3 : Bool) : Option Bool :=
    some x3

def ref1_alone_j4 (x4 : Bool) : Option Bool :=
    some x4

def ref1_alone_j5 (x5 : Bool) : Option Bool :=
    some x5

def ref1_alone_j6 (x6 : Bool) : Option Bool :=
    some x6

def ref1_alone_j7 (x7 : Bool) : Option Bool :=
    some x7

def ref1_alone_j8 (x8 : Bool) : Option Bool :=
    some x8

def ref1_alone_j9 (x9 : Bool) : Option Bool :=
    some x9

def ref1_alone_j1 (p1 : GValue) (x1 : Bool) : Option Bool :=
    ift (p1.kind == (0 : Int))
      (ift x1
         (ift (p1.n == (0 : Int))
            (ref1_alone_j2 (p1.scale == (0 : Int)))
            (ref1_alone_j2 false))
         (ref1_alone_j2 false))
      (ift (p1.kind == (1 : Int))
         (ift x1
            (bnd (ref1_within p1.n (0 : Int) (1 : Int)) fun r1 =>
             ift r1
               (ref1_alone_j3 (p1.scale == (0 : Int)))
               (ref1_alone_j3 false))
            (ref1_alone_j3 false))
         (ift (p1.kind == (2 : Int))
            (ift x1
               (bnd (ref1_within p1.n (-999999999999999999 : Int) (999999999999999999 : Int)) fun r2 =>
                ift r2
                  (ref1_alone_j4 (p1.scale == (0 : Int)))
                  (ref1_alone_j4 false))
               (ref1_alone_j4 false))
            (ift (p1.kind == (3 : Int))
               (ift x1
                  (bnd (ref1_within p1.n (-999999999999999999 : Int) (999999999999999999 : Int)) fun r3 =>
                   ift r3
                     (bnd (ref1_within p1.scale (0 : Int) (12 : Int)) fun r4 =>
                      ref1_alone_j5 r4)
                     (ref1_alone_j5 false))
                  (ref1_alone_j5 false))
               (ift (p1.kind == (4 : Int))
                  (ift ((p1.items.length : Int) == (0 : Int))
                     (ift (p1.n == (0 : Int))
                        (ift (p1.scale == (0 : Int))
                           (bnd (ref1_characters p1.s) fun r5 =>
                            ref1_alone_j6 r5)
                           (ref1_alone_j6 false))
                        (ref1_alone_j6 false))
                     (ref1_alone_j6 false))
                  (ift (p1.kind == (5 : Int))
                     (ift x1
                        (bnd (ref1_within p1.n (-62135596800 : Int) (253402300799 : Int)) fun r6 =>
                         ift r6
                           (ref1_alone_j7 (p1.scale == (0 : Int)))
                           (ref1_alone_j7 false))
                        (ref1_alone_j7 false))
                     (ift (p1.kind == (6 : Int))
                        (ift (p1.s.toList == (ByteArray.mk #[]).toList)
                           (ift (p1.n == (0 : Int))
                              (ift (p1.scale == (0 : Int))
                                 (ref1_alone_j8 (decide ((p1.items.length : Int) ≤ (64 : Int))))
                                 (ref1_alone_j8 false))
                              (ref1_alone_j8 false))
                           (ref1_alone_j8 false))
                        (ift (p1.kind == (7 : Int))
                           (ift (p1.s.toList == (ByteArray.mk #[]).toList)
                              (ift (p1.n == (0 : Int))
                                 (ift (p1.scale == (0 : Int))
                                    (ref1_alone_j9 (decide ((0 : Int) < (p1.items.length : Int))))
                                    (ref1_alone_j9 false))
                                 (ref1_alone_j9 false))
                              (ref1_alone_j9 false))
                           (some false))))))))

def ref1_alone (p1 : GValue) : Option Bool :=
    ift (p1.s.toList == (ByteArray.mk #[]).toList)
      (ref1_alone_j1 p1 ((p1.items.length : Int) == (0 : Int)))
      (ref1_alone_j1 p1 false)

abbrev qa1725 (p1 : GValue) : List PV := [pi p1.kind, pi p1.n, pi p1.scale, .s (.string p1.s), .ro (eValue.els p1.items)]
abbrev qa1753 (p1 : GValue) : Fr := [(1, .one (.pv (.rp [(qa1725 p1)] 0 0))), (106, vb (p1.s.toList == (ByteArray.mk #[]).toList))]

theorem c_ref1_alone (p1 : GValue) (r : Bool) (h : ref1_alone p1 = some r) : PC Tryd.prog 71 [.ag [ci p1.kind, ci p1.n, ci p1.scale, cst p1.s, cl eValue p1.items]] (vb r) := by
 unfold ref1_alone at h
 refine zF 143 Tryd.f71 (zq fun K1 hK1 => zr (zg [] 2 [1] (zd (hK1 _ _ (zq fun K2 hK2 => ?_)))))
 have hJ1 : ∀ (x1 : Bool), ref1_alone_j1 p1 x1 = some r → ∀ fr1 st1, Sub 143 0 [] fr1 st1 [(1, .one (.pv (.rp [(qa1725 p1)] 0 0))), (3, vb x1)] [] → K2 fr1 st1 := by
  intro x1 h fr1 st1 hS
  unfold ref1_alone_j1 at h
  refine hK2 _ _ (XW.sub hS ?_)
  refine zq fun K4 hK4 => zq fun K5 hK5 => zr (zu [] 2 [1,3,14] [(qa1725 p1)] (zd (hK5 _ _ (zb 0 (zq fun K6 hK6 => ?_)))))
  refine zr (zg [] 2 [1,3,14,15] (zd (hK6 _ _ (zC h (fun b7 h => ?_) (fun b7 h => ?_)))))
  ·refine zq fun K8 hK8 => ?_
   have hJ2 : ∀ (x2 : Bool), ref1_alone_j2 x2 = some r → ∀ fr1 st1, Sub 143 0 [] fr1 st1 [(2, vb x2)] [] → K8 fr1 st1 := by
    intro x2 h fr1 st1 hS
    unfold ref1_alone_j2 at h
    refine hK8 _ _ (XW.sub hS ?_)
    refine ze ?_
    obtain rfl := Option.some.inj h
    exact zf [vb x2] (.one (.rfl _ rfl))
   rcases zW h with ⟨b9, h⟩ | ⟨b9, h⟩
   ·rcases zW h with ⟨b10, h⟩ | ⟨b10, h⟩
    ·exact zr (zv [] 2 [1,18] [] [(1, .one (.pv (.rp [(qa1725 p1)] 0 0))), (18, vb x1)] [] (zt 18 b9 (zu [] 5 [1,23] [(qa1725 p1)] (zt 23 b10 (zu [] 5 [2] [(qa1725 p1)] (zd (hJ2 (p1.scale == (0 : Int)) h _ _ (zk [2]))))))))
    ·exact zr (zv [] 2 [1,18] [] [(1, .one (.pv (.rp [(qa1725 p1)] 0 0))), (18, vb x1)] [] (zt 18 b9 (zu [] 5 [1,23] [(qa1725 p1)] (zt 23 b10 (zg [] 5 [2] (zd (hJ2 false h _ _ (zk [2]))))))))
   ·exact zr (zv [] 2 [1,18] [] [(1, .one (.pv (.rp [(qa1725 p1)] 0 0))), (18, vb x1)] [] (zt 18 b9 (zg [] 10 [2] (zd (hJ2 false h _ _ (zk [2]))))))
  ·refine zq fun K11 hK11 => zr (zv [] 2 [1,3,14,28] [] [(1, .one (.pv (.rp [(qa1725 p1)] 0 0))), (3, vb x1), (14, vi p1.kind), (28, vb (p1.kind == (1 : Int)))] [] (zd (hK11 _ _ (zC h (fun b12 h => ?_) (fun b12 h => ?_)))))
   ·refine zq fun K13 hK13 => ?_
    have hJ3 : ∀ (x3 : Bool), ref1_alone_j3 x3 = some r → ∀ fr1 st1, Sub 143 0 [] fr1 st1 [(2, vb x3)] [] → K13 fr1 st1 := by
     intro x3 h fr1 st1 hS
     unfold ref1_alone_j3 at h
     refine hK13 _ _ (XW.sub hS ?_)
     refine ze ?_
     obtain rfl := Option.some.inj h
     exact zf [vb x3] (.one (.rfl _ rfl))
    rcases zW h with ⟨b14, h⟩ | ⟨b14, h⟩
    ·obtain ⟨r1, c15, h⟩ := zB h
     rcases zW h with ⟨b16, h⟩ | ⟨b16, h⟩
     ·refine zr (zg [] 2 [1,31] (zt 31 b14 (zu [] 2 [1,31,33] [(qa1725 p1)] (zl 68 [vi p1.n, vi (0 : Int), vi (1 : Int)] (vb r1) [(34, vb r1), (1, .one (.pv (.rp [(qa1725 p1)] 0 0))), (31, vb true), (33, vi p1.n)] (c_ref1_within _ _ _ _ c15) (zg [] 2 [1,36] (zt 36 b16 (zu [] 5 [2] [(qa1725 p1)] ?_)))))))
      exact zd (hJ3 (p1.scale == (0 : Int)) h _ _ (zk [2]))
     ·refine zr (zv [] 2 [1,31] [] [(1, .one (.pv (.rp [(qa1725 p1)] 0 0))), (31, vb x1)] [] (zt 31 b14 (zu [] 2 [1,31,33] [(qa1725 p1)] (za (c_ref1_within _ _ _ _ c15) (zv [] 2 [1,36] [] [(1, .one (.pv (.rp [(qa1725 p1)] 0 0))), (36, vb r1)] [] (zt 36 b16 (zg [] 5 [2] ?_)))))))
      exact zd (hJ3 false h _ _ (zk [2]))
    ·exact zr (zg [] 2 [1,31] (zt 31 b14 (zg [] 10 [2] (zd (hJ3 false h _ _ (zk [2]))))))
   ·refine zq fun K17 hK17 => zr (zg [] 2 [1,3,14,41] (zd (hK17 _ _ (zC h (fun b18 h => ?_) (fun b18 h => ?_)))))
    ·refine zq fun K19 hK19 => ?_
     have hJ4 : ∀ (x4 : Bool), ref1_alone_j4 x4 = some r → ∀ fr1 st1, Sub 143 0 [] fr1 st1 [(2, vb x4)] [] → K19 fr1 st1 := by
      intro x4 h fr1 st1 hS
      unfold ref1_alone_j4 at h
      refine hK19 _ _ (XW.sub hS ?_)
      refine ze ?_
      obtain rfl := Option.some.inj h
      exact zf [vb x4] (.one (.rfl _ rfl))
     rcases zW h with ⟨b20, h⟩ | ⟨b20, h⟩
     ·obtain ⟨r2, c21, h⟩ := zB h
      rcases zW h with ⟨b22, h⟩ | ⟨b22, h⟩
      ·refine zr (zg [] 2 [1,44] (zt 44 b20 (zv [] 2 [1,44,46] [(qa1725 p1)] [(1, .one (.pv (.rp [(qa1725 p1)] 0 0))), (44, vb true), (46, vi p1.n)] [] (za (c_ref1_within _ _ _ _ c21) (zg [] 2 [1,49] (zt 49 b22 (zv [] 5 [2] [(qa1725 p1)] [(2, vb (p1.scale == (0 : Int)))] [] ?_)))))))
       exact zd (hJ4 (p1.scale == (0 : Int)) h _ _ (zk [2]))
      ·refine zr (zg [] 2 [1,44] (zt 44 b20 (zu [] 2 [1,44,46] [(qa1725 p1)] (zl 68 [vi p1.n, vi (-999999999999999999 : Int), vi (999999999999999999 : Int)] (vb r2) [(47, vb r2), (1, .one (.pv (.rp [(qa1725 p1)] 0 0))), (44, vb true), (46, vi p1.n)] (c_ref1_within _ _ _ _ c21) (zg [] 2 [1,49] (zt 49 b22 (zg [] 5 [2] ?_)))))))
       exact zd (hJ4 false h _ _ (zk [2]))
     ·exact zr (zg [] 2 [1,44] (zt 44 b20 (zv [] 10 [2] [] [(2, vb false)] [] (zd (hJ4 false h _ _ (zk [2]))))))
    ·refine zq fun K23 hK23 => zr (zg [] 2 [1,3,14,54] (zd (hK23 _ _ (zC h (fun b24 h => ?_) (fun b24 h => ?_)))))
     ·refine zq fun K25 hK25 => ?_
      have hJ5 : ∀ (x5 : Bool), ref1_alone_j5 x5 = some r → ∀ fr1 st1, Sub 143 0 [] fr1 st1 [(2, vb x5)] [] → K25 fr1 st1 := by
       intro x5 h fr1 st1 hS
       unfold ref1_alone_j5 at h
       refine hK25 _ _ (XW.sub hS ?_)
       refine ze ?_
       obtain rfl := Option.some.inj h
       exact zf [vb x5] (.one (.rfl _ rfl))
      rcases zW h with ⟨b26, h⟩ | ⟨b26, h⟩
      ·obtain ⟨r3, c27, h⟩ := zB h
       rcases zW h with ⟨b28, h⟩ | ⟨b28, h⟩
       ·obtain ⟨r4, c29, h⟩ := zB h
        refine zr (zv [] 2 [1,57] [] [(1, .one (.pv (.rp [(qa1725 p1)] 0 0))), (57, vb x1)] [] (zt 57 b26 (zu [] 2 [1,57,59] [(qa1725 p1)] (za (c_ref1_within _ _ _ _ c27) (zv [] 2 [1,62] [] [(1, .one (.pv (.rp [(qa1725 p1)] 0 0))), (62, vb r3)] [] (zt 62 b28 (zu [] 2 [62,64] [(qa1725 p1)] ?_)))))))
        exact za (c_ref1_within _ _ _ _ c29) (zv [] 2 [2] [] [(2, vb r4)] [] (zd (hJ5 r4 h _ _ (zk [2]))))
       ·refine zr (zg [] 2 [1,57] (zt 57 b26 (zu [] 2 [1,57,59] [(qa1725 p1)] (zl 68 [vi p1.n, vi (-999999999999999999 : Int), vi (999999999999999999 : Int)] (vb r3) [(60, vb r3), (1, .one (.pv (.rp [(qa1725 p1)] 0 0))), (57, vb true), (59, vi p1.n)] (c_ref1_within _ _ _ _ c27) (zg [] 2 [1,62] (zt 62 b28 (zg [] 5 [2] ?_)))))))
        exact zd (hJ5 false h _ _ (zk [2]))
      ·exact zr (zv [] 2 [1,57] [] [(1, .one (.pv (.rp [(qa1725 p1)] 0 0))), (57, vb x1)] [] (zt 57 b26 (zg [] 10 [2] (zd (hJ5 false h _ _ (zk [2]))))))
     ·refine zq fun K30 hK30 => zr (zv [] 2 [1,3,14,67] [] [(1, .one (.pv (.rp [(qa1725 p1)] 0 0))), (3, vb x1), (14, vi p1.kind), (67, vb (p1.kind == (4 : Int)))] [] (zd (hK30 _ _ (zC h (fun b31 h => ?_) (fun b31 h => ?_)))))
      ·refine zq fun K32 hK32 => ?_
       have hJ6 : ∀ (x6 : Bool), ref1_alone_j6 x6 = some r → ∀ fr1 st1, Sub 143 0 [] fr1 st1 [(2, vb x6)] [] → K32 fr1 st1 := by
        intro x6 h fr1 st1 hS
        unfold ref1_alone_j6 at h
        refine hK32 _ _ (XW.sub hS ?_)
        refine ze ?_
        obtain rfl := Option.some.inj h
        exact zf [vb x6] (.one (.rfl _ rfl))
       rcases zW h with ⟨b33, h⟩ | ⟨b33, h⟩
       ·rcases zW h with ⟨b34, h⟩ | ⟨b34, h⟩
        ·rcases zW h with ⟨b35, h⟩ | ⟨b35, h⟩
         ·obtain ⟨r5, c36, h⟩ := zB h
          refine zr (zv [] 3 [1,71] [[pi p1.kind, pi p1.n, pi p1.scale, .s (.string p1.s), .ro (eValue.els p1.items)]] [(1, .one (.pv (.rp [[pi p1.kind, pi p1.n, pi p1.scale, .s (.string p1.s), .ro (eValue.els p1.items)]] 0 0))), (71, vi ((eValue.els p1.items).length : Int))] [] ?_)
          rw [eValue.len p1.items]
          refine zg [] 2 [1,73] (zt 73 b33 (zu [] 5 [1,78] [(qa1725 p1)] (zt 78 b34 (zv [] 5 [1,83] [(qa1725 p1)] [(1, .one (.pv (.rp [(qa1725 p1)] 0 0))), (83, vb (p1.scale == (0 : Int)))] [] (zt 83 b35 (zu [] 2 [83,85] [(qa1725 p1)] (za (c_ref1_characters _ _ c36) ?_)))))))
          exact zv [] 2 [2] [] [(2, vb r5)] [] (zd (hJ6 r5 h _ _ (zk [2])))
         ·refine zr (zv [] 3 [1,71] [[pi p1.kind, pi p1.n, pi p1.scale, .s (.string p1.s), .ro (eValue.els p1.items)]] [(1, .one (.pv (.rp [[pi p1.kind, pi p1.n, pi p1.scale, .s (.string p1.s), .ro (eValue.els p1.items)]] 0 0))), (71, vi ((eValue.els p1.items).length : Int))] [] ?_)
          rw [eValue.len p1.items]
          refine zg [] 2 [1,73] (zt 73 b33 (zu [] 5 [1,78] [(qa1725 p1)] (zt 78 b34 (zv [] 5 [1,83] [(qa1725 p1)] [(1, .one (.pv (.rp [(qa1725 p1)] 0 0))), (83, vb (p1.scale == (0 : Int)))] [] (zt 83 b35 (zg [] 5 [2] (zd ?_)))))))
          exact hJ6 false h _ _ (zk [2])
        ·refine zr (zv [] 3 [1,71] [[pi p1.kind, pi p1.n, pi p1.scale, .s (.string p1.s), .ro (eValue.els p1.items)]] [(1, .one (.pv (.rp [[pi p1.kind, pi p1.n, pi p1.scale, .s (.string p1.s), .ro (eValue.els p1.items)]] 0 0))), (71, vi ((eValue.els p1.items).length : Int))] [] ?_)
         rw [eValue.len p1.items]
         exact zg [] 2 [1,73] (zt 73 b33 (zu [] 5 [1,78] [(qa1725 p1)] (zt 78 b34 (zv [] 10 [2] [] [(2, vb false)] [] (zd (hJ6 false h _ _ (zk [2])))))))
       ·refine zr (zv [] 3 [1,71] [[pi p1.kind, pi p1.n, pi p1.scale, .s (.string p1.s), .ro (eValue.els p1.items)]] [(1, .one (.pv (.rp [[pi p1.kind, pi p1.n, pi p1.scale, .s (.string p1.s), .ro (eValue.els p1.items)]] 0 0))), (71, vi ((eValue.els p1.items).length : Int))] [] ?_)
        rw [eValue.len p1.items]
        exact zg [] 2 [1,73] (zt 73 b33 (zg [] 15 [2] (zd (hJ6 false h _ _ (zk [2])))))
      ·refine zq fun K37 hK37 => zr (zg [] 2 [1,3,14,88] (zd (hK37 _ _ (zC h (fun b38 h => ?_) (fun b38 h => ?_)))))
       ·refine zq fun K39 hK39 => ?_
        have hJ7 : ∀ (x7 : Bool), ref1_alone_j7 x7 = some r → ∀ fr1 st1, Sub 143 0 [] fr1 st1 [(2, vb x7)] [] → K39 fr1 st1 := by
         intro x7 h fr1 st1 hS
         unfold ref1_alone_j7 at h
         refine hK39 _ _ (XW.sub hS ?_)
         refine ze ?_
         obtain rfl := Option.some.inj h
         exact zf [vb x7] (.one (.rfl _ rfl))
        rcases zW h with ⟨b40, h⟩ | ⟨b40, h⟩
        ·obtain ⟨r6, c41, h⟩ := zB h
         rcases zW h with ⟨b42, h⟩ | ⟨b42, h⟩
         ·refine zr (zg [] 2 [1,91] (zt 91 b40 (zv [] 2 [1,91,93] [(qa1725 p1)] [(1, .one (.pv (.rp [(qa1725 p1)] 0 0))), (91, vb true), (93, vi p1.n)] [] (za (c_ref1_within _ _ _ _ c41) (zg [] 2 [1,96] (zt 96 b42 (zv [] 5 [2] [(qa1725 p1)] [(2, vb (p1.scale == (0 : Int)))] [] ?_)))))))
          exact zd (hJ7 (p1.scale == (0 : Int)) h _ _ (zk [2]))
         ·refine zr (zg [] 2 [1,91] (zt 91 b40 (zu [] 2 [1,91,93] [(qa1725 p1)] (zl 68 [vi p1.n, vi (-62135596800 : Int), vi (253402300799 : Int)] (vb r6) [(94, vb r6), (1, .one (.pv (.rp [(qa1725 p1)] 0 0))), (91, vb true), (93, vi p1.n)] (c_ref1_within _ _ _ _ c41) (zg [] 2 [1,96] (zt 96 b42 (zg [] 5 [2] ?_)))))))
          exact zd (hJ7 false h _ _ (zk [2]))
        ·exact zr (zg [] 2 [1,91] (zt 91 b40 (zv [] 10 [2] [] [(2, vb false)] [] (zd (hJ7 false h _ _ (zk [2]))))))
       ·refine zq fun K43 hK43 => zr (zg [] 2 [1,14,101] (zd (hK43 _ _ (zC h (fun b44 h => ?_) (fun b44 h => ?_)))))
        ·refine zq fun K45 hK45 => ?_
         have hJ8 : ∀ (x8 : Bool), ref1_alone_j8 x8 = some r → ∀ fr1 st1, Sub 143 0 [] fr1 st1 [(2, vb x8)] [] → K45 fr1 st1 := by
          intro x8 h fr1 st1 hS
          unfold ref1_alone_j8 at h
          refine hK45 _ _ (XW.sub hS ?_)
          refine ze ?_
          obtain rfl := Option.some.inj h
          exact zf [vb x8] (.one (.rfl _ rfl))
         rcases zW h with ⟨b46, h⟩ | ⟨b46, h⟩
         ·rcases zW h with ⟨b47, h⟩ | ⟨b47, h⟩
          ·rcases zW h with ⟨b48, h⟩ | ⟨b48, h⟩
           ·refine zr (zv [] 4 [1,106] [(qa1725 p1)] (qa1753 p1) [] (zt 106 b46 (zu [] 5 [1,111] [(qa1725 p1)] (zt 111 b47 (zu [] 5 [1,116] [(qa1725 p1)] (zt 116 b48 ?_))))))
            refine zv [] 3 [116,119] [[pi p1.kind, pi p1.n, pi p1.scale, .s (.string p1.s), .ro (eValue.els p1.items)]] [(116, vb true), (119, vi ((eValue.els p1.items).length : Int))] [] ?_
            rw [eValue.len p1.items]
            exact zg [] 3 [2] (zd (hJ8 (decide ((p1.items.length : Int) ≤ (64 : Int))) h _ _ (zk [2])))
           ·refine zr (zu [] 4 [1,106] [(qa1725 p1)] (zt 106 b46 (zv [] 5 [1,111] [(qa1725 p1)] [(1, .one (.pv (.rp [(qa1725 p1)] 0 0))), (111, vb (p1.n == (0 : Int)))] [] (zt 111 b47 (zu [] 5 [1,116] [(qa1725 p1)] (zt 116 b48 (zg [] 6 [2] ?_)))))))
            exact zd (hJ8 false h _ _ (zk [2]))
          ·exact zr (zv [] 4 [1,106] [(qa1725 p1)] (qa1753 p1) [] (zt 106 b46 (zu [] 5 [1,111] [(qa1725 p1)] (zt 111 b47 (zg [] 11 [2] (zd (hJ8 false h _ _ (zk [2]))))))))
         ·exact zr (zv [] 4 [1,106] [(qa1725 p1)] (qa1753 p1) [] (zt 106 b46 (zg [] 16 [2] (zd (hJ8 false h _ _ (zk [2]))))))
        ·refine zq fun K49 hK49 => zr (zv [] 2 [1,122] [] [(1, .one (.pv (.rp [(qa1725 p1)] 0 0))), (122, vb (p1.kind == (7 : Int)))] [] (zd (hK49 _ _ (zC h (fun b50 h => ?_) (fun b50 h => ?_)))))
         ·refine zq fun K51 hK51 => ?_
          have hJ9 : ∀ (x9 : Bool), ref1_alone_j9 x9 = some r → ∀ fr1 st1, Sub 143 0 [] fr1 st1 [(2, vb x9)] [] → K51 fr1 st1 := by
           intro x9 h fr1 st1 hS
           unfold ref1_alone_j9 at h
           refine hK51 _ _ (XW.sub hS ?_)
           refine ze ?_
           obtain rfl := Option.some.inj h
           exact zf [vb x9] (.one (.rfl _ rfl))
          rcases zW h with ⟨b52, h⟩ | ⟨b52, h⟩
          ·rcases zW h with ⟨b53, h⟩ | ⟨b53, h⟩
           ·rcases zW h with ⟨b54, h⟩ | ⟨b54, h⟩
            ·refine zr (zu [] 4 [1,127] [(qa1725 p1)] (zt 127 b52 (zu [] 5 [1,132] [(qa1725 p1)] (zt 132 b53 (zv [] 5 [1,137] [(qa1725 p1)] [(1, .one (.pv (.rp [(qa1725 p1)] 0 0))), (137, vb (p1.scale == (0 : Int)))] [] (zt 137 b54 ?_))))))
             refine zv [] 3 [137,140] [[pi p1.kind, pi p1.n, pi p1.scale, .s (.string p1.s), .ro (eValue.els p1.items)]] [(137, vb true), (140, vi ((eValue.els p1.items).length : Int))] [] ?_
             rw [eValue.len p1.items]
             exact zg [] 3 [2] (zd (hJ9 (decide ((0 : Int) < (p1.items.length : Int))) h _ _ (zk [2])))
            ·refine zr (zu [] 4 [1,127] [(qa1725 p1)] (zt 127 b52 (zv [] 5 [1,132] [(qa1725 p1)] [(1, .one (.pv (.rp [(qa1725 p1)] 0 0))), (132, vb (p1.n == (0 : Int)))] [] (zt 132 b53 (zu [] 5 [1,137] [(qa1725 p1)] (zt 137 b54 (zg [] 6 [2] ?_)))))))
             exact zd (hJ9 false h _ _ (zk [2]))
           ·exact zr (zu [] 4 [1,127] [(qa1725 p1)] (zt 127 b52 (zu [] 5 [1,132] [(qa1725 p1)] (zt 132 b53 (zv [] 11 [2] [] [(2, vb false)] [] (zd (hJ9 false h _ _ (zk [2]))))))))
          ·exact zr (zu [] 4 [1,127] [(qa1725 p1)] (zt 127 b52 (zg [] 16 [2] (zd (hJ9 false h _ _ (zk [2]))))))
         ·refine zs (hK4 _ _ (zq fun K55 hK55 => zr (zg [] 1 [2] (zd (hK55 _ _ (ze ?_))))))
          obtain rfl := Option.some.inj h
          exact zf [vb false] (.one (.rfl _ rfl))
 rcases zW h with ⟨b3, h⟩ | ⟨b3, h⟩
 ·refine zr (zu [] 4 [1,7] [[pi p1.kind, pi p1.n, pi p1.scale, .s (.string p1.s), .ro (eValue.els p1.items)]] (zt 7 b3 (zv [] 3 [1,7,10] [[pi p1.kind, pi p1.n, pi p1.scale, .s (.string p1.s), .ro (eValue.els p1.items)]] [(1, .one (.pv (.rp [[pi p1.kind, pi p1.n, pi p1.scale, .s (.string p1.s), .ro (eValue.els p1.items)]] 0 0))), (7, vb true), (10, vi ((eValue.els p1.items).length : Int))] [] ?_)))
  rw [eValue.len p1.items]
  exact zg [] 3 [1,3] (zd (hJ1 ((p1.items.length : Int) == (0 : Int)) h _ _ (zk [1,3])))
 ·exact zr (zu [] 4 [1,7] [(qa1725 p1)] (zt 7 b3 (zv [] 6 [1,3] [] [(1, .one (.pv (.rp [(qa1725 p1)] 0 0))), (3, vb false)] [] (zd (hJ1 false h _ _ (zk [1,3]))))))

def ref1_sound_j3 (z3 : Int) : Option (Bool × Int) :=
    some (true, z3)

def ref1_sound_l1 (q_ref1_sound : GValue → Int → Int → Option (Bool × Int)) (p1 : GValue) (p2 : Int) : Nat → Int → Int → Option (Bool × Int)
  | 0, _, _ => none
  | k1 + 1, z2, x2 =>
    ift (decide (x2 < (p1.items.length : Int)))
      (bnd (at? p1.items x2) fun e1 =>
       bnd (q_ref1_sound e1 (IntKind.i64.wrap (p2 + (1 : Int))) z2) fun r2 =>
       ift (!r2.1)
         (some (false, r2.2))
         ((ref1_sound_l1 q_ref1_sound p1 p2 k1) r2.2 (IntKind.i64.wrap (x2 + (1 : Int)))))
      (ref1_sound_j3 z2)

def ref1_sound_j2 (q_ref1_sound : GValue → Int → Int → Option (Bool × Int)) (p1 : GValue) (p2 : Int) (z1 : Int) (x1 : Bool) : Option (Bool × Int) :=
    ift x1
      (some (false, z1))
      (ref1_sound_l1 q_ref1_sound p1 p2 BIG z1 (0 : Int))

def ref1_sound_j1 (q_ref1_sound : GValue → Int → Int → Option (Bool × Int)) (p1 : GValue) (p2 : Int) (z1 : Int) : Option (Bool × Int) :=
    ift (decide ((4 : Int) < p2))
      (ref1_sound_j2 q_ref1_sound p1 p2 z1 true)
      (ift (decide ((256 : Int) < z1))
         (ref1_sound_j2 q_ref1_sound p1 p2 z1 true)
         (bnd (ref1_alone p1) fun r1 =>
          ref1_sound_j2 q_ref1_sound p1 p2 z1 (!r1)))

def ref1_sound : Nat → GValue → Int → Int → Option (Bool × Int)
  | 0, _, _, _ => none
  | k0 + 1, p1, p2, p3 =>
    ift (p1.kind != (0 : Int))
      (ref1_sound_j1 (ref1_sound k0) p1 p2 (IntKind.i64.wrap (p3 + (1 : Int))))
      (ref1_sound_j1 (ref1_sound k0) p1 p2 p3)

abbrev qa1759 (p1 : GValue) : List CV := [ci p1.kind, ci p1.n, ci p1.scale, cst p1.s, cl eValue p1.items]
abbrev qa1762 (p1 : GValue) : List PV := [pi p1.kind, pi p1.n, pi p1.scale, .s (.string p1.s), .ro (eValue.els p1.items)]
abbrev qa1769 (e1 : GValue) : List CV := [ci e1.kind, ci e1.n, ci e1.scale, cst e1.s, cl eValue e1.items]
abbrev qa1783 (p1 : GValue) (p2 : Int) : Fr := [(1, vi p2), (2, .one (.pt 0 0 0 0)), (3, .one (.pv (.rp [(qa1762 p1)] 0 0))), (18, vb (decide ((4 : Int) < p2)))]

theorem c_ref1_sound : ∀ (k0 : Nat) (p1 : GValue) (p2 : Int) (p3 : Int) (r : (Bool × Int)), ref1_sound k0 p1 p2 p3 = some r → MC Tryd.prog 45 [.ag (qa1759 p1), vi p2, .one (.pt 0 0 0 0)] [.box [ci p3]] (vb r.1) [.box [ci r.2]]
 | 0, _, _, _, r, h => by rw [ref1_sound.eq_1] at h; cases h
 | k0 + 1, p1, p2, p3, r, h => by
  rw [ref1_sound.eq_2] at h
  refine MC.of 1 (n := 46) (fn := Tryd.f45) (c := cd Tryd.f45 []) (by kernel_rfl) (by kernel_rfl) (by kernel_rfl) (Nat.le_of_ble_eq_true rfl) rfl (zq fun K1 hK1 => zr (zg [] 2 [1,2,3] (zd (hK1 _ _ (zq fun K2 hK2 => ?_)))))
  have hJ1 : ∀ (z1 : Int), ref1_sound_j1 (ref1_sound k0) p1 p2 z1 = some r → ∀ fr1 st1, Sub 46 1 [] fr1 st1 [(1, vi p2), (2, .one (.pt 0 0 0 0)), (3, .one (.pv (.rp [(qa1762 p1)] 0 0)))] [.box [ci z1]] → K2 fr1 st1 := by
   intro z1 h fr1 st1 hS
   unfold ref1_sound_j1 at h
   refine hK2 _ _ (XW.sub hS ?_)
   refine zq fun K5 hK5 => zq fun K6 hK6 => ?_
   have hJ2 : ∀ (x1 : Bool), ref1_sound_j2 (ref1_sound k0) p1 p2 z1 x1 = some r → ∀ fr1 st1, Sub 46 1 [] fr1 st1 [(1, vi p2), (2, .one (.pt 0 0 0 0)), (3, .one (.pv (.rp [(qa1762 p1)] 0 0))), (28, vb x1)] [.box [ci z1]] → K6 fr1 st1 := by
    intro x1 h fr1 st1 hS
    unfold ref1_sound_j2 at h
    refine hK6 _ _ (XW.sub hS ?_)
    refine zC h (fun b10 h => ?_) (fun b10 h => ?_)
    ·refine zq fun K11 hK11 => zr (zv [] 1 [6] [] [(6, vb false)] [.box [ci z1]] (zd (hK11 _ _ (ze ?_))))
     obtain rfl := Option.some.inj h
     exact FinM.fin (.inr rfl) [] [vb false] [] (by kernel_rfl) trivial (by kernel_rfl) (by kernel_rfl) (.one (.rfl _ rfl))
    ·refine zs (hK5 _ _ (zq fun K12 hK12 => ?_))
     have hJ3 : ∀ (z3 : Int), ref1_sound_j3 z3 = some r → ∀ fr1 st1, Sub 46 1 [] fr1 st1 [] [.box [ci z3]] → K12 fr1 st1 := by
      intro z3 h fr1 st1 hS
      unfold ref1_sound_j3 at h
      refine hK12 _ _ (XW.sub hS ?_)
      refine zq fun K24 hK24 => zr (zv [] 1 [6] [] [(6, vb true)] [.box [ci z3]] (zd (hK24 _ _ (ze ?_))))
      obtain rfl := Option.some.inj h
      exact FinM.fin (.inr rfl) [] [vb true] [] (by kernel_rfl) trivial (by kernel_rfl) (by kernel_rfl) (.one (.rfl _ rfl))
     refine zq fun K13 hK13 => zr (zv [] 3 [1,2,3,31] [[pi p1.kind, pi p1.n, pi p1.scale, .s (.string p1.s), .ro (eValue.els p1.items)]] [(1, vi p2), (2, .one (.pt 0 0 0 0)), (3, .one (.pv (.rp [[pi p1.kind, pi p1.n, pi p1.scale, .s (.string p1.s), .ro (eValue.els p1.items)]] 0 0))), (31, vi ((eValue.els p1.items).length : Int))] [.box [ci z1]] ?_)
     rw [eValue.len p1.items]
     refine zg [] 1 [1,2,3,31,32] (zd (hK13 _ _ (zb 0 (XW.rounds' BIG (x := cd Tryd.f45 [1,1,1,0,1,0,0]) (by kernel_rfl) fun Q1 hQ1 => ?_))))
     have hL1 : ∀ (k1 : Nat) (z2 : Int) (x2 : Int), ref1_sound_l1 (ref1_sound k0) p1 p2 k1 z2 x2 = some r → XR Tryd.prog 46 1 [] (cd Tryd.f45 [1,1,1,0,1,0,0]) Q1 k1 [(1, vi p2), (2, .one (.pt 0 0 0 0)), (3, .one (.pv (.rp [(qa1762 p1)] 0 0))), (31, vi (p1.items.length : Int)), (32, vi x2)] [.box [ci z2]] := by
      intro k1
      induction k1 with
      | zero => intro z2 x2 h; rw [ref1_sound_l1.eq_1] at h; cases h
      | succ k1 ih1 =>
       intro z2 x2 h
       rw [ref1_sound_l1.eq_2] at h
       refine zq fun K14 hK14 => zr (zg [] 1 [1,2,3,31,32,33] (zd (hK14 _ _ (zq fun K15 hK15 => zC h (fun b16 h => ?_) (fun b16 h => ?_)))))
       ·refine zs (hK15 _ _ (zq fun K17 hK17 => zb 1 (zq fun K18 hK18 => zr (zg [] 2 [1,2,3,7,31,32] (zd ?_)))))
        refine hK18 _ _ (zq fun K19 hK19 => ?_)
        obtain ⟨e1, a20, h⟩ := zB h
        obtain ⟨r2, c21, h⟩ := zB h
        refine zr ?_
        refine zp [] 8 [1,2,3,31,32,39,41,42] [(qa1762 p1), [pi e1.kind, pi e1.n, pi e1.scale, .s (.string e1.s), .ro (eValue.els e1.items)]] [(1, vi p2), (2, .one (.pt 0 0 0 0)), (3, .one (.pv (.rp [(qa1762 p1)] 0 0))), (31, vi (p1.items.length : Int)), (32, vi x2), (39, .ag (qa1769 e1)), (41, vi (IntKind.i64.wrap (p2 + (1 : Int)))), (42, .one (.pt 0 0 0 0))] [.box [ci z2]] [([(qa1762 p1)] : List (List PV))[0]? = some (qa1762 p1), 0 ≤ x2 ∧ x2 < ((eValue.els p1.items).length : Int) ∧ elemsOk 5 (eValue.els p1.items), (eValue.els p1.items)[x2.toNat]? = some [pi e1.kind, pi e1.n, pi e1.scale, .s (.string e1.s), .ro (eValue.els e1.items)]] (⟨rfl, eValue.inb a20, ((eValue.get a20).trans (by cases e1; rfl)), trivial⟩) ?_
        refine XO.calm 45 [.ag (qa1769 e1), vi (IntKind.i64.wrap (p2 + (1 : Int))), .one (.pt 0 0 0 0)] [.box [ci z2]] [.box [ci r2.2]] (vb r2.1) [0] [(43, vb r2.1), (1, vi p2), (2, .one (.pt 0 0 0 0)), (3, .one (.pv (.rp [(qa1762 p1)] 0 0))), (31, vi (p1.items.length : Int)), (32, vi x2), (39, .ag (qa1769 e1)), (41, vi (IntKind.i64.wrap (p2 + (1 : Int)))), (42, .one (.pt 0 0 0 0))] [.box [ci r2.2]] (by kernel_rfl) (c_ref1_sound k0 _ _ _ _ c21) (by kernel_rfl) (by kernel_rfl) (by kernel_rfl) (by kernel_rfl) ?_
        refine zg [] 1 [1,2,3,31,32,44] (zd (hK19 _ _ (zC h (fun b22 h => ?_) (fun b22 h => ?_))))
        ·refine zq fun K23 hK23 => zr (zv [] 1 [6] [] [(6, vb false)] [.box [ci r2.2]] (zd (hK23 _ _ (ze (hQ1 _ _ _ ?_)))))
         obtain rfl := Option.some.inj h
         exact FinM.fin (.inr rfl) [] [vb false] [] (by kernel_rfl) trivial (by kernel_rfl) (by kernel_rfl) (.one (.rfl _ rfl))
        ·exact zs (hK17 _ _ (zr (zg [] 2 [1,2,3,31,32] (zd (XR.sub (zk [1,2,3,31,32]) (ih1 r2.2 (IntKind.i64.wrap (x2 + (1 : Int))) h))))))
       ·exact zx 0 (hQ1 _ _ _ (hJ3 z2 h _ _ (zk [])))
     exact XR.sub (zk [1,2,3,31,32]) (hL1 BIG z1 (0 : Int) h)
   rcases zW h with ⟨b7, h⟩ | ⟨b7, h⟩
   ·exact zr (zg [] 3 [1,2,3,18] (zt 18 b7 (zg [] 10 [1,2,3,28] (zd (hJ2 true h _ _ (zk [1,2,3,28]))))))
   ·rcases zW h with ⟨b8, h⟩ | ⟨b8, h⟩
    ·exact zr (zv [] 3 [1,2,3,18] [] (qa1783 p1 p2) [.box [ci z1]] (zt 18 b7 (zg [] 6 [1,2,3,24] (zt 24 b8 (zg [] 4 [1,2,3,28] (zd (hJ2 true h _ _ (zk [1,2,3,28]))))))))
    ·obtain ⟨r1, c9, h⟩ := zB h
     refine zr (zv [] 3 [1,2,3,18] [] (qa1783 p1 p2) [.box [ci z1]] (zt 18 b7 (zg [] 6 [1,2,3,24] (zt 24 b8 (zu [] 1 [1,2,3,24,25] [(qa1762 p1)] ?_)))))
     exact zl 71 [.ag (qa1759 p1)] (vb r1) [(26, vb r1), (1, vi p2), (2, .one (.pt 0 0 0 0)), (3, .one (.pv (.rp [(qa1762 p1)] 0 0))), (24, vb false), (25, .ag (qa1759 p1))] (c_ref1_alone _ _ c9) (zg [] 2 [1,2,3,28] (zd (hJ2 (!r1) h _ _ (zk [1,2,3,28]))))
  refine zq fun K3 hK3 => zr (zu [] 3 [1,2,3,10] [(qa1762 p1)] (zd (hK3 _ _ (zC h (fun b4 h => ?_) (fun b4 h => ?_)))))
  ·exact zr (zv [] 6 [1,2,3] [] [(1, vi p2), (2, .one (.pt 0 0 0 0)), (3, .one (.pv (.rp [(qa1762 p1)] 0 0)))] [.box [ci (IntKind.i64.wrap (p3 + (1 : Int)))]] (zd (hJ1 (IntKind.i64.wrap (p3 + (1 : Int))) h _ _ (zk [1,2,3]))))
  ·exact zs (hJ1 p3 h _ _ (zk [1,2,3]))

def ref1_Sound (p1 : GValue) : Option Bool :=
    bnd (ref1_sound BIG p1 (1 : Int) (0 : Int)) fun r1 =>
    some r1.1

abbrev qa1786 (p1 : GValue) : List CV := [ci p1.kind, ci p1.n, ci p1.scale, cst p1.s, cl eValue p1.items]

theorem c_ref1_Sound (p1 : GValue) (r : Bool) (h : ref1_Sound p1 = some r) : PC Tryd.prog 18 [.ag (qa1786 p1)] (vb r) := by
 unfold ref1_Sound at h
 refine zF 6 Tryd.f18 (zq fun K1 hK1 => zr (zg [3] 2 [1] (zd (hK1 _ _ (zq fun K2 hK2 => zr ?_)))))
 refine zg [3] 2 [1,3] (zd (hK2 _ _ (zq fun K3 hK3 => ?_)))
 obtain ⟨r1, c4, h⟩ := zB h
 refine zr (zv [3] 1 [3,4] [[pi p1.kind, pi p1.n, pi p1.scale, .s (.string p1.s), .ro (eValue.els p1.items)]] [(3, .one (.pt 0 0 0 0)), (4, .ag (qa1786 p1))] [.box [ci (0 : Int)]] ?_)
 refine XO.calm 45 [.ag (qa1786 p1), vi (1 : Int), .one (.pt 0 0 0 0)] [.box [ci (0 : Int)]] [.box [ci r1.2]] (vb r1.1) [0] [(5, vb r1.1), (3, .one (.pt 0 0 0 0)), (4, .ag (qa1786 p1))] [.box [ci r1.2]] (by kernel_rfl) (c_ref1_sound BIG _ _ _ _ c4) (by kernel_rfl) (by kernel_rfl) (by kernel_rfl) (by kernel_rfl) (zg [3] 1 [2] (zd (hK3 _ _ (ze ?_))))
 obtain rfl := Option.some.inj h
 exact zf [vb r1.1] (.one (.rfl _ rfl))

def law3_TableTransformsKeepOrder_j1 (p1 : GTransform) (p2 : GValue) (p3 : GValue) (x1 : Bool) : Option Bool :=
    ift x1
      (some true)
      (bnd (table_Transform p1 p2) fun r6 =>
       bnd (table_Transform p1 p3) fun r7 =>
       bnd (ref1_Compare BIG r6 r7) fun r8 =>
       some (decide (r8 ≤ (0 : Int))))

def law3_TableTransformsKeepOrder (p1 : GTransform) (p2 : GValue) (p3 : GValue) : Option Bool :=
    bnd (law3_number (3 : Int)) fun r1 =>
    bnd (table_Transform (GTransform.mk (1 : Int) (0 : Int)) r1) fun r2 =>
    ift (r2.n != (3 : Int))
      (some false)
      (ift (p1.kind == (2 : Int))
         (law3_TableTransformsKeepOrder_j1 p1 p2 p3 true)
         (ift (p2.kind != p3.kind)
            (law3_TableTransformsKeepOrder_j1 p1 p2 p3 true)
            (ift (p2.scale != p3.scale)
               (law3_TableTransformsKeepOrder_j1 p1 p2 p3 true)
               (ift (p2.kind == (0 : Int))
                  (law3_TableTransformsKeepOrder_j1 p1 p2 p3 true)
                  (bnd (ref1_Compare BIG p2 p3) fun r3 =>
                   ift (decide ((0 : Int) < r3))
                     (law3_TableTransformsKeepOrder_j1 p1 p2 p3 true)
                     (bnd (ref1_Sound p2) fun r4 =>
                      ift (!r4)
                        (law3_TableTransformsKeepOrder_j1 p1 p2 p3 true)
                        (bnd (ref1_Sound p3) fun r5 =>
                         law3_TableTransformsKeepOrder_j1 p1 p2 p3 (!r5))))))))

abbrev qa1794 (p1 : GTransform) : List CV := [ci p1.kind, ci p1.param]
abbrev qa1795 (p2 : GValue) : List CV := [ci p2.kind, ci p2.n, ci p2.scale, cst p2.s, cl eValue p2.items]
abbrev qa1796 (p3 : GValue) : List CV := [ci p3.kind, ci p3.n, ci p3.scale, cst p3.s, cl eValue p3.items]
abbrev qa1798 (p1 : GTransform) : List PV := [pi p1.kind, pi p1.param]
abbrev qa1799 (p2 : GValue) : List PV := [pi p2.kind, pi p2.n, pi p2.scale, .s (.string p2.s), .ro (eValue.els p2.items)]
abbrev qa1800 (p3 : GValue) : List PV := [pi p3.kind, pi p3.n, pi p3.scale, .s (.string p3.s), .ro (eValue.els p3.items)]
abbrev qa1802 (r2 : GValue) : List CV := [ci r2.kind, ci r2.n, ci r2.scale, cst r2.s, cl eValue r2.items]
abbrev qa1803 (r6 : GValue) : List CV := [ci r6.kind, ci r6.n, ci r6.scale, cst r6.s, cl eValue r6.items]
abbrev qa1807 (r2 : GValue) : St := [.box (qa1802 r2)]
abbrev qa1812 (p1 : GTransform) (p2 : GValue) (p3 : GValue) : Fr := [(3, .one (.pv (.rp [(qa1798 p1)] 0 0))), (4, .one (.pv (.rp [(qa1799 p2)] 0 0))), (5, .one (.pv (.rp [(qa1800 p3)] 0 0))), (51, vb true)]
abbrev qa1813 (p1 : GTransform) (p2 : GValue) (p3 : GValue) : Fr := [(3, .one (.pv (.rp [(qa1798 p1)] 0 0))), (4, .one (.pv (.rp [(qa1799 p2)] 0 0))), (5, .one (.pv (.rp [(qa1800 p3)] 0 0))), (31, vb (p2.scale != p3.scale))]
abbrev qa1814 (p1 : GTransform) (p2 : GValue) (p3 : GValue) : Fr := [(3, .one (.pv (.rp [(qa1798 p1)] 0 0))), (4, .one (.pv (.rp [(qa1799 p2)] 0 0))), (5, .one (.pv (.rp [(qa1800 p3)] 0 0))), (24, vb (p2.kind != p3.kind))]

theorem c_law3_TableTransformsKeepOrder (p1 : GTransform) (p2 : GValue) (p3 : GValue) (r : Bool) (h : law3_TableTransformsKeepOrder p1 p2 p3 = some r) : PC Tryd.prog 4 [.ag (qa1794 p1), .ag (qa1795 p2), .ag (qa1796 p3)] (vb r) := by
 unfold law3_TableTransformsKeepOrder at h
 refine zF 60 Tryd.f4 (zq fun K1 hK1 => zr (zg [7] 4 [3,4,5] (zd (hK1 _ _ (zq fun K2 hK2 => ?_)))))
 obtain ⟨r1, c3, h⟩ := zB h
 obtain ⟨r2, c4, h⟩ := zB h
 refine zr (zg [7] 1 [3,4,5,8] (zl 16 [vi (3 : Int)] (.ag [ci r1.kind, ci r1.n, ci r1.scale, cst r1.s, cl eValue r1.items]) [(9, .ag [ci r1.kind, ci r1.n, ci r1.scale, cst r1.s, cl eValue r1.items]), (3, .one (.pv (.rp [(qa1798 p1)] 0 0))), (4, .one (.pv (.rp [(qa1799 p2)] 0 0))), (5, .one (.pv (.rp [(qa1800 p3)] 0 0))), (8, .ag [ci (1 : Int), ci (0 : Int)])] (c_law3_number _ _ c3) (za (c_table_Transform _ _ _ c4) (zg [7] 2 [3,4,5,7] (zd ?_)))))
 refine hK2 _ _ (zq fun K5 hK5 => zq fun K6 hK6 => zr (zv [7] 3 [3,4,5,13] [] [(3, .one (.pv (.rp [(qa1798 p1)] 0 0))), (4, .one (.pv (.rp [(qa1799 p2)] 0 0))), (5, .one (.pv (.rp [(qa1800 p3)] 0 0))), (13, vb (r2.n != (3 : Int)))] (qa1807 r2) (zd (hK6 _ _ (zC h (fun b7 h => ?_) (fun b7 h => ?_))))))
 ·refine zq fun K8 hK8 => zr (zg [7] 1 [6] (zd (hK8 _ _ (ze ?_))))
  obtain rfl := Option.some.inj h
  exact zf [vb false] (.one (.rfl _ rfl))
 ·refine zs (hK5 _ _ (zq fun K9 hK9 => zq fun K10 hK10 => ?_))
  have hJ1 : ∀ (x1 : Bool), law3_TableTransformsKeepOrder_j1 p1 p2 p3 x1 = some r → ∀ fr1 st1, Sub 60 0 [] fr1 st1 [(3, .one (.pv (.rp [(qa1798 p1)] 0 0))), (4, .one (.pv (.rp [(qa1799 p2)] 0 0))), (5, .one (.pv (.rp [(qa1800 p3)] 0 0))), (51, vb x1)] (qa1807 r2) → K10 fr1 st1 := by
   intro x1 h fr1 st1 hS
   unfold law3_TableTransformsKeepOrder_j1 at h
   refine hK10 _ _ (XW.sub hS ?_)
   refine zC h (fun b20 h => ?_) (fun b20 h => ?_)
   ·refine zq fun K21 hK21 => zr (zg [7] 1 [6] (zd (hK21 _ _ (ze ?_))))
    obtain rfl := Option.some.inj h
    exact zf [vb true] (.one (.rfl _ rfl))
   ·refine zs (hK9 _ _ (zq fun K22 hK22 => ?_))
    obtain ⟨r6, c23, h⟩ := zB h
    obtain ⟨r7, c24, h⟩ := zB h
    obtain ⟨r8, c25, h⟩ := zB h
    refine zw 5 [(56, .ag (qa1796 p3)), (55, .ag (qa1794 p1)), (54, .ag (qa1803 r6)), (53, .ag (qa1795 p2)), (52, .ag (qa1794 p1)), (3, .one (.pv (.rp [(qa1798 p1)] 0 0))), (4, .one (.pv (.rp [(qa1799 p2)] 0 0))), (5, .one (.pv (.rp [(qa1800 p3)] 0 0))), (51, vb x1)] ?_ ?_
    ·refine zyu 2 [(qa1798 p1), (qa1799 p2)] ?_
     refine DX.cal 15 [.ag (qa1794 p1), .ag (qa1795 p2)] (.ag (qa1803 r6)) [(54, .ag (qa1803 r6)), (53, .ag (qa1795 p2)), (52, .ag (qa1794 p1)), (3, .one (.pv (.rp [(qa1798 p1)] 0 0))), (4, .one (.pv (.rp [(qa1799 p2)] 0 0))), (5, .one (.pv (.rp [(qa1800 p3)] 0 0))), (51, vb x1)] (by kernel_rfl) (c_table_Transform _ _ _ c23) rfl rfl (by kernel_rfl) ?_
     exact zyu 2 [(qa1798 p1), (qa1800 p3)] zyd
    refine za (c_table_Transform _ _ _ c24) ?_
    refine zl 17 [.ag (qa1803 r6), .ag [ci r7.kind, ci r7.n, ci r7.scale, cst r7.s, cl eValue r7.items]] (vi r8) [(58, vi r8), (57, .ag [ci r7.kind, ci r7.n, ci r7.scale, cst r7.s, cl eValue r7.items]), (56, .ag (qa1796 p3)), (55, .ag (qa1794 p1)), (54, .ag (qa1803 r6)), (53, .ag (qa1795 p2)), (52, .ag (qa1794 p1)), (3, .one (.pv (.rp [(qa1798 p1)] 0 0))), (4, .one (.pv (.rp [(qa1799 p2)] 0 0))), (5, .one (.pv (.rp [(qa1800 p3)] 0 0))), (51, vb x1)] (c_ref1_Compare BIG _ _ _ c25) ?_
    refine zg [7] 2 [6] (zd (hK22 _ _ (ze ?_)))
    obtain rfl := Option.some.inj h
    exact zf [vb (decide (r8 ≤ (0 : Int)))] (.one (.rfl _ rfl))
  rcases zW h with ⟨b11, h⟩ | ⟨b11, h⟩
  ·exact zr (zu [7] 4 [3,4,5,17] [(qa1798 p1)] (zt 17 b11 (zv [7] 34 [3,4,5,51] [] (qa1812 p1 p2 p3) (qa1807 r2) (zd (hJ1 true h _ _ (zk [3,4,5,51]))))))
  ·rcases zW h with ⟨b12, h⟩ | ⟨b12, h⟩
   ·refine zr (zu [7] 4 [3,4,5,17] [(qa1798 p1)] (zt 17 b11 (zu [7] 7 [3,4,5,24] [(qa1799 p2), (qa1800 p3)] (zt 24 b12 ?_))))
    exact zv [7] 27 [3,4,5,51] [] (qa1812 p1 p2 p3) (qa1807 r2) (zd (hJ1 true h _ _ (zk [3,4,5,51])))
   ·rcases zW h with ⟨b13, h⟩ | ⟨b13, h⟩
    ·refine zr (zu [7] 4 [3,4,5,17] [(qa1798 p1)] (zt 17 b11 (zu [7] 7 [3,4,5,24] [(qa1799 p2), (qa1800 p3)] (zt 24 b12 ?_))))
     refine zv [7] 7 [3,4,5,31] [(qa1799 p2), (qa1800 p3)] (qa1813 p1 p2 p3) (qa1807 r2) (zt 31 b13 ?_)
     exact zg [7] 20 [3,4,5,51] (zd (hJ1 true h _ _ (zk [3,4,5,51])))
    ·rcases zW h with ⟨b14, h⟩ | ⟨b14, h⟩
     ·refine zr (zu [7] 4 [3,4,5,17] [(qa1798 p1)] (zt 17 b11 ?_))
      refine zv [7] 7 [3,4,5,24] [(qa1799 p2), (qa1800 p3)] (qa1814 p1 p2 p3) (qa1807 r2) (zt 24 b12 ?_)
      refine zu [7] 7 [3,4,5,31] [(qa1799 p2), (qa1800 p3)] (zt 31 b13 (zu [7] 5 [3,4,5,36] [(qa1799 p2)] (zt 36 b14 ?_)))
      exact zv [7] 15 [3,4,5,51] [] (qa1812 p1 p2 p3) (qa1807 r2) (zd (hJ1 true h _ _ (zk [3,4,5,51])))
     ·obtain ⟨r3, c15, h⟩ := zB h
      rcases zW h with ⟨b16, h⟩ | ⟨b16, h⟩
      ·refine zr (zu [7] 4 [3,4,5,17] [(qa1798 p1)] (zt 17 b11 (zu [7] 7 [3,4,5,24] [(qa1799 p2), (qa1800 p3)] (zt 24 b12 ?_))))
       refine zv [7] 7 [3,4,5,31] [(qa1799 p2), (qa1800 p3)] (qa1813 p1 p2 p3) (qa1807 r2) (zt 31 b13 ?_)
       refine zu [7] 5 [3,4,5,36] [(qa1799 p2)] (zt 36 b14 (zu [7] 2 [3,4,5,36,37,38] [(qa1799 p2), (qa1800 p3)] ?_))
       refine zl 17 [.ag (qa1795 p2), .ag (qa1796 p3)] (vi r3) [(39, vi r3), (3, .one (.pv (.rp [(qa1798 p1)] 0 0))), (4, .one (.pv (.rp [(qa1799 p2)] 0 0))), (5, .one (.pv (.rp [(qa1800 p3)] 0 0))), (36, vb false), (37, .ag (qa1795 p2)), (38, .ag (qa1796 p3))] (c_ref1_Compare BIG _ _ _ c15) ?_
       exact zg [7] 3 [3,4,5,42] (zt 42 b16 (zg [7] 9 [3,4,5,51] (zd (hJ1 true h _ _ (zk [3,4,5,51])))))
      ·obtain ⟨r4, c17, h⟩ := zB h
       rcases zW h with ⟨b18, h⟩ | ⟨b18, h⟩
       ·refine zr (zv [7] 4 [3,4,5,17] [(qa1798 p1)] [(3, .one (.pv (.rp [(qa1798 p1)] 0 0))), (4, .one (.pv (.rp [(qa1799 p2)] 0 0))), (5, .one (.pv (.rp [(qa1800 p3)] 0 0))), (17, vb (p1.kind == (2 : Int)))] (qa1807 r2) (zt 17 b11 ?_))
        refine zu [7] 7 [3,4,5,24] [(qa1799 p2), (qa1800 p3)] (zt 24 b12 (zu [7] 7 [3,4,5,31] [(qa1799 p2), (qa1800 p3)] (zt 31 b13 ?_)))
        refine zv [7] 5 [3,4,5,36] [(qa1799 p2)] [(3, .one (.pv (.rp [(qa1798 p1)] 0 0))), (4, .one (.pv (.rp [(qa1799 p2)] 0 0))), (5, .one (.pv (.rp [(qa1800 p3)] 0 0))), (36, vb (p2.kind == (0 : Int)))] (qa1807 r2) (zt 36 b14 ?_)
        refine zu [7] 2 [3,4,5,36,37,38] [(qa1799 p2), (qa1800 p3)] (za (c_ref1_Compare BIG _ _ _ c15) ?_)
        refine zv [7] 3 [3,4,5,42] [] [(3, .one (.pv (.rp [(qa1798 p1)] 0 0))), (4, .one (.pv (.rp [(qa1799 p2)] 0 0))), (5, .one (.pv (.rp [(qa1800 p3)] 0 0))), (42, vb (decide ((0 : Int) < r3)))] (qa1807 r2) (zt 42 b16 (zu [7] 1 [3,4,5,42,43] [(qa1799 p2)] (za (c_ref1_Sound _ _ c17) ?_)))
        exact zv [7] 3 [3,4,5,47] [] [(3, .one (.pv (.rp [(qa1798 p1)] 0 0))), (4, .one (.pv (.rp [(qa1799 p2)] 0 0))), (5, .one (.pv (.rp [(qa1800 p3)] 0 0))), (47, vb (!r4))] (qa1807 r2) (zt 47 b18 (zg [7] 4 [3,4,5,51] (zd (hJ1 true h _ _ (zk [3,4,5,51])))))
       ·obtain ⟨r5, c19, h⟩ := zB h
        refine zr (zu [7] 4 [3,4,5,17] [(qa1798 p1)] (zt 17 b11 ?_))
        refine zv [7] 7 [3,4,5,24] [(qa1799 p2), (qa1800 p3)] (qa1814 p1 p2 p3) (qa1807 r2) (zt 24 b12 ?_)
        refine zu [7] 7 [3,4,5,31] [(qa1799 p2), (qa1800 p3)] (zt 31 b13 (zu [7] 5 [3,4,5,36] [(qa1799 p2)] (zt 36 b14 ?_)))
        refine zv [7] 2 [3,4,5,36,37,38] [(qa1799 p2), (qa1800 p3)] [(3, .one (.pv (.rp [(qa1798 p1)] 0 0))), (4, .one (.pv (.rp [(qa1799 p2)] 0 0))), (5, .one (.pv (.rp [(qa1800 p3)] 0 0))), (36, vb false), (37, .ag (qa1795 p2)), (38, .ag (qa1796 p3))] (qa1807 r2) ?_
        refine za (c_ref1_Compare BIG _ _ _ c15) (zg [7] 3 [3,4,5,42] (zt 42 b16 ?_))
        refine zv [7] 1 [3,4,5,42,43] [(qa1799 p2)] [(3, .one (.pv (.rp [(qa1798 p1)] 0 0))), (4, .one (.pv (.rp [(qa1799 p2)] 0 0))), (5, .one (.pv (.rp [(qa1800 p3)] 0 0))), (42, vb false), (43, .ag (qa1795 p2))] (qa1807 r2) (za (c_ref1_Sound _ _ c17) ?_)
        refine zg [7] 3 [3,4,5,47] (zt 47 b18 (zv [7] 1 [3,4,5,47,48] [(qa1800 p3)] [(3, .one (.pv (.rp [(qa1798 p1)] 0 0))), (4, .one (.pv (.rp [(qa1799 p2)] 0 0))), (5, .one (.pv (.rp [(qa1800 p3)] 0 0))), (47, vb false), (48, .ag (qa1796 p3))] (qa1807 r2) ?_))
        exact za (c_ref1_Sound _ _ c19) (zg [7] 2 [3,4,5,51] (zd (hJ1 (!r5) h _ _ (zk [3,4,5,51]))))


end Go.Proofs.YtmaemlebpjnmoaaDoor
