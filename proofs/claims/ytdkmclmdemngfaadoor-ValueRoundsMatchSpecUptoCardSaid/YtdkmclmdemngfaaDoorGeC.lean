/- Printed by a program: what the functions compute, and the proofs of their contracts. -/
import Derived.Test.YtdkmclmdemngfaaDoorGeB
namespace Go.Proofs.YtdkmclmdemngfaaDoor
open Go.SX Go
set_option linter.unusedVariables false
set_option linter.unusedSimpArgs false
set_option maxRecDepth 100000
set_option maxHeartbeats 8000000

def ref1_mulWide_j1 (rec1 : List Int → Int → Option RWide) (x1 : Int) (l3 : List Int) : Option RWide :=
    rec1 l3 (IntKind.i64.wrap (x1 + (1 : Int)))

def ref1_mulWide_l2 (rec1 : List Int → Int → Option RWide) (p2 : RWide) (x1 : Int) (e1 : Int) : Nat → List Int → Int → Option RWide
  | 0, _, _ => none
  | k2 + 1, l2, x2 =>
    ift (decide (x2 < (p2.d.length : Int)))
      (bnd (at? p2.d x2) fun e2 =>
       bnd (at? l2 (IntKind.i64.wrap (x1 + x2))) fun e3 =>
       (ref1_mulWide_l2 rec1 p2 x1 e1 k2) (l2.set (IntKind.i64.wrap (x1 + x2)).toNat (IntKind.i64.wrap (e3 + (IntKind.i64.wrap (e1 * e2))))) (IntKind.i64.wrap (x2 + (1 : Int))))
      (ref1_mulWide_j1 rec1 x1 l2)

def ref1_mulWide_j3 (p1 : RWide) (p2 : RWide) (l6 : List Int) : Option RWide :=
    bnd (ref1_cut (!(p1.below == p2.below)) l6) fun r1 =>
    some r1

def ref1_mulWide_l3 (p1 : RWide) (p2 : RWide) : Nat → List Int → Int → Option RWide
  | 0, _, _ => none
  | k3 + 1, l5, x3 =>
    bnd (some (decide ((IntKind.i64.wrap (x3 + (1 : Int))) < ((l5.length : Nat) : Int)))) fun y2 =>
    ift y2
      (bnd (at? l5 (IntKind.i64.wrap (x3 + (1 : Int)))) fun e4 =>
       bnd (at? l5 x3) fun e5 =>
       bnd (at? (l5.set (IntKind.i64.wrap (x3 + (1 : Int))).toNat (IntKind.i64.wrap (e4 + (IntKind.i64.wrap (e5.tdiv (10 : Int)))))) x3) fun e6 =>
       (ref1_mulWide_l3 p1 p2 k3) ((l5.set (IntKind.i64.wrap (x3 + (1 : Int))).toNat (IntKind.i64.wrap (e4 + (IntKind.i64.wrap (e5.tdiv (10 : Int)))))).set x3.toNat (e6.tmod (10 : Int))) (IntKind.i64.wrap (x3 + (1 : Int))))
      (ref1_mulWide_j3 p1 p2 l5)

def ref1_mulWide_j2 (p1 : RWide) (p2 : RWide) (l4 : List Int) : Option RWide :=
    ref1_mulWide_l3 p1 p2 BIG l4 (0 : Int)

def ref1_mulWide_l1 (p1 : RWide) (p2 : RWide) : Nat → List Int → Int → Option RWide
  | 0, _, _ => none
  | k1 + 1, l1, x1 =>
    ift (decide (x1 < (p1.d.length : Int)))
      (bnd (at? p1.d x1) fun e1 =>
       ref1_mulWide_l2 (ref1_mulWide_l1 p1 p2 k1) p2 x1 e1 BIG l1 (0 : Int))
      (ref1_mulWide_j2 p1 p2 l1)

def ref1_mulWide (p1 : RWide) (p2 : RWide) : Option RWide :=
    bnd (some (IntKind.i64.wrap ((IntKind.i64.wrap ((p1.d.length : Int) + (p2.d.length : Int))) + (1 : Int)))) fun y1 =>
    grd (0 ≤ y1 ∧ y1 ≤ y1 ∧ y1 ≤ 4294967296) <|
    ref1_mulWide_l1 p1 p2 BIG (List.replicate y1.toNat (0 : Int)) (0 : Int)

abbrev ref1_mulWide_a1 (p1 : RWide) : List PV := [.s (.bool p1.below), .ro (eI.els p1.d)]
abbrev ref1_mulWide_a2 (p2 : RWide) : List PV := [.s (.bool p2.below), .ro (eI.els p2.d)]
abbrev ref1_mulWide_a3 : List CV := [cb false, .pv (.s (.slice none 0 0))]

theorem c_ref1_mulWide (p1 : RWide) (p2 : RWide) (r : RWide) (h : ref1_mulWide p1 p2 = some r) : PC Tryd.prog 57 [.ag [cb p1.below, cl eI p1.d], .ag [cb p2.below, cl eI p2.d]] (.ag [cb r.below, cl eI r.d]) := by
 unfold ref1_mulWide at h
 refine PC.of (n := 81) (fn := Tryd.f57) (c := cd Tryd.f57 []) (by kernel_rfl) (by kernel_rfl) (by kernel_rfl) (Nat.le_of_ble_eq_true rfl) (zq fun K1 hK1 => zr (zg [4] 3 [2,3,4] (zd (hK1 _ _ (zq fun K2 hK2 => ?_)))))
 obtain ⟨y1, hy3, h⟩ := bnd_some h
 obtain ⟨g5, h⟩ := grd_some h
 refine zr (zp [4] 3 [2,3,4,13] [[.s (.bool p1.below), .ro (eI.els p1.d)]] [(2, .one (.pv (.rp [[.s (.bool p1.below), .ro (eI.els p1.d)]] 0 0))), (3, .one (.pv (.rp [[.s (.bool p2.below), .ro (eI.els p2.d)]] 0 0))), (4, .one (.pt 0 0 0 0)), (13, vi ((eI.els p1.d).length : Int))] [.box [cb false, .pv (.s (.slice none 0 0))]] [([[.s (.bool p1.below), .ro (eI.els p1.d)]] : List (List PV))[0]? = some [.s (.bool p1.below), .ro (eI.els p1.d)]] (⟨rfl, trivial⟩) ?_)
 rw [eI.len p1.d]
 refine zp [4] 3 [2,3,4,13,16] [[.s (.bool p2.below), .ro (eI.els p2.d)]] [(2, .one (.pv (.rp [[.s (.bool p1.below), .ro (eI.els p1.d)]] 0 0))), (3, .one (.pv (.rp [[.s (.bool p2.below), .ro (eI.els p2.d)]] 0 0))), (4, .one (.pt 0 0 0 0)), (13, vi (p1.d.length : Int)), (16, vi ((eI.els p2.d).length : Int))] [.box [cb false, .pv (.s (.slice none 0 0))]] [([[.s (.bool p2.below), .ro (eI.els p2.d)]] : List (List PV))[0]? = some [.s (.bool p2.below), .ro (eI.els p2.d)]] (⟨rfl, trivial⟩) ?_
 rw [eI.len p2.d]
 refine zp [4] 2 [2,3,4,18] [] [(2, .one (.pv (.rp [[.s (.bool p1.below), .ro (eI.els p1.d)]] 0 0))), (3, .one (.pv (.rp [[.s (.bool p2.below), .ro (eI.els p2.d)]] 0 0))), (4, .one (.pt 0 0 0 0)), (18, vi (IntKind.i64.wrap ((IntKind.i64.wrap ((p1.d.length : Int) + (p2.d.length : Int))) + (1 : Int))))] [.box [cb false, .pv (.s (.slice none 0 0))]] [] trivial ?_
 rw [show (IntKind.i64.wrap ((IntKind.i64.wrap ((p1.d.length : Int) + (p2.d.length : Int))) + (1 : Int))) = y1 from Option.some.inj hy3]
 refine zp [4] 1 [2,3,4,19] [] [(2, .one (.pv (.rp [[.s (.bool p1.below), .ro (eI.els p1.d)]] 0 0))), (3, .one (.pv (.rp [[.s (.bool p2.below), .ro (eI.els p2.d)]] 0 0))), (4, .one (.pt 0 0 0 0)), (19, .one (.sl 1 1 0 y1.toNat))] [.box [cb false, .pv (.s (.slice none 0 0))], .arr 1 (List.replicate y1.toNat [pi (0 : Int)])] [0 ≤ y1, y1 ≤ y1, y1 ≤ 4294967296] (⟨g5.1, g5.2.1, g5.2.2, trivial⟩) ?_
 rw [show List.replicate y1.toNat [pi (0 : Int)] = eI.els (List.replicate y1.toNat (0 : Int)) from eI.rep _ (0 : Int)]
 refine zg [4] 1 [2,3,4,5] (zd (hK2 _ _ (zq fun K6 hK6 => ?_)))
 have hJ2 : ∀ (l4 : List Int), ref1_mulWide_j2 p1 p2 l4 = some r → ∀ fr1 st1, Sub 81 0 [] fr1 st1 [(2, .one (.pv (.rp [(ref1_mulWide_a1 p1)] 0 0))), (3, .one (.pv (.rp [(ref1_mulWide_a2 p2)] 0 0))), (4, .one (.pt 0 0 0 0)), (5, .one (.sl 1 1 0 l4.length))] [.box ref1_mulWide_a3, .arr 1 (eI.els l4)] → K6 fr1 st1 := by
  intro l4 h fr1 st1 hS
  unfold ref1_mulWide_j2 at h
  refine hK6 _ _ (XW.sub hS ?_)
  refine zq fun K22 hK22 => ?_
  have hJ3 : ∀ (l6 : List Int), ref1_mulWide_j3 p1 p2 l6 = some r → ∀ fr1 st1, Sub 81 0 [] fr1 st1 [(2, .one (.pv (.rp [(ref1_mulWide_a1 p1)] 0 0))), (3, .one (.pv (.rp [(ref1_mulWide_a2 p2)] 0 0))), (4, .one (.pt 0 0 0 0)), (5, .one (.sl 1 1 0 l6.length))] [.box ref1_mulWide_a3, .arr 1 (eI.els l6)] → K22 fr1 st1 := by
   intro l6 h fr1 st1 hS
   unfold ref1_mulWide_j3 at h
   refine hK22 _ _ (XW.sub hS ?_)
   refine zq fun K33 hK33 => ?_
   obtain ⟨r1, c34, h⟩ := bnd_some h
   refine zr (zp [4] 6 [4,78,79] [(ref1_mulWide_a1 p1), (ref1_mulWide_a2 p2)] [(4, .one (.pt 0 0 0 0)), (78, vb (!(p1.below == p2.below))), (79, .one (.sl 1 1 0 l6.length))] [.box ref1_mulWide_a3, .arr 1 (eI.els l6)] [([(ref1_mulWide_a1 p1)] : List (List PV))[0]? = some (ref1_mulWide_a1 p1), ([(ref1_mulWide_a2 p2)] : List (List PV))[0]? = some (ref1_mulWide_a2 p2)] (⟨rfl, rfl, trivial⟩) ?_)
   refine XO.sub (Sub.kill (fr' := [(4, .one (.pt 0 0 0 0)), (78, vb (!(p1.below == p2.below))), (79, vl eI l6)]) 1 (Nat.zero_le _) (by kernel_rfl) ⟨.one (.rfl _ rfl), .one (.rfl _ rfl), .one (cf_sl eI l6 rfl rfl rfl), trivial⟩) (za (c_ref1_cut _ _ _ c34) (zg [4] 1 [4] (zd (hK33 _ _ (ze ?_)))))
   obtain rfl := Option.some.inj h
   exact zf [.ag [cb r1.below, cl eI r1.d]] (.ag (.cons (.rfl _ rfl) (.cons (.rfl _ rfl) .nil)))
  refine zq fun K23 hK23 => zr (zg [4] 1 [2,3,4,5,10] (zd (hK23 _ _ (zb 4 (XW.rounds' BIG (x := cd Tryd.f57 [1,1,1,0,1,0,0]) (by kernel_rfl) fun Q3 hQ3 => ?_)))))
  have hL3 : ∀ (k3 : Nat) (l5 : List Int) (x3 : Int), ref1_mulWide_l3 p1 p2 k3 l5 x3 = some r → XR Tryd.prog 81 0 [] (cd Tryd.f57 [1,1,1,0,1,0,0]) Q3 k3 [(2, .one (.pv (.rp [(ref1_mulWide_a1 p1)] 0 0))), (3, .one (.pv (.rp [(ref1_mulWide_a2 p2)] 0 0))), (4, .one (.pt 0 0 0 0)), (5, .one (.sl 1 1 0 l5.length)), (10, vi x3)] [.box ref1_mulWide_a3, .arr 1 (eI.els l5)] := by
   intro k3
   induction k3 with
   | zero => intro l5 x3 h; rw [ref1_mulWide_l3.eq_1] at h; cases h
   | succ k3 ih3 =>
    intro l5 x3 h
    rw [ref1_mulWide_l3.eq_2] at h
    refine zq fun K24 hK24 => zq fun K25 hK25 => ?_
    obtain ⟨y2, hy26, h⟩ := bnd_some h
    refine zr (zp [4] 5 [2,3,4,5,10,53] [] [(2, .one (.pv (.rp [[.s (.bool p1.below), .ro (eI.els p1.d)]] 0 0))), (3, .one (.pv (.rp [[.s (.bool p2.below), .ro (eI.els p2.d)]] 0 0))), (4, .one (.pt 0 0 0 0)), (5, .one (.sl 1 1 0 l5.length)), (10, vi x3), (53, vb (decide ((IntKind.i64.wrap (x3 + (1 : Int))) < ((l5.length : Nat) : Int))))] [.box [cb false, .pv (.s (.slice none 0 0))], .arr 1 (eI.els l5)] [] trivial ?_)
    rw [show (decide ((IntKind.i64.wrap (x3 + (1 : Int))) < ((l5.length : Nat) : Int))) = y2 from Option.some.inj hy26]
    refine zd (hK25 _ _ (zc y2 (fun b27 => ?_) (fun b27 => ?_)))
    ·have h := ift_t b27 h
     refine zs (hK24 _ _ (zq fun K28 hK28 => zb 5 (zq fun K29 hK29 => ?_)))
     obtain ⟨e4, a30, h⟩ := bnd_some h
     obtain ⟨e5, a31, h⟩ := bnd_some h
     refine zw 10 [(65, vi (IntKind.i64.wrap (e5.tdiv (10 : Int)))), (64, vi e5), (63, .one (.pt 1 1 (0 + x3.toNat) 0)), (62, vi x3), (61, .one (.sl 1 1 0 l5.length)), (60, vi e4), (59, .one (.pt 1 1 (0 + (IntKind.i64.wrap (x3 + (1 : Int))).toNat) 0)), (58, vi (IntKind.i64.wrap (x3 + (1 : Int)))), (57, vi x3), (56, .one (.sl 1 1 0 l5.length)), (2, .one (.pv (.rp [(ref1_mulWide_a1 p1)] 0 0))), (3, .one (.pv (.rp [(ref1_mulWide_a2 p2)] 0 0))), (4, .one (.pt 0 0 0 0)), (5, .one (.sl 1 1 0 l5.length)), (10, vi x3), (53, vb y2)] ?_ ?_
     ·exact zyo 10 [[pi e4], [pi e5]] [0 ≤ (IntKind.i64.wrap (x3 + (1 : Int))) ∧ (IntKind.i64.wrap (x3 + (1 : Int))) < ((l5.length : Nat) : Int), (eI.els l5)[(0 + (IntKind.i64.wrap (x3 + (1 : Int))).toNat)]? = some [pi e4], 0 ≤ x3 ∧ x3 < ((l5.length : Nat) : Int), (eI.els l5)[(0 + x3.toNat)]? = some [pi e5], (10 : Int) ≠ 0] (⟨Enc.inb' a30, (eI.get0 a30), Enc.inb' a31, (eI.get0 a31), by decide, trivial⟩) zyd
     refine zp [4] 3 [2,3,4,5,10] [[pi e4]] [(2, .one (.pv (.rp [[.s (.bool p1.below), .ro (eI.els p1.d)]] 0 0))), (3, .one (.pv (.rp [[.s (.bool p2.below), .ro (eI.els p2.d)]] 0 0))), (4, .one (.pt 0 0 0 0)), (5, .one (.sl 1 1 0 l5.length)), (10, vi x3)] [.box [cb false, .pv (.s (.slice none 0 0))], .arr 1 ((eI.els l5).set (0 + (IntKind.i64.wrap (x3 + (1 : Int))).toNat) [pi (IntKind.i64.wrap (e4 + (IntKind.i64.wrap (e5.tdiv (10 : Int)))))])] [0 ≤ (IntKind.i64.wrap (x3 + (1 : Int))) ∧ (IntKind.i64.wrap (x3 + (1 : Int))) < ((l5.length : Nat) : Int), (eI.els l5)[(0 + (IntKind.i64.wrap (x3 + (1 : Int))).toNat)]? = some [pi e4]] (⟨Enc.inb' a30, (eI.get0 a30), trivial⟩) ?_
     rw [show (eI.els l5).set (0 + (IntKind.i64.wrap (x3 + (1 : Int))).toNat) [pi (IntKind.i64.wrap (e4 + (IntKind.i64.wrap (e5.tdiv (10 : Int)))))] = eI.els (l5.set (IntKind.i64.wrap (x3 + (1 : Int))).toNat (IntKind.i64.wrap (e4 + (IntKind.i64.wrap (e5.tdiv (10 : Int)))))) from eI.set0 _ _ (IntKind.i64.wrap (e4 + (IntKind.i64.wrap (e5.tdiv (10 : Int)))))]
     refine zd (hK29 _ _ ?_)
     obtain ⟨e6, a32, h⟩ := bnd_some h
     refine zr ?_
     refine zp [4] 7 [2,3,4,5,10] [[pi e6], [pi e6]] [(2, .one (.pv (.rp [[.s (.bool p1.below), .ro (eI.els p1.d)]] 0 0))), (3, .one (.pv (.rp [[.s (.bool p2.below), .ro (eI.els p2.d)]] 0 0))), (4, .one (.pt 0 0 0 0)), (5, .one (.sl 1 1 0 l5.length)), (10, vi x3)] [.box [cb false, .pv (.s (.slice none 0 0))], .arr 1 ((eI.els (l5.set (IntKind.i64.wrap (x3 + (1 : Int))).toNat (IntKind.i64.wrap (e4 + (IntKind.i64.wrap (e5.tdiv (10 : Int))))))).set (0 + x3.toNat) [pi (e6.tmod (10 : Int))])] [0 ≤ x3 ∧ x3 < ((l5.length : Nat) : Int), (eI.els (l5.set (IntKind.i64.wrap (x3 + (1 : Int))).toNat (IntKind.i64.wrap (e4 + (IntKind.i64.wrap (e5.tdiv (10 : Int)))))))[(0 + x3.toNat)]? = some [pi e6], (10 : Int) ≠ 0, 0 ≤ x3 ∧ x3 < ((l5.length : Nat) : Int), (eI.els (l5.set (IntKind.i64.wrap (x3 + (1 : Int))).toNat (IntKind.i64.wrap (e4 + (IntKind.i64.wrap (e5.tdiv (10 : Int)))))))[(0 + x3.toNat)]? = some [pi e6]] (⟨(by have := Enc.inb' a32; simpa using this), (eI.get0 a32), by decide, (by have := Enc.inb' a32; simpa using this), (eI.get0 a32), trivial⟩) ?_
     rw [show (eI.els (l5.set (IntKind.i64.wrap (x3 + (1 : Int))).toNat (IntKind.i64.wrap (e4 + (IntKind.i64.wrap (e5.tdiv (10 : Int))))))).set (0 + x3.toNat) [pi (e6.tmod (10 : Int))] = eI.els ((l5.set (IntKind.i64.wrap (x3 + (1 : Int))).toNat (IntKind.i64.wrap (e4 + (IntKind.i64.wrap (e5.tdiv (10 : Int)))))).set x3.toNat (e6.tmod (10 : Int))) from eI.set0 _ _ (e6.tmod (10 : Int))]
     refine zd (hK28 _ _ (zr (zg [4] 3 [2,3,4,5,10] (zd ?_))))
     exact XR.sub (Sub.trans (Sub.pick (fr' := [(2, .one (.pv (.rp [[.s (.bool p1.below), .ro (eI.els p1.d)]] 0 0))), (3, .one (.pv (.rp [[.s (.bool p2.below), .ro (eI.els p2.d)]] 0 0))), (4, .one (.pt 0 0 0 0)), (5, .one (.sl 1 1 0 l5.length)), (10, vi (IntKind.i64.wrap (x3 + (1 : Int))))]) [2,3,4,5,10] (by kernel_rfl)) (Sub.frame (fr' := [(2, .one (.pv (.rp [[.s (.bool p1.below), .ro (eI.els p1.d)]] 0 0))), (3, .one (.pv (.rp [[.s (.bool p2.below), .ro (eI.els p2.d)]] 0 0))), (4, .one (.pt 0 0 0 0)), (5, .one (.sl 1 1 0 ((l5.set (IntKind.i64.wrap (x3 + (1 : Int))).toNat (IntKind.i64.wrap (e4 + (IntKind.i64.wrap (e5.tdiv (10 : Int)))))).set x3.toNat (e6.tmod (10 : Int))).length)), (10, vi (IntKind.i64.wrap (x3 + (1 : Int))))]) ⟨.rfl _, .rfl _, .rfl _, ALe.of_eq (show (.one (.sl 1 1 0 l5.length) : AV) = .one (.sl 1 1 0 ((l5.set (IntKind.i64.wrap (x3 + (1 : Int))).toNat (IntKind.i64.wrap (e4 + (IntKind.i64.wrap (e5.tdiv (10 : Int)))))).set x3.toNat (e6.tmod (10 : Int))).length) from by simp), .rfl _, trivial⟩)) (ih3 ((l5.set (IntKind.i64.wrap (x3 + (1 : Int))).toNat (IntKind.i64.wrap (e4 + (IntKind.i64.wrap (e5.tdiv (10 : Int)))))).set x3.toNat (e6.tmod (10 : Int))) (IntKind.i64.wrap (x3 + (1 : Int))) h)
    ·have h := ift_f b27 h
     exact zx 4 (hQ3 _ _ _ (hJ3 l5 h _ _ (zk [2,3,4,5])))
  exact XR.sub (zk [2,3,4,5,10]) (hL3 BIG l4 (0 : Int) h)
 refine zq fun K7 hK7 => zr (zp [4] 3 [2,3,4,5,21,22] [[.s (.bool p1.below), .ro (eI.els p1.d)]] [(2, .one (.pv (.rp [[.s (.bool p1.below), .ro (eI.els p1.d)]] 0 0))), (3, .one (.pv (.rp [[.s (.bool p2.below), .ro (eI.els p2.d)]] 0 0))), (4, .one (.pt 0 0 0 0)), (5, .one (.sl 1 1 0 y1.toNat)), (21, vl eI p1.d), (22, vi ((eI.els p1.d).length : Int))] [.box [cb false, .pv (.s (.slice none 0 0))], .arr 1 (eI.els (List.replicate y1.toNat (0 : Int)))] [([[.s (.bool p1.below), .ro (eI.els p1.d)]] : List (List PV))[0]? = some [.s (.bool p1.below), .ro (eI.els p1.d)]] (⟨rfl, trivial⟩) ?_)
 rw [eI.len p1.d]
 refine zg [4] 1 [2,3,4,5,21,22,23] (zd (hK7 _ _ (zb 0 (XW.rounds' BIG (x := cd Tryd.f57 [1,1,0,1,0,0]) (by kernel_rfl) fun Q1 hQ1 => ?_))))
 have hL1 : ∀ (k1 : Nat) (l1 : List Int) (x1 : Int), ref1_mulWide_l1 p1 p2 k1 l1 x1 = some r → XR Tryd.prog 81 0 [] (cd Tryd.f57 [1,1,0,1,0,0]) Q1 k1 [(2, .one (.pv (.rp [(ref1_mulWide_a1 p1)] 0 0))), (3, .one (.pv (.rp [(ref1_mulWide_a2 p2)] 0 0))), (4, .one (.pt 0 0 0 0)), (5, .one (.sl 1 1 0 l1.length)), (21, vl eI p1.d), (22, vi (p1.d.length : Int)), (23, vi x1)] [.box ref1_mulWide_a3, .arr 1 (eI.els l1)] := by
  intro k1
  induction k1 with
  | zero => intro l1 x1 h; rw [ref1_mulWide_l1.eq_1] at h; cases h
  | succ k1 ih1 =>
   intro l1 x1 h
   rw [ref1_mulWide_l1.eq_2] at h
   refine zq fun K8 hK8 => zr (zg [4] 1 [2,3,4,5,21,22,23,24] (zd (hK8 _ _ (zq fun K9 hK9 => zc (decide (x1 < (p1.d.length : Int))) (fun b10 => ?_) (fun b10 => ?_)))))
   ·have h := ift_t b10 h
    refine zs (hK9 _ _ (zq fun K11 hK11 => ?_))
    have hJ1 : ∀ (l3 : List Int), ref1_mulWide_j1 (ref1_mulWide_l1 p1 p2 k1) x1 l3 = some r → ∀ fr1 st1, Sub 81 0 [] fr1 st1 [(2, .one (.pv (.rp [(ref1_mulWide_a1 p1)] 0 0))), (3, .one (.pv (.rp [(ref1_mulWide_a2 p2)] 0 0))), (4, .one (.pt 0 0 0 0)), (5, .one (.sl 1 1 0 l3.length)), (21, vl eI p1.d), (22, vi (p1.d.length : Int)), (23, vi x1)] [.box ref1_mulWide_a3, .arr 1 (eI.els l3)] → K11 fr1 st1 := by
     intro l3 h fr1 st1 hS
     unfold ref1_mulWide_j1 at h
     refine hK11 _ _ (XW.sub hS ?_)
     exact zr (zg [4] 2 [2,3,4,5,21,22,23] (zd (XR.sub (zk [2,3,4,5,21,22,23]) (ih1 l3 (IntKind.i64.wrap (x1 + (1 : Int))) h))))
    refine zb 1 (zq fun K12 hK12 => ?_)
    obtain ⟨e1, a13, h⟩ := bnd_some h
    refine zr (zo [4] 5 [2,3,4,5,6,7,21,22,23] [[pi e1]] [0 ≤ x1 ∧ x1 < ((eI.els p1.d).length : Int) ∧ elemsOk 1 (eI.els p1.d), (eI.els p1.d)[x1.toNat]? = some [pi e1]] (⟨eI.inb a13, (eI.get a13), trivial⟩) (zd (hK12 _ _ (zq fun K14 hK14 => zr ?_))))
    refine zp [4] 3 [2,3,4,5,6,7,21,22,23,29,30] [[.s (.bool p2.below), .ro (eI.els p2.d)]] [(2, .one (.pv (.rp [[.s (.bool p1.below), .ro (eI.els p1.d)]] 0 0))), (3, .one (.pv (.rp [[.s (.bool p2.below), .ro (eI.els p2.d)]] 0 0))), (4, .one (.pt 0 0 0 0)), (5, .one (.sl 1 1 0 l1.length)), (6, vi x1), (7, vi e1), (21, vl eI p1.d), (22, vi (p1.d.length : Int)), (23, vi x1), (29, vl eI p2.d), (30, vi ((eI.els p2.d).length : Int))] [.box [cb false, .pv (.s (.slice none 0 0))], .arr 1 (eI.els l1)] [([[.s (.bool p2.below), .ro (eI.els p2.d)]] : List (List PV))[0]? = some [.s (.bool p2.below), .ro (eI.els p2.d)]] (⟨rfl, trivial⟩) ?_
    rw [eI.len p2.d]
    refine zg [4] 1 [2,3,4,5,6,7,21,22,23,29,30,31] (zd (hK14 _ _ (zb 2 (XW.rounds' BIG (x := cd Tryd.f57 [1,1,0,1,0,0,1,1,0,0,1,1,0,0]) (by kernel_rfl) fun Q2 hQ2 => ?_))))
    have hL2 : ∀ (k2 : Nat) (l2 : List Int) (x2 : Int), ref1_mulWide_l2 (ref1_mulWide_l1 p1 p2 k1) p2 x1 e1 k2 l2 x2 = some r → XR Tryd.prog 81 0 [] (cd Tryd.f57 [1,1,0,1,0,0,1,1,0,0,1,1,0,0]) Q2 k2 [(2, .one (.pv (.rp [(ref1_mulWide_a1 p1)] 0 0))), (3, .one (.pv (.rp [(ref1_mulWide_a2 p2)] 0 0))), (4, .one (.pt 0 0 0 0)), (5, .one (.sl 1 1 0 l2.length)), (6, vi x1), (7, vi e1), (21, vl eI p1.d), (22, vi (p1.d.length : Int)), (23, vi x1), (29, vl eI p2.d), (30, vi (p2.d.length : Int)), (31, vi x2)] [.box ref1_mulWide_a3, .arr 1 (eI.els l2)] := by
     intro k2
     induction k2 with
     | zero => intro l2 x2 h; rw [ref1_mulWide_l2.eq_1] at h; cases h
     | succ k2 ih2 =>
      intro l2 x2 h
      rw [ref1_mulWide_l2.eq_2] at h
      refine zq fun K15 hK15 => zr (zg [4] 1 [2,3,4,5,6,7,21,22,23,29,30,31,32] (zd (hK15 _ _ (zq fun K16 hK16 => zc (decide (x2 < (p2.d.length : Int))) (fun b17 => ?_) (fun b17 => ?_)))))
      ·have h := ift_t b17 h
       refine zs (hK16 _ _ (zq fun K18 hK18 => zb 3 (zq fun K19 hK19 => ?_)))
       obtain ⟨e2, a20, h⟩ := bnd_some h
       refine zr (zo [4] 5 [2,3,4,5,6,7,8,9,21,22,23,29,30,31] [[pi e2]] [0 ≤ x2 ∧ x2 < ((eI.els p2.d).length : Int) ∧ elemsOk 1 (eI.els p2.d), (eI.els p2.d)[x2.toNat]? = some [pi e2]] (⟨eI.inb a20, (eI.get a20), trivial⟩) (zd (hK19 _ _ ?_)))
       obtain ⟨e3, a21, h⟩ := bnd_some h
       refine zr ?_
       refine zp [4] 12 [2,3,4,5,6,7,21,22,23,29,30,31] [[pi e3], [pi e3]] [(2, .one (.pv (.rp [[.s (.bool p1.below), .ro (eI.els p1.d)]] 0 0))), (3, .one (.pv (.rp [[.s (.bool p2.below), .ro (eI.els p2.d)]] 0 0))), (4, .one (.pt 0 0 0 0)), (5, .one (.sl 1 1 0 l2.length)), (6, vi x1), (7, vi e1), (21, vl eI p1.d), (22, vi (p1.d.length : Int)), (23, vi x1), (29, vl eI p2.d), (30, vi (p2.d.length : Int)), (31, vi x2)] [.box [cb false, .pv (.s (.slice none 0 0))], .arr 1 ((eI.els l2).set (0 + (IntKind.i64.wrap (x1 + x2)).toNat) [pi (IntKind.i64.wrap (e3 + (IntKind.i64.wrap (e1 * e2))))])] [0 ≤ (IntKind.i64.wrap (x1 + x2)) ∧ (IntKind.i64.wrap (x1 + x2)) < ((l2.length : Nat) : Int), (eI.els l2)[(0 + (IntKind.i64.wrap (x1 + x2)).toNat)]? = some [pi e3], 0 ≤ (IntKind.i64.wrap (x1 + x2)) ∧ (IntKind.i64.wrap (x1 + x2)) < ((l2.length : Nat) : Int), (eI.els l2)[(0 + (IntKind.i64.wrap (x1 + x2)).toNat)]? = some [pi e3]] (⟨Enc.inb' a21, (eI.get0 a21), Enc.inb' a21, (eI.get0 a21), trivial⟩) ?_
       rw [show (eI.els l2).set (0 + (IntKind.i64.wrap (x1 + x2)).toNat) [pi (IntKind.i64.wrap (e3 + (IntKind.i64.wrap (e1 * e2))))] = eI.els (l2.set (IntKind.i64.wrap (x1 + x2)).toNat (IntKind.i64.wrap (e3 + (IntKind.i64.wrap (e1 * e2))))) from eI.set0 _ _ (IntKind.i64.wrap (e3 + (IntKind.i64.wrap (e1 * e2))))]
       refine zd (hK18 _ _ (zr (zg [4] 2 [2,3,4,5,6,7,21,22,23,29,30,31] (zd ?_))))
       exact XR.sub (Sub.trans (Sub.pick (fr' := [(2, .one (.pv (.rp [[.s (.bool p1.below), .ro (eI.els p1.d)]] 0 0))), (3, .one (.pv (.rp [[.s (.bool p2.below), .ro (eI.els p2.d)]] 0 0))), (4, .one (.pt 0 0 0 0)), (5, .one (.sl 1 1 0 l2.length)), (6, vi x1), (7, vi e1), (21, vl eI p1.d), (22, vi (p1.d.length : Int)), (23, vi x1), (29, vl eI p2.d), (30, vi (p2.d.length : Int)), (31, vi (IntKind.i64.wrap (x2 + (1 : Int))))]) [2,3,4,5,6,7,21,22,23,29,30,31] (by kernel_rfl)) (Sub.frame (fr' := [(2, .one (.pv (.rp [[.s (.bool p1.below), .ro (eI.els p1.d)]] 0 0))), (3, .one (.pv (.rp [[.s (.bool p2.below), .ro (eI.els p2.d)]] 0 0))), (4, .one (.pt 0 0 0 0)), (5, .one (.sl 1 1 0 (l2.set (IntKind.i64.wrap (x1 + x2)).toNat (IntKind.i64.wrap (e3 + (IntKind.i64.wrap (e1 * e2))))).length)), (6, vi x1), (7, vi e1), (21, vl eI p1.d), (22, vi (p1.d.length : Int)), (23, vi x1), (29, vl eI p2.d), (30, vi (p2.d.length : Int)), (31, vi (IntKind.i64.wrap (x2 + (1 : Int))))]) ⟨.rfl _, .rfl _, .rfl _, ALe.of_eq (show (.one (.sl 1 1 0 l2.length) : AV) = .one (.sl 1 1 0 (l2.set (IntKind.i64.wrap (x1 + x2)).toNat (IntKind.i64.wrap (e3 + (IntKind.i64.wrap (e1 * e2))))).length) from by simp), .rfl _, .rfl _, .rfl _, .rfl _, .rfl _, .rfl _, .rfl _, .rfl _, trivial⟩)) (ih2 (l2.set (IntKind.i64.wrap (x1 + x2)).toNat (IntKind.i64.wrap (e3 + (IntKind.i64.wrap (e1 * e2))))) (IntKind.i64.wrap (x2 + (1 : Int))) h)
      ·have h := ift_f b17 h
       exact zx 2 (hQ2 _ _ _ (hJ1 l2 h _ _ (zk [2,3,4,5,21,22,23])))
    exact XR.sub (zk [2,3,4,5,6,7,21,22,23,29,30,31]) (hL2 BIG l1 (0 : Int) h)
   ·have h := ift_f b10 h
    exact zx 0 (hQ1 _ _ _ (hJ2 l1 h _ _ (zk [2,3,4,5])))
 exact XR.sub (Sub.trans (Sub.pick (fr' := [(2, .one (.pv (.rp [[.s (.bool p1.below), .ro (eI.els p1.d)]] 0 0))), (3, .one (.pv (.rp [[.s (.bool p2.below), .ro (eI.els p2.d)]] 0 0))), (4, .one (.pt 0 0 0 0)), (5, .one (.sl 1 1 0 y1.toNat)), (21, vl eI p1.d), (22, vi (p1.d.length : Int)), (23, vi (0 : Int))]) [2,3,4,5,21,22,23] (by kernel_rfl)) (Sub.frame (fr' := [(2, .one (.pv (.rp [[.s (.bool p1.below), .ro (eI.els p1.d)]] 0 0))), (3, .one (.pv (.rp [[.s (.bool p2.below), .ro (eI.els p2.d)]] 0 0))), (4, .one (.pt 0 0 0 0)), (5, .one (.sl 1 1 0 (List.replicate y1.toNat (0 : Int)).length)), (21, vl eI p1.d), (22, vi (p1.d.length : Int)), (23, vi (0 : Int))]) ⟨.rfl _, .rfl _, .rfl _, ALe.of_eq (show (.one (.sl 1 1 0 y1.toNat) : AV) = .one (.sl 1 1 0 (List.replicate y1.toNat (0 : Int)).length) from by simp), .rfl _, .rfl _, .rfl _, trivial⟩)) (hL1 BIG (List.replicate y1.toNat (0 : Int)) (0 : Int) h)

def ref1_Round_j2 (p1 : GValue) (x2 : Int) : Option GValue :=
    bnd (ref1_wideOf (1 : Int)) fun r8 =>
    bnd (ref1_tens r8 x2) fun r9 =>
    bnd (ref1_wideOf p1.n) fun r10 =>
    bnd (ref1_tens r9 p1.scale) fun r11 =>
    bnd (ref1_even r10 r11) fun r12 =>
    bnd (ref1_mulWide r12 r9) fun r13 =>
    bnd (ref1_number p1.kind r13 (0 : Int)) fun r14 =>
    some r14

def ref1_Round_j1 (p1 : GValue) (p2 : Int) (x1 : Bool) : Option GValue :=
    ift x1
      (some (GValue.mk (0 : Int) (0 : Int) (0 : Int) ByteArray.empty []))
      (ift (decide (p1.scale ≤ p2))
         (some p1)
         (ift (decide ((0 : Int) ≤ p2))
            (bnd (ref1_wideOf p1.n) fun r3 =>
             bnd (ref1_wideOf (1 : Int)) fun r4 =>
             bnd (ref1_tens r4 (IntKind.i64.wrap (p1.scale - p2))) fun r5 =>
             bnd (ref1_even r3 r5) fun r6 =>
             bnd (ref1_number p1.kind r6 p2) fun r7 =>
             some r7)
            (ift (decide ((-40 : Int) < p2))
               (ref1_Round_j2 p1 (IntKind.i64.wrap (0 - p2)))
               (ref1_Round_j2 p1 (40 : Int)))))

def ref1_Round (p1 : GValue) (p2 : Int) : Option GValue :=
    bnd (ref1_isNumber p1.kind) fun r1 =>
    ift (!r1)
      (ref1_Round_j1 p1 p2 true)
      (bnd (ref1_Sound p1) fun r2 =>
       ref1_Round_j1 p1 p2 (!r2))

abbrev ref1_Round_a1 (p1 : GValue) : List CV := [ci p1.kind, ci p1.n, ci p1.scale, cst p1.s, cl eValue p1.items]
abbrev ref1_Round_a2 (p1 : GValue) : List PV := [pi p1.kind, pi p1.n, pi p1.scale, .s (.string p1.s), .ro (eValue.els p1.items)]
abbrev ref1_Round_a3 : List CV := [ci (0 : Int), ci (0 : Int), ci (0 : Int), cst ByteArray.empty, .pv (.s (.slice none 0 0))]

theorem c_ref1_Round (p1 : GValue) (p2 : Int) (r : GValue) (h : ref1_Round p1 p2 = some r) : PC Tryd.prog 21 [.ag (ref1_Round_a1 p1), vi p2] (.ag [ci r.kind, ci r.n, ci r.scale, cst r.s, cl eValue r.items]) := by
 unfold ref1_Round at h
 refine PC.of (n := 58) (fn := Tryd.f21) (c := cd Tryd.f21 []) (by kernel_rfl) (by kernel_rfl) (by kernel_rfl) (Nat.le_of_ble_eq_true rfl) (zq fun K1 hK1 => zr (zg [4, 6] 2 [1,2,4] (zd (hK1 _ _ (zq fun K2 hK2 => zq fun K3 hK3 => ?_)))))
 have hJ1 : ∀ (x1 : Bool), ref1_Round_j1 p1 p2 x1 = some r → ∀ fr1 st1, Sub 58 0 [] fr1 st1 [(1, vi p2), (2, .one (.pv (.rp [(ref1_Round_a2 p1)] 0 0))), (4, .one (.pt 0 0 0 0)), (15, vb x1)] [.box ref1_Round_a3] → K3 fr1 st1 := by
  intro x1 h fr1 st1 hS
  unfold ref1_Round_j1 at h
  refine hK3 _ _ (XW.sub hS ?_)
  refine zc x1 (fun b7 => ?_) (fun b7 => ?_)
  ·have h := ift_t b7 h
   refine zq fun K8 hK8 => zr (zg [4, 6] 2 [4] (zd (hK8 _ _ (ze ?_))))
   obtain rfl := Option.some.inj h
   exact zf [.ag ref1_Round_a3] (.ag (.cons (.rfl _ rfl) (.cons (.rfl _ rfl) (.cons (.rfl _ rfl) (.cons (.rfl _ rfl) (.cons (.nl) .nil))))))
  ·have h := ift_f b7 h
   refine zs (hK2 _ _ (zq fun K9 hK9 => zq fun K10 hK10 => zr (zo [4, 6] 4 [1,2,4,20] [(ref1_Round_a2 p1)] [([(ref1_Round_a2 p1)] : List (List PV))[0]? = some (ref1_Round_a2 p1)] (⟨rfl, trivial⟩) (zd (hK10 _ _ ?_)))))
   refine zc (decide (p1.scale ≤ p2)) (fun b11 => ?_) (fun b11 => ?_)
   ·have h := ift_t b11 h
    refine zq fun K12 hK12 => zr (zp [4, 6] 2 [4] [(ref1_Round_a2 p1)] [(4, .one (.pt 0 0 0 0))] [.box (ref1_Round_a1 p1)] [([(ref1_Round_a2 p1)] : List (List PV))[0]? = some (ref1_Round_a2 p1)] (⟨rfl, trivial⟩) (zd (hK12 _ _ (ze ?_))))
    obtain rfl := Option.some.inj h
    exact zf [.ag (ref1_Round_a1 p1)] (.ag (.cons (.rfl _ rfl) (.cons (.rfl _ rfl) (.cons (.rfl _ rfl) (.cons (.rfl _ rfl) (.cons (.rfl _ rfl) .nil))))))
   ·have h := ift_f b11 h
    refine zs (hK9 _ _ (zq fun K13 hK13 => zq fun K14 hK14 => zr (zg [4, 6] 2 [1,2,4,23] (zd (hK14 _ _ ?_)))))
    refine zc (decide ((0 : Int) ≤ p2)) (fun b15 => ?_) (fun b15 => ?_)
    ·have h := ift_t b15 h
     refine zq fun K16 hK16 => ?_
     obtain ⟨r3, c17, h⟩ := bnd_some h
     obtain ⟨r4, c18, h⟩ := bnd_some h
     obtain ⟨r5, c19, h⟩ := bnd_some h
     obtain ⟨r6, c20, h⟩ := bnd_some h
     obtain ⟨r7, c21, h⟩ := bnd_some h
     refine zw 13 [(36, vi p2), (35, .ag [cb r6.below, cl eI r6.d]), (34, .ag [cb r5.below, cl eI r5.d]), (33, vi (IntKind.i64.wrap (p1.scale - p2))), (32, vi p2), (31, vi p1.scale), (30, .one (.pv (.rp [(ref1_Round_a2 p1)] 0 2))), (29, .ag [cb r4.below, cl eI r4.d]), (28, .ag [cb r3.below, cl eI r3.d]), (27, vi p1.n), (26, .one (.pv (.rp [(ref1_Round_a2 p1)] 0 1))), (25, vi p1.kind), (24, .one (.pv (.rp [(ref1_Round_a2 p1)] 0 0))), (1, vi p2), (2, .one (.pv (.rp [(ref1_Round_a2 p1)] 0 0))), (4, .one (.pt 0 0 0 0)), (23, vb (decide ((0 : Int) ≤ p2)))] ?_ ?_
     ·refine zyo 4 [(ref1_Round_a2 p1), (ref1_Round_a2 p1)] [([(ref1_Round_a2 p1)] : List (List PV))[0]? = some (ref1_Round_a2 p1), ([(ref1_Round_a2 p1)] : List (List PV))[0]? = some (ref1_Round_a2 p1)] (⟨rfl, rfl, trivial⟩) ?_
      refine DX.cal 55 [vi p1.n] (.ag [cb r3.below, cl eI r3.d]) [(28, .ag [cb r3.below, cl eI r3.d]), (27, vi p1.n), (26, .one (.pv (.rp [(ref1_Round_a2 p1)] 0 1))), (25, vi p1.kind), (24, .one (.pv (.rp [(ref1_Round_a2 p1)] 0 0))), (1, vi p2), (2, .one (.pv (.rp [(ref1_Round_a2 p1)] 0 0))), (4, .one (.pt 0 0 0 0)), (23, vb (decide ((0 : Int) ≤ p2)))] (by kernel_rfl) (c_ref1_wideOf _ _ c17) rfl rfl (by kernel_rfl) ?_
      refine zya (c_ref1_wideOf _ _ c18) (zyo 4 [(ref1_Round_a2 p1)] [([(ref1_Round_a2 p1)] : List (List PV))[0]? = some (ref1_Round_a2 p1)] (⟨rfl, trivial⟩) ?_)
      refine DX.cal 56 [.ag [cb r4.below, cl eI r4.d], vi (IntKind.i64.wrap (p1.scale - p2))] (.ag [cb r5.below, cl eI r5.d]) [(34, .ag [cb r5.below, cl eI r5.d]), (33, vi (IntKind.i64.wrap (p1.scale - p2))), (32, vi p2), (31, vi p1.scale), (30, .one (.pv (.rp [(ref1_Round_a2 p1)] 0 2))), (29, .ag [cb r4.below, cl eI r4.d]), (28, .ag [cb r3.below, cl eI r3.d]), (27, vi p1.n), (26, .one (.pv (.rp [(ref1_Round_a2 p1)] 0 1))), (25, vi p1.kind), (24, .one (.pv (.rp [(ref1_Round_a2 p1)] 0 0))), (1, vi p2), (2, .one (.pv (.rp [(ref1_Round_a2 p1)] 0 0))), (4, .one (.pt 0 0 0 0)), (23, vb (decide ((0 : Int) ≤ p2)))] (by kernel_rfl) (c_ref1_tens _ _ _ c19) rfl rfl (by kernel_rfl) ?_
      exact zya (c_ref1_even _ _ _ c20) (zyg 1 zyd)
     refine za (c_ref1_number _ _ _ _ c21) (zp [4, 6] 1 [4] [] [(4, .one (.pt 0 0 0 0))] [.box [ci r7.kind, ci r7.n, ci r7.scale, cst r7.s, cl eValue r7.items]] [] trivial (zd (hK16 _ _ (ze ?_))))
     obtain rfl := Option.some.inj h
     exact zf [.ag [ci r7.kind, ci r7.n, ci r7.scale, cst r7.s, cl eValue r7.items]] (.ag (.cons (.rfl _ rfl) (.cons (.rfl _ rfl) (.cons (.rfl _ rfl) (.cons (.rfl _ rfl) (.cons (.rfl _ rfl) .nil))))))
    ·have h := ift_f b15 h
     refine zs (hK13 _ _ (zq fun K22 hK22 => zr (zg [4, 6] 1 [1,2,4,5] (zd (hK22 _ _ (zq fun K23 hK23 => ?_))))))
     have hJ2 : ∀ (x2 : Int), ref1_Round_j2 p1 x2 = some r → ∀ fr1 st1, Sub 58 0 [] fr1 st1 [(2, .one (.pv (.rp [(ref1_Round_a2 p1)] 0 0))), (4, .one (.pt 0 0 0 0)), (5, vi x2)] [.box ref1_Round_a3] → K23 fr1 st1 := by
      intro x2 h fr1 st1 hS
      unfold ref1_Round_j2 at h
      refine hK23 _ _ (XW.sub hS ?_)
      refine zq fun K26 hK26 => ?_
      obtain ⟨r8, c27, h⟩ := bnd_some h
      obtain ⟨r9, c28, h⟩ := bnd_some h
      refine zr (za (c_ref1_wideOf _ _ c27) (zg [4, 6] 1 [2,4,42,43] (XO.cal 56 [.ag [cb r8.below, cl eI r8.d], vi x2] (.ag [cb r9.below, cl eI r9.d]) [(44, .ag [cb r9.below, cl eI r9.d]), (2, .one (.pv (.rp [(ref1_Round_a2 p1)] 0 0))), (4, .one (.pt 0 0 0 0)), (42, .ag [cb r8.below, cl eI r8.d]), (43, vi x2)] (by kernel_rfl) (c_ref1_tens _ _ _ c28) rfl rfl (by kernel_rfl) (zg [4, 6] 2 [2,4,6] (zd (hK26 _ _ (zq fun K29 hK29 => ?_)))))))
      obtain ⟨r10, c30, h⟩ := bnd_some h
      obtain ⟨r11, c31, h⟩ := bnd_some h
      obtain ⟨r12, c32, h⟩ := bnd_some h
      obtain ⟨r13, c33, h⟩ := bnd_some h
      obtain ⟨r14, c34, h⟩ := bnd_some h
      refine zw 12 [(56, .ag [cb r13.below, cl eI r13.d]), (55, .ag [cb r9.below, cl eI r9.d]), (54, .ag [cb r12.below, cl eI r12.d]), (53, .ag [cb r11.below, cl eI r11.d]), (52, vi p1.scale), (51, .one (.pv (.rp [(ref1_Round_a2 p1)] 0 2))), (50, .ag [cb r9.below, cl eI r9.d]), (49, .ag [cb r10.below, cl eI r10.d]), (48, vi p1.n), (47, .one (.pv (.rp [(ref1_Round_a2 p1)] 0 1))), (46, vi p1.kind), (45, .one (.pv (.rp [(ref1_Round_a2 p1)] 0 0))), (2, .one (.pv (.rp [(ref1_Round_a2 p1)] 0 0))), (4, .one (.pt 0 0 0 0)), (6, .one (.pt 1 0 0 0))] ?_ ?_
      ·refine zyo 4 [(ref1_Round_a2 p1), (ref1_Round_a2 p1)] [([(ref1_Round_a2 p1)] : List (List PV))[0]? = some (ref1_Round_a2 p1), ([(ref1_Round_a2 p1)] : List (List PV))[0]? = some (ref1_Round_a2 p1)] (⟨rfl, rfl, trivial⟩) ?_
       refine DX.cal 55 [vi p1.n] (.ag [cb r10.below, cl eI r10.d]) [(49, .ag [cb r10.below, cl eI r10.d]), (48, vi p1.n), (47, .one (.pv (.rp [(ref1_Round_a2 p1)] 0 1))), (46, vi p1.kind), (45, .one (.pv (.rp [(ref1_Round_a2 p1)] 0 0))), (2, .one (.pv (.rp [(ref1_Round_a2 p1)] 0 0))), (4, .one (.pt 0 0 0 0)), (6, .one (.pt 1 0 0 0))] (by kernel_rfl) (c_ref1_wideOf _ _ c30) rfl rfl (by kernel_rfl) ?_
       refine zyo 3 [(ref1_Round_a2 p1)] [([(ref1_Round_a2 p1)] : List (List PV))[0]? = some (ref1_Round_a2 p1)] (⟨rfl, trivial⟩) (zya (c_ref1_tens _ _ _ c31) ?_)
       refine DX.cal 54 [.ag [cb r10.below, cl eI r10.d], .ag [cb r11.below, cl eI r11.d]] (.ag [cb r12.below, cl eI r12.d]) [(54, .ag [cb r12.below, cl eI r12.d]), (53, .ag [cb r11.below, cl eI r11.d]), (52, vi p1.scale), (51, .one (.pv (.rp [(ref1_Round_a2 p1)] 0 2))), (50, .ag [cb r9.below, cl eI r9.d]), (49, .ag [cb r10.below, cl eI r10.d]), (48, vi p1.n), (47, .one (.pv (.rp [(ref1_Round_a2 p1)] 0 1))), (46, vi p1.kind), (45, .one (.pv (.rp [(ref1_Round_a2 p1)] 0 0))), (2, .one (.pv (.rp [(ref1_Round_a2 p1)] 0 0))), (4, .one (.pt 0 0 0 0)), (6, .one (.pt 1 0 0 0))] (by kernel_rfl) (c_ref1_even _ _ _ c32) rfl rfl (by kernel_rfl) ?_
       exact zyg 1 (zya (c_ref1_mulWide _ _ _ c33) zyd)
      refine za (c_ref1_number _ _ _ _ c34) (zp [4, 6] 1 [4] [] [(4, .one (.pt 0 0 0 0))] [.box [ci r14.kind, ci r14.n, ci r14.scale, cst r14.s, cl eValue r14.items], .box [cb r9.below, cl eI r9.d]] [] trivial (zd (hK29 _ _ (ze ?_))))
      obtain rfl := Option.some.inj h
      exact zf [.ag [ci r14.kind, ci r14.n, ci r14.scale, cst r14.s, cl eValue r14.items]] (.ag (.cons (.rfl _ rfl) (.cons (.rfl _ rfl) (.cons (.rfl _ rfl) (.cons (.rfl _ rfl) (.cons (.rfl _ rfl) .nil))))))
     refine zq fun K24 hK24 => zr (zg [4, 6] 2 [1,2,4,5,39] (zd (hK24 _ _ (zc (decide ((-40 : Int) < p2)) (fun b25 => ?_) (fun b25 => ?_)))))
     ·have h := ift_t b25 h
      exact zr (zp [4, 6] 3 [2,4,5] [] [(2, .one (.pv (.rp [(ref1_Round_a2 p1)] 0 0))), (4, .one (.pt 0 0 0 0)), (5, vi (IntKind.i64.wrap (0 - p2)))] [.box ref1_Round_a3] [] trivial (zd (hJ2 (IntKind.i64.wrap (0 - p2)) h _ _ (zk [2,4,5]))))
     ·have h := ift_f b25 h
      exact zs (hJ2 (40 : Int) h _ _ (zk [2,4,5]))
 obtain ⟨r1, c4, h⟩ := bnd_some h
 rcases Bool.eq_false_or_eq_true (!r1) with b5 | b5
 ·have h := ift_t b5 h
  refine zr (zo [4, 6] 2 [1,2,4,8] [(ref1_Round_a2 p1)] [([(ref1_Round_a2 p1)] : List (List PV))[0]? = some (ref1_Round_a2 p1)] (⟨rfl, trivial⟩) ?_)
  exact XO.cal 52 [vi p1.kind] (vb r1) [(9, vb r1), (1, vi p2), (2, .one (.pv (.rp [(ref1_Round_a2 p1)] 0 0))), (4, .one (.pt 0 0 0 0)), (8, vi p1.kind)] (by kernel_rfl) (c_ref1_isNumber _ _ c4) rfl rfl (by kernel_rfl) (zg [4, 6] 2 [1,2,4,11] (zt 11 b5 (zg [4, 6] 4 [1,2,4,15] (zd (hJ1 true h _ _ (zk [1,2,4,15]))))))
 ·have h := ift_f b5 h
  obtain ⟨r2, c6, h⟩ := bnd_some h
  refine zr (zp [4, 6] 2 [1,2,4,8] [(ref1_Round_a2 p1)] [(1, vi p2), (2, .one (.pv (.rp [(ref1_Round_a2 p1)] 0 0))), (4, .one (.pt 0 0 0 0)), (8, vi p1.kind)] [.box ref1_Round_a3] [([(ref1_Round_a2 p1)] : List (List PV))[0]? = some (ref1_Round_a2 p1)] (⟨rfl, trivial⟩) ?_)
  refine za (c_ref1_isNumber _ _ c4) (zg [4, 6] 2 [1,2,4,11] (zt 11 b5 ?_))
  refine zp [4, 6] 1 [1,2,4,11,12] [(ref1_Round_a2 p1)] [(1, vi p2), (2, .one (.pv (.rp [(ref1_Round_a2 p1)] 0 0))), (4, .one (.pt 0 0 0 0)), (11, vb false), (12, .ag (ref1_Round_a1 p1))] [.box ref1_Round_a3] [([(ref1_Round_a2 p1)] : List (List PV))[0]? = some (ref1_Round_a2 p1)] (⟨rfl, trivial⟩) ?_
  exact za (c_ref1_Sound _ _ c6) (zg [4, 6] 2 [1,2,4,15] (zd (hJ1 (!r2) h _ _ (zk [1,2,4,15]))))

def law1_ValueRoundsMatchSpec_j1 (x1 : Bool) : Option Bool :=
    some x1

def law1_ValueRoundsMatchSpec (p1 : GValue) (p2 : Int) : Option Bool :=
    bnd (law1_number (25 : Int)) fun r1 =>
    bnd (value_Round r1 (-1 : Int)) fun r2 =>
    bnd (law1_number (20 : Int)) fun r3 =>
    bnd (law1_exactly BIG r2 r3) fun r4 =>
    ift r4
      (bnd (value_Round p1 p2) fun r5 =>
       bnd (ref1_Round p1 p2) fun r6 =>
       bnd (law1_exactly BIG r5 r6) fun r7 =>
       law1_ValueRoundsMatchSpec_j1 r7)
      (law1_ValueRoundsMatchSpec_j1 false)

abbrev law1_ValueRoundsMatchSpec_a1 (p1 : GValue) : List CV := [ci p1.kind, ci p1.n, ci p1.scale, cst p1.s, cl eValue p1.items]
abbrev law1_ValueRoundsMatchSpec_a2 (r3 : GValue) : List CV := [ci r3.kind, ci r3.n, ci r3.scale, cst r3.s, cl eValue r3.items]
abbrev law1_ValueRoundsMatchSpec_a3 (r2 : GValue) : List CV := [ci r2.kind, ci r2.n, ci r2.scale, cst r2.s, cl eValue r2.items]
abbrev law1_ValueRoundsMatchSpec_a4 (r1 : GValue) : List CV := [ci r1.kind, ci r1.n, ci r1.scale, cst r1.s, cl eValue r1.items]
abbrev law1_ValueRoundsMatchSpec_a5 (p1 : GValue) : List PV := [pi p1.kind, pi p1.n, pi p1.scale, .s (.string p1.s), .ro (eValue.els p1.items)]

theorem c_law1_ValueRoundsMatchSpec (p1 : GValue) (p2 : Int) (r : Bool) (h : law1_ValueRoundsMatchSpec p1 p2 = some r) : PC Tryd.prog 5 [.ag (law1_ValueRoundsMatchSpec_a1 p1), vi p2] (vb r) := by
 unfold law1_ValueRoundsMatchSpec at h
 refine PC.of (n := 18) (fn := Tryd.f5) (c := cd Tryd.f5 []) (by kernel_rfl) (by kernel_rfl) (by kernel_rfl) (Nat.le_of_ble_eq_true rfl) (zq fun K1 hK1 => zr (zg [] 2 [1,2] (zd (hK1 _ _ (zq fun K2 hK2 => ?_)))))
 have hJ1 : ∀ (x1 : Bool), law1_ValueRoundsMatchSpec_j1 x1 = some r → ∀ fr1 st1, Sub 18 0 [] fr1 st1 [(4, vb x1)] [] → K2 fr1 st1 := by
  intro x1 h fr1 st1 hS
  unfold law1_ValueRoundsMatchSpec_j1 at h
  refine hK2 _ _ (XW.sub hS ?_)
  refine ze ?_
  obtain rfl := Option.some.inj h
  exact zf [vb x1] (.one (.rfl _ rfl))
 obtain ⟨r1, c3, h⟩ := bnd_some h
 obtain ⟨r2, c4, h⟩ := bnd_some h
 obtain ⟨r3, c5, h⟩ := bnd_some h
 obtain ⟨r4, c6, h⟩ := bnd_some h
 rcases Bool.eq_false_or_eq_true r4 with b7 | b7
 ·have h := ift_t b7 h
  obtain ⟨r5, c8, h⟩ := bnd_some h
  obtain ⟨r6, c9, h⟩ := bnd_some h
  obtain ⟨r7, c10, h⟩ := bnd_some h
  refine zw 10 [(14, vi p2), (13, .ag (law1_ValueRoundsMatchSpec_a1 p1)), (12, .ag [ci r5.kind, ci r5.n, ci r5.scale, cst r5.s, cl eValue r5.items]), (11, vi p2), (10, .ag (law1_ValueRoundsMatchSpec_a1 p1)), (9, vb true), (8, vb r4), (7, .ag (law1_ValueRoundsMatchSpec_a2 r3)), (6, .ag (law1_ValueRoundsMatchSpec_a3 r2)), (5, .ag (law1_ValueRoundsMatchSpec_a4 r1)), (1, vi p2), (2, .one (.pv (.rp [(law1_ValueRoundsMatchSpec_a5 p1)] 0 0)))] ?_ ?_
  ·refine zya (c_law1_number _ _ c3) (DX.cal 20 [.ag (law1_ValueRoundsMatchSpec_a4 r1), vi (-1 : Int)] (.ag (law1_ValueRoundsMatchSpec_a3 r2)) [(6, .ag (law1_ValueRoundsMatchSpec_a3 r2)), (5, .ag (law1_ValueRoundsMatchSpec_a4 r1)), (1, vi p2), (2, .one (.pv (.rp [(law1_ValueRoundsMatchSpec_a5 p1)] 0 0)))] (by kernel_rfl) (c_value_Round _ _ _ c4) rfl rfl (by kernel_rfl) (zya (c_law1_number _ _ c5) ?_))
   refine zya (c_law1_exactly BIG _ _ _ c6) (DX.go 1 [] [(9, vb r4), (8, vb r4), (7, .ag [ci r3.kind, ci r3.n, ci r3.scale, cst r3.s, cl eValue r3.items]), (6, .ag [ci r2.kind, ci r2.n, ci r2.scale, cst r2.s, cl eValue r2.items]), (5, .ag [ci r1.kind, ci r1.n, ci r1.scale, cst r1.s, cl eValue r1.items]), (1, vi p2), (2, .one (.pv (.rp [[pi p1.kind, pi p1.n, pi p1.scale, .s (.string p1.s), .ro (eValue.els p1.items)]] 0 0)))] [] (by kernel_rfl) trivial ?_)
   refine DX.eq (fr1 := [(9, vb true), (8, vb r4), (7, .ag [ci r3.kind, ci r3.n, ci r3.scale, cst r3.s, cl eValue r3.items]), (6, .ag [ci r2.kind, ci r2.n, ci r2.scale, cst r2.s, cl eValue r2.items]), (5, .ag [ci r1.kind, ci r1.n, ci r1.scale, cst r1.s, cl eValue r1.items]), (1, vi p2), (2, .one (.pv (.rp [[pi p1.kind, pi p1.n, pi p1.scale, .s (.string p1.s), .ro (eValue.els p1.items)]] 0 0)))]) (by rw [b7]) ?_
   refine zyo 2 [(law1_ValueRoundsMatchSpec_a5 p1)] [([(law1_ValueRoundsMatchSpec_a5 p1)] : List (List PV))[0]? = some (law1_ValueRoundsMatchSpec_a5 p1)] (⟨rfl, trivial⟩) (zya (c_value_Round _ _ _ c8) ?_)
   refine DX.go 2 [(law1_ValueRoundsMatchSpec_a5 p1)] [(14, vi p2), (13, .ag (law1_ValueRoundsMatchSpec_a1 p1)), (12, .ag [ci r5.kind, ci r5.n, ci r5.scale, cst r5.s, cl eValue r5.items]), (11, vi p2), (10, .ag (law1_ValueRoundsMatchSpec_a1 p1)), (9, vb true), (8, vb r4), (7, .ag (law1_ValueRoundsMatchSpec_a2 r3)), (6, .ag (law1_ValueRoundsMatchSpec_a3 r2)), (5, .ag (law1_ValueRoundsMatchSpec_a4 r1)), (1, vi p2), (2, .one (.pv (.rp [(law1_ValueRoundsMatchSpec_a5 p1)] 0 0)))] [([(law1_ValueRoundsMatchSpec_a5 p1)] : List (List PV))[0]? = some (law1_ValueRoundsMatchSpec_a5 p1)] (by kernel_rfl) (⟨rfl, trivial⟩) ?_
   exact zyd
  refine za (c_ref1_Round _ _ _ c9) ?_
  refine XO.cal 19 [.ag [ci r5.kind, ci r5.n, ci r5.scale, cst r5.s, cl eValue r5.items], .ag [ci r6.kind, ci r6.n, ci r6.scale, cst r6.s, cl eValue r6.items]] (vb r7) [(16, vb r7), (15, .ag [ci r6.kind, ci r6.n, ci r6.scale, cst r6.s, cl eValue r6.items]), (14, vi p2), (13, .ag (law1_ValueRoundsMatchSpec_a1 p1)), (12, .ag [ci r5.kind, ci r5.n, ci r5.scale, cst r5.s, cl eValue r5.items]), (11, vi p2), (10, .ag (law1_ValueRoundsMatchSpec_a1 p1)), (9, vb true), (8, vb r4), (7, .ag (law1_ValueRoundsMatchSpec_a2 r3)), (6, .ag (law1_ValueRoundsMatchSpec_a3 r2)), (5, .ag (law1_ValueRoundsMatchSpec_a4 r1)), (1, vi p2), (2, .one (.pv (.rp [(law1_ValueRoundsMatchSpec_a5 p1)] 0 0)))] (by kernel_rfl) (c_law1_exactly BIG _ _ _ c10) rfl rfl (by kernel_rfl) ?_
  exact zg [] 2 [4] (zd (hJ1 r7 h _ _ (zk [4])))
 ·have h := ift_f b7 h
  refine zw 10 [(14, .tp []), (13, .tp []), (12, .tp []), (11, .tp []), (10, .tp []), (9, vb false), (8, vb r4), (7, .ag (law1_ValueRoundsMatchSpec_a2 r3)), (6, .ag (law1_ValueRoundsMatchSpec_a3 r2)), (5, .ag (law1_ValueRoundsMatchSpec_a4 r1)), (1, vi p2), (2, .one (.pv (.rp [(law1_ValueRoundsMatchSpec_a5 p1)] 0 0)))] ?_ ?_
  ·refine zya (c_law1_number _ _ c3) (DX.cal 20 [.ag (law1_ValueRoundsMatchSpec_a4 r1), vi (-1 : Int)] (.ag (law1_ValueRoundsMatchSpec_a3 r2)) [(6, .ag (law1_ValueRoundsMatchSpec_a3 r2)), (5, .ag (law1_ValueRoundsMatchSpec_a4 r1)), (1, vi p2), (2, .one (.pv (.rp [(law1_ValueRoundsMatchSpec_a5 p1)] 0 0)))] (by kernel_rfl) (c_value_Round _ _ _ c4) rfl rfl (by kernel_rfl) (zya (c_law1_number _ _ c5) ?_))
   refine zya (c_law1_exactly BIG _ _ _ c6) (DX.go 1 [] [(9, vb r4), (8, vb r4), (7, .ag (law1_ValueRoundsMatchSpec_a2 r3)), (6, .ag (law1_ValueRoundsMatchSpec_a3 r2)), (5, .ag (law1_ValueRoundsMatchSpec_a4 r1)), (1, vi p2), (2, .one (.pv (.rp [(law1_ValueRoundsMatchSpec_a5 p1)] 0 0)))] [] (by kernel_rfl) trivial ?_)
   exact DX.eq (fr1 := [(9, vb false), (8, vb r4), (7, .ag [ci r3.kind, ci r3.n, ci r3.scale, cst r3.s, cl eValue r3.items]), (6, .ag [ci r2.kind, ci r2.n, ci r2.scale, cst r2.s, cl eValue r2.items]), (5, .ag [ci r1.kind, ci r1.n, ci r1.scale, cst r1.s, cl eValue r1.items]), (1, vi p2), (2, .one (.pv (.rp [[pi p1.kind, pi p1.n, pi p1.scale, .s (.string p1.s), .ro (eValue.els p1.items)]] 0 0)))]) (by rw [b7]) (zyg 5 zyd)
  exact zg [] 4 [4] (zd (hJ1 false h _ _ (zk [4])))

def ref1_towards (p1 : RWide) (p2 : RWide) : Option RWide :=
    bnd (ref1_divide p1.d p2.d) fun r1 =>
    bnd (ref1_cut (!(p1.below == p2.below)) r1.1) fun r2 =>
    some r2

abbrev ref1_towards_a1 (p1 : RWide) : List PV := [.s (.bool p1.below), .ro (eI.els p1.d)]
abbrev ref1_towards_a2 (p2 : RWide) : List PV := [.s (.bool p2.below), .ro (eI.els p2.d)]

theorem c_ref1_towards (p1 : RWide) (p2 : RWide) (r : RWide) (h : ref1_towards p1 p2 = some r) : PC Tryd.prog 74 [.ag [cb p1.below, cl eI p1.d], .ag [cb p2.below, cl eI p2.d]] (.ag [cb r.below, cl eI r.d]) := by
 unfold ref1_towards at h
 refine PC.of (n := 22) (fn := Tryd.f74) (c := cd Tryd.f74 []) (by kernel_rfl) (by kernel_rfl) (by kernel_rfl) (Nat.le_of_ble_eq_true rfl) (zq fun K1 hK1 => zr (zg [4] 3 [2,3,4] (zd (hK1 _ _ (zq fun K2 hK2 => ?_)))))
 obtain ⟨r1, c3, h⟩ := bnd_some h
 refine zr (zo [4] 4 [2,3,4,9,11] [(ref1_towards_a1 p1), (ref1_towards_a2 p2)] [([(ref1_towards_a1 p1)] : List (List PV))[0]? = some (ref1_towards_a1 p1), ([(ref1_towards_a2 p2)] : List (List PV))[0]? = some (ref1_towards_a2 p2)] (⟨rfl, rfl, trivial⟩) ?_)
 refine XO.cal 99 [vl eI p1.d, vl eI p2.d] (.tp [vl eI r1.1, vl eI r1.2]) [(12, .tp [vl eI r1.1, vl eI r1.2]), (2, .one (.pv (.rp [(ref1_towards_a1 p1)] 0 0))), (3, .one (.pv (.rp [(ref1_towards_a2 p2)] 0 0))), (4, .one (.pt 0 0 0 0)), (9, vl eI p1.d), (11, vl eI p2.d)] (by kernel_rfl) (c_ref1_divide _ _ _ c3) rfl rfl (by kernel_rfl) (zg [4] 5 [2,3,4,5] (zd (hK2 _ _ (zq fun K4 hK4 => ?_))))
 obtain ⟨r2, c5, h⟩ := bnd_some h
 refine zr (zo [4] 6 [4,19,20] [(ref1_towards_a1 p1), (ref1_towards_a2 p2)] [([(ref1_towards_a1 p1)] : List (List PV))[0]? = some (ref1_towards_a1 p1), ([(ref1_towards_a2 p2)] : List (List PV))[0]? = some (ref1_towards_a2 p2)] (⟨rfl, rfl, trivial⟩) ?_)
 refine XO.cal 102 [vb (!(p1.below == p2.below)), vl eI r1.1] (.ag [cb r2.below, cl eI r2.d]) [(21, .ag [cb r2.below, cl eI r2.d]), (4, .one (.pt 0 0 0 0)), (19, vb (!(p1.below == p2.below))), (20, vl eI r1.1)] (by kernel_rfl) (c_ref1_cut _ _ _ c5) rfl rfl (by kernel_rfl) (zg [4] 1 [4] (zd (hK4 _ _ (ze ?_))))
 obtain rfl := Option.some.inj h
 exact zf [.ag [cb r2.below, cl eI r2.d]] (.ag (.cons (.rfl _ rfl) (.cons (.rfl _ rfl) .nil)))

def ref1_addWide (p1 : RWide) (p2 : RWide) : Option RWide :=
    ift (p1.below == p2.below)
      (bnd (ref1_plus p1.d p2.d) fun r1 =>
       bnd (ref1_cut p1.below r1) fun r2 =>
       some r2)
      (bnd (ref1_most p1.d p2.d) fun r3 =>
       ift (decide ((0 : Int) ≤ r3))
         (bnd (ref1_minus p1.d p2.d) fun r4 =>
          bnd (ref1_cut p1.below r4) fun r5 =>
          some r5)
         (bnd (ref1_minus p2.d p1.d) fun r6 =>
          bnd (ref1_cut p2.below r6) fun r7 =>
          some r7))

abbrev ref1_addWide_a1 (p1 : RWide) : List PV := [.s (.bool p1.below), .ro (eI.els p1.d)]
abbrev ref1_addWide_a2 (p2 : RWide) : List PV := [.s (.bool p2.below), .ro (eI.els p2.d)]

theorem c_ref1_addWide (p1 : RWide) (p2 : RWide) (r : RWide) (h : ref1_addWide p1 p2 = some r) : PC Tryd.prog 90 [.ag [cb p1.below, cl eI p1.d], .ag [cb p2.below, cl eI p2.d]] (.ag [cb r.below, cl eI r.d]) := by
 unfold ref1_addWide at h
 refine PC.of (n := 40) (fn := Tryd.f90) (c := cd Tryd.f90 []) (by kernel_rfl) (by kernel_rfl) (by kernel_rfl) (Nat.le_of_ble_eq_true rfl) (zq fun K1 hK1 => zr (zg [4] 3 [2,3,4] (zd (hK1 _ _ (zq fun K2 hK2 => zq fun K3 hK3 => ?_)))))
 refine zr (zo [4] 5 [2,3,4,9] [(ref1_addWide_a1 p1), (ref1_addWide_a2 p2)] [([(ref1_addWide_a1 p1)] : List (List PV))[0]? = some (ref1_addWide_a1 p1), ([(ref1_addWide_a2 p2)] : List (List PV))[0]? = some (ref1_addWide_a2 p2)] (⟨rfl, rfl, trivial⟩) (zd (hK3 _ _ (zc (p1.below == p2.below) (fun b4 => ?_) (fun b4 => ?_)))))
 ·have h := ift_t b4 h
  refine zq fun K5 hK5 => ?_
  obtain ⟨r1, c6, h⟩ := bnd_some h
  obtain ⟨r2, c7, h⟩ := bnd_some h
  refine zw 7 [(16, vl eI r1), (15, vl eI p2.d), (14, .one (.pv (.rp [(ref1_addWide_a2 p2)] 0 1))), (13, vl eI p1.d), (12, .one (.pv (.rp [(ref1_addWide_a1 p1)] 0 1))), (11, vb p1.below), (10, .one (.pv (.rp [(ref1_addWide_a1 p1)] 0 0))), (2, .one (.pv (.rp [(ref1_addWide_a1 p1)] 0 0))), (3, .one (.pv (.rp [(ref1_addWide_a2 p2)] 0 0))), (4, .one (.pt 0 0 0 0)), (9, vb (p1.below == p2.below))] ?_ ?_
  ·refine DX.go 6 [(ref1_addWide_a1 p1), (ref1_addWide_a1 p1), (ref1_addWide_a2 p2)] [(15, vl eI p2.d), (14, .one (.pv (.rp [(ref1_addWide_a2 p2)] 0 1))), (13, vl eI p1.d), (12, .one (.pv (.rp [(ref1_addWide_a1 p1)] 0 1))), (11, vb p1.below), (10, .one (.pv (.rp [(ref1_addWide_a1 p1)] 0 0))), (2, .one (.pv (.rp [(ref1_addWide_a1 p1)] 0 0))), (3, .one (.pv (.rp [(ref1_addWide_a2 p2)] 0 0))), (4, .one (.pt 0 0 0 0)), (9, vb (p1.below == p2.below))] [([(ref1_addWide_a1 p1)] : List (List PV))[0]? = some (ref1_addWide_a1 p1), ([(ref1_addWide_a1 p1)] : List (List PV))[0]? = some (ref1_addWide_a1 p1), ([(ref1_addWide_a2 p2)] : List (List PV))[0]? = some (ref1_addWide_a2 p2)] (by kernel_rfl) (⟨rfl, rfl, rfl, trivial⟩) ?_
   exact zya (c_ref1_plus _ _ _ c6) zyd
  refine XO.cal 102 [vb p1.below, vl eI r1] (.ag [cb r2.below, cl eI r2.d]) [(17, .ag [cb r2.below, cl eI r2.d]), (16, vl eI r1), (15, vl eI p2.d), (14, .one (.pv (.rp [(ref1_addWide_a2 p2)] 0 1))), (13, vl eI p1.d), (12, .one (.pv (.rp [(ref1_addWide_a1 p1)] 0 1))), (11, vb p1.below), (10, .one (.pv (.rp [(ref1_addWide_a1 p1)] 0 0))), (2, .one (.pv (.rp [(ref1_addWide_a1 p1)] 0 0))), (3, .one (.pv (.rp [(ref1_addWide_a2 p2)] 0 0))), (4, .one (.pt 0 0 0 0)), (9, vb (p1.below == p2.below))] (by kernel_rfl) (c_ref1_cut _ _ _ c7) rfl rfl (by kernel_rfl) ?_
  refine zg [4] 1 [4] (zd (hK5 _ _ (ze ?_)))
  obtain rfl := Option.some.inj h
  exact zf [.ag [cb r2.below, cl eI r2.d]] (.ag (.cons (.rfl _ rfl) (.cons (.rfl _ rfl) .nil)))
 ·have h := ift_f b4 h
  refine zs (hK2 _ _ (zq fun K8 hK8 => zq fun K9 hK9 => ?_))
  obtain ⟨r3, c10, h⟩ := bnd_some h
  refine zr (zo [4] 4 [2,3,4,19,21] [(ref1_addWide_a1 p1), (ref1_addWide_a2 p2)] [([(ref1_addWide_a1 p1)] : List (List PV))[0]? = some (ref1_addWide_a1 p1), ([(ref1_addWide_a2 p2)] : List (List PV))[0]? = some (ref1_addWide_a2 p2)] (⟨rfl, rfl, trivial⟩) ?_)
  refine XO.cal 100 [vl eI p1.d, vl eI p2.d] (vi r3) [(22, vi r3), (2, .one (.pv (.rp [(ref1_addWide_a1 p1)] 0 0))), (3, .one (.pv (.rp [(ref1_addWide_a2 p2)] 0 0))), (4, .one (.pt 0 0 0 0)), (19, vl eI p1.d), (21, vl eI p2.d)] (by kernel_rfl) (c_ref1_most _ _ _ c10) rfl rfl (by kernel_rfl) (zg [4] 1 [2,3,4,23] (zd (hK9 _ _ (zc (decide ((0 : Int) ≤ r3)) (fun b11 => ?_) (fun b11 => ?_)))))
  ·have h := ift_t b11 h
   refine zq fun K12 hK12 => ?_
   obtain ⟨r4, c13, h⟩ := bnd_some h
   obtain ⟨r5, c14, h⟩ := bnd_some h
   refine zw 7 [(30, vl eI r4), (29, vl eI p2.d), (28, .one (.pv (.rp [(ref1_addWide_a2 p2)] 0 1))), (27, vl eI p1.d), (26, .one (.pv (.rp [(ref1_addWide_a1 p1)] 0 1))), (25, vb p1.below), (24, .one (.pv (.rp [(ref1_addWide_a1 p1)] 0 0))), (2, .one (.pv (.rp [(ref1_addWide_a1 p1)] 0 0))), (3, .one (.pv (.rp [(ref1_addWide_a2 p2)] 0 0))), (4, .one (.pt 0 0 0 0)), (23, vb (decide ((0 : Int) ≤ r3)))] ?_ ?_
   ·refine zyo 6 [(ref1_addWide_a1 p1), (ref1_addWide_a1 p1), (ref1_addWide_a2 p2)] [([(ref1_addWide_a1 p1)] : List (List PV))[0]? = some (ref1_addWide_a1 p1), ([(ref1_addWide_a1 p1)] : List (List PV))[0]? = some (ref1_addWide_a1 p1), ([(ref1_addWide_a2 p2)] : List (List PV))[0]? = some (ref1_addWide_a2 p2)] (⟨rfl, rfl, rfl, trivial⟩) ?_
    refine DX.cal 119 [vl eI p1.d, vl eI p2.d] (vl eI r4) [(30, vl eI r4), (29, vl eI p2.d), (28, .one (.pv (.rp [(ref1_addWide_a2 p2)] 0 1))), (27, vl eI p1.d), (26, .one (.pv (.rp [(ref1_addWide_a1 p1)] 0 1))), (25, vb p1.below), (24, .one (.pv (.rp [(ref1_addWide_a1 p1)] 0 0))), (2, .one (.pv (.rp [(ref1_addWide_a1 p1)] 0 0))), (3, .one (.pv (.rp [(ref1_addWide_a2 p2)] 0 0))), (4, .one (.pt 0 0 0 0)), (23, vb (decide ((0 : Int) ≤ r3)))] (by kernel_rfl) (c_ref1_minus _ _ _ c13) rfl rfl (by kernel_rfl) ?_
    exact zyd
   refine za (c_ref1_cut _ _ _ c14) (zp [4] 1 [4] [] [(4, .one (.pt 0 0 0 0))] [.box [cb r5.below, cl eI r5.d]] [] trivial (zd (hK12 _ _ (ze ?_))))
   obtain rfl := Option.some.inj h
   exact zf [.ag [cb r5.below, cl eI r5.d]] (.ag (.cons (.rfl _ rfl) (.cons (.rfl _ rfl) .nil)))
  ·have h := ift_f b11 h
   refine zs (hK8 _ _ (zq fun K15 hK15 => ?_))
   obtain ⟨r6, c16, h⟩ := bnd_some h
   obtain ⟨r7, c17, h⟩ := bnd_some h
   refine zw 7 [(38, vl eI r6), (37, vl eI p1.d), (36, .one (.pv (.rp [(ref1_addWide_a1 p1)] 0 1))), (35, vl eI p2.d), (34, .one (.pv (.rp [(ref1_addWide_a2 p2)] 0 1))), (33, vb p2.below), (32, .one (.pv (.rp [(ref1_addWide_a2 p2)] 0 0))), (2, .one (.pv (.rp [(ref1_addWide_a1 p1)] 0 0))), (3, .one (.pv (.rp [(ref1_addWide_a2 p2)] 0 0))), (4, .one (.pt 0 0 0 0)), (23, vb (decide ((0 : Int) ≤ r3)))] ?_ ?_
   ·exact zyo 6 [(ref1_addWide_a2 p2), (ref1_addWide_a2 p2), (ref1_addWide_a1 p1)] [([(ref1_addWide_a2 p2)] : List (List PV))[0]? = some (ref1_addWide_a2 p2), ([(ref1_addWide_a2 p2)] : List (List PV))[0]? = some (ref1_addWide_a2 p2), ([(ref1_addWide_a1 p1)] : List (List PV))[0]? = some (ref1_addWide_a1 p1)] (⟨rfl, rfl, rfl, trivial⟩) (zya (c_ref1_minus _ _ _ c16) zyd)
   refine za (c_ref1_cut _ _ _ c17) (zg [4] 1 [4] (zd (hK15 _ _ (ze ?_))))
   obtain rfl := Option.some.inj h
   exact zf [.ag [cb r7.below, cl eI r7.d]] (.ag (.cons (.rfl _ rfl) (.cons (.rfl _ rfl) .nil)))

def value_size (p1 : Int) : Option Int :=
    bnd (some (if (IntKind.i64.wrap (0 - p1)) > p1 then (IntKind.i64.wrap (0 - p1)) else p1)) fun y1 =>
    some (IntKind.u64.wrap y1)


theorem c_value_size (p1 : Int) (r : Int) (h : value_size p1 = some r) : PC Tryd.prog 124 [vi p1] (vk .u64 r) := by
 unfold value_size at h
 refine PC.of (n := 8) (fn := Tryd.f124) (c := cd Tryd.f124 []) (by kernel_rfl) (by kernel_rfl) (by kernel_rfl) (Nat.le_of_ble_eq_true rfl) (zq fun K1 hK1 => zr (zg [] 1 [0] (zd (hK1 _ _ (zq fun K2 hK2 => ?_)))))
 obtain ⟨y1, hy3, h⟩ := bnd_some h
 refine zr (zp [] 4 [6] [] [(6, vi (if (IntKind.i64.wrap (0 - p1)) > p1 then (IntKind.i64.wrap (0 - p1)) else p1))] [] [] trivial ?_)
 rw [show (if (IntKind.i64.wrap (0 - p1)) > p1 then (IntKind.i64.wrap (0 - p1)) else p1) = y1 from Option.some.inj hy3]
 refine zg [] 2 [2] (zd (hK2 _ _ (ze ?_)))
 obtain rfl := Option.some.inj h
 exact zf [vk .u64 (IntKind.u64.wrap y1)] (.one (.rfl _ rfl))

def value_product (p1 : Int) (p2 : Int) : Option GWide :=
    bnd (value_whole p1) fun r1 =>
    bnd (value_size p2) fun r2 =>
    bnd (value_wide_times (GWide.mk r1.neg (r1.size.1, r1.size.2.1, r1.size.2.2.1, r1.size.2.2.2)) r2) fun r3 =>
    some (GWide.mk (!(r3.neg == (decide (p2 < (0 : Int))))) (r3.size.1, r3.size.2.1, r3.size.2.2.1, r3.size.2.2.2))

abbrev value_product_a1 (r1 : GWide) : List CV := [cb r1.neg, ck .u64 r1.size.1, ck .u64 r1.size.2.1, ck .u64 r1.size.2.2.1, ck .u64 r1.size.2.2.2]
abbrev value_product_a2 (p2 : Int) (r3 : GWide) : List CV := [cb (!(r3.neg == (decide (p2 < (0 : Int))))), ck .u64 r3.size.1, ck .u64 r3.size.2.1, ck .u64 r3.size.2.2.1, ck .u64 r3.size.2.2.2]

theorem c_value_product (p1 : Int) (p2 : Int) (r : GWide) (h : value_product p1 p2 = some r) : PC Tryd.prog 108 [vi p1, vi p2] (.ag [cb r.neg, ck .u64 r.size.1, ck .u64 r.size.2.1, ck .u64 r.size.2.2.1, ck .u64 r.size.2.2.2]) := by
 unfold value_product at h
 refine PC.of (n := 18) (fn := Tryd.f108) (c := cd Tryd.f108 []) (by kernel_rfl) (by kernel_rfl) (by kernel_rfl) (Nat.le_of_ble_eq_true rfl) (zq fun K1 hK1 => zr (zg [4, 5] 1 [0,1,4] (zd (hK1 _ _ (zq fun K2 hK2 => ?_)))))
 obtain ⟨r1, c3, h⟩ := bnd_some h
 obtain ⟨r2, c4, h⟩ := bnd_some h
 obtain ⟨r3, c5, h⟩ := bnd_some h
 refine zr (zg [4, 5] 1 [1,4,6] (XO.cal 46 [vi p1] (.ag (value_product_a1 r1)) [(7, .ag (value_product_a1 r1)), (1, vi p2), (4, .one (.pt 0 0 0 0)), (6, vi p1)] (by kernel_rfl) (c_value_whole _ _ c3) rfl rfl (by kernel_rfl) (zg [4, 5] 1 [1,4,7,8] (za (c_value_size _ _ c4) ?_))))
 refine XO.cal 96 [.ag (value_product_a1 r1), vk .u64 r2] (.ag [cb r3.neg, ck .u64 r3.size.1, ck .u64 r3.size.2.1, ck .u64 r3.size.2.2.1, ck .u64 r3.size.2.2.2]) [(10, .ag [cb r3.neg, ck .u64 r3.size.1, ck .u64 r3.size.2.1, ck .u64 r3.size.2.2.1, ck .u64 r3.size.2.2.2]), (9, vk .u64 r2), (1, vi p2), (4, .one (.pt 0 0 0 0)), (7, .ag (value_product_a1 r1)), (8, vi p2)] (by kernel_rfl) (c_value_wide_times _ _ _ c5) rfl rfl (by kernel_rfl) ?_
 refine zg [4, 5] 2 [1,4,5] (zd (hK2 _ _ (zq fun K6 hK6 => zr (zg [4, 5] 7 [4,5] (zd (hK6 _ _ ?_))))))
 refine zq fun K7 hK7 => zr (zp [4, 5] 2 [4] [] [(4, .one (.pt 0 0 0 0))] [.box (value_product_a2 p2 r3), .box (value_product_a2 p2 r3)] [] trivial (zd (hK7 _ _ (ze ?_))))
 obtain rfl := Option.some.inj h
 exact zf [.ag (value_product_a2 p2 r3)] (.ag (.cons (.rfl _ rfl) (.cons (.rfl _ rfl) (.cons (.rfl _ rfl) (.cons (.rfl _ rfl) (.cons (.rfl _ rfl) .nil))))))

def value_wide_zero (p1 : GWide) : Option Bool :=
    bnd (some ((p1.size.1 == (0 : Int)) && ((p1.size.2.1 == (0 : Int)) && ((p1.size.2.2.1 == (0 : Int)) && ((p1.size.2.2.2 == (0 : Int)) && true))))) fun y1 =>
    some y1


theorem c_value_wide_zero (p1 : GWide) (r : Bool) (h : value_wide_zero p1 = some r) : PC Tryd.prog 109 [.ag [cb p1.neg, ck .u64 p1.size.1, ck .u64 p1.size.2.1, ck .u64 p1.size.2.2.1, ck .u64 p1.size.2.2.2]] (vb r) := by
 unfold value_wide_zero at h
 refine PC.of (n := 7) (fn := Tryd.f109) (c := cd Tryd.f109 []) (by kernel_rfl) (by kernel_rfl) (by kernel_rfl) (Nat.le_of_ble_eq_true rfl) (zq fun K1 hK1 => zr (zg [] 2 [1] (zd (hK1 _ _ (zq fun K2 hK2 => ?_)))))
 obtain ⟨y1, hy3, h⟩ := bnd_some h
 refine zr ?_
 refine zp [] 4 [6] [[.s (.bool p1.neg), .s (.int .u64 p1.size.1), .s (.int .u64 p1.size.2.1), .s (.int .u64 p1.size.2.2.1), .s (.int .u64 p1.size.2.2.2)]] [(6, vb ((p1.size.1 == (0 : Int)) && ((p1.size.2.1 == (0 : Int)) && ((p1.size.2.2.1 == (0 : Int)) && ((p1.size.2.2.2 == (0 : Int)) && true)))))] [] [([[.s (.bool p1.neg), .s (.int .u64 p1.size.1), .s (.int .u64 p1.size.2.1), .s (.int .u64 p1.size.2.2.1), .s (.int .u64 p1.size.2.2.2)]] : List (List PV))[0]? = some [.s (.bool p1.neg), .s (.int .u64 p1.size.1), .s (.int .u64 p1.size.2.1), .s (.int .u64 p1.size.2.2.1), .s (.int .u64 p1.size.2.2.2)]] (⟨rfl, trivial⟩) ?_
 rw [show ((p1.size.1 == (0 : Int)) && ((p1.size.2.1 == (0 : Int)) && ((p1.size.2.2.1 == (0 : Int)) && ((p1.size.2.2.2 == (0 : Int)) && true)))) = y1 from Option.some.inj hy3]
 refine zg [] 1 [2] (zd (hK2 _ _ (ze ?_)))
 obtain rfl := Option.some.inj h
 exact zf [vb y1] (.one (.rfl _ rfl))

def ref1_opposite (p1 : RWide) : Option RWide :=
    bnd (ref1_cut (!p1.below) p1.d) fun r1 =>
    some r1

abbrev ref1_opposite_a1 (p1 : RWide) : List PV := [.s (.bool p1.below), .ro (eI.els p1.d)]

theorem c_ref1_opposite (p1 : RWide) (r : RWide) (h : ref1_opposite p1 = some r) : PC Tryd.prog 113 [.ag [cb p1.below, cl eI p1.d]] (.ag [cb r.below, cl eI r.d]) := by
 unfold ref1_opposite at h
 refine PC.of (n := 9) (fn := Tryd.f113) (c := cd Tryd.f113 []) (by kernel_rfl) (by kernel_rfl) (by kernel_rfl) (Nat.le_of_ble_eq_true rfl) (zq fun K1 hK1 => zr (zg [2] 2 [1,2] (zd (hK1 _ _ (zq fun K2 hK2 => ?_)))))
 obtain ⟨r1, c3, h⟩ := bnd_some h
 refine zr (zo [2] 5 [2,5,7] [(ref1_opposite_a1 p1), (ref1_opposite_a1 p1)] [([(ref1_opposite_a1 p1)] : List (List PV))[0]? = some (ref1_opposite_a1 p1), ([(ref1_opposite_a1 p1)] : List (List PV))[0]? = some (ref1_opposite_a1 p1)] (⟨rfl, rfl, trivial⟩) ?_)
 refine XO.cal 102 [vb (!p1.below), vl eI p1.d] (.ag [cb r1.below, cl eI r1.d]) [(8, .ag [cb r1.below, cl eI r1.d]), (2, .one (.pt 0 0 0 0)), (5, vb (!p1.below)), (7, vl eI p1.d)] (by kernel_rfl) (c_ref1_cut _ _ _ c3) rfl rfl (by kernel_rfl) (zg [2] 1 [2] (zd (hK2 _ _ (ze ?_))))
 obtain rfl := Option.some.inj h
 exact zf [.ag [cb r1.below, cl eI r1.d]] (.ag (.cons (.rfl _ rfl) (.cons (.rfl _ rfl) .nil)))


end Go.Proofs.YtdkmclmdemngfaaDoor
