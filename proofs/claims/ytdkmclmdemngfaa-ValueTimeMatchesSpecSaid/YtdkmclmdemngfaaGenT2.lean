/- Printed by a program: what the functions compute, and the proofs of their contracts. -/
import Derived.Test.YtdkmclmdemngfaaGenT1
namespace Go.Proofs.Ytdkmclmdemngfaa
open Go.SX Go
set_option linter.unusedVariables false
set_option linter.unusedSimpArgs false
set_option maxRecDepth 100000

def ref1_civil_j2 (p1 : Int) (r1 : Int) (x3 : Int) (b2 : Int) (x5 : Int) : Option GCivil :=
    bnd (some (IntKind.i64.wrap ((IntKind.i64.wrap (p1 - (IntKind.i64.wrap ((86400 : Int) * r1)))).tdiv (3600 : Int)))) fun y1 =>
    bnd (some (IntKind.i64.wrap ((IntKind.i64.wrap (p1 - (IntKind.i64.wrap ((86400 : Int) * r1)))).tdiv (60 : Int)))) fun y2 =>
    bnd (some ((IntKind.i64.wrap (p1 - (IntKind.i64.wrap ((86400 : Int) * r1)))).tmod (60 : Int))) fun y3 =>
    some (GCivil.mk x3 b2 (IntKind.i64.wrap (x5 + (1 : Int))) y1 (y2.tmod (60 : Int)) y3)

def ref1_civil_l2 (p1 : Int) (r1 : Int) (x3 : Int) : Nat → Int → Int → Option GCivil
  | 0, _, _ => none
  | k2 + 1, b1, x4 =>
    bnd (ref1_MonthDays x3 b1) fun r4 =>
    ift (decide (r4 ≤ x4))
      (bnd (ref1_MonthDays x3 b1) fun r5 =>
       (ref1_civil_l2 p1 r1 x3 k2) (IntKind.i64.wrap (b1 + (1 : Int))) (IntKind.i64.wrap (x4 - r5)))
      (ref1_civil_j2 p1 r1 x3 b1 x4)

def ref1_civil_j1 (p1 : Int) (r1 : Int) (x3 : Int) : Option GCivil :=
    bnd (ref1_yearStart x3) fun r3 =>
    ref1_civil_l2 p1 r1 x3 BIG (1 : Int) (IntKind.i64.wrap (r1 - r3))

def ref1_civil_l1 (p1 : Int) (r1 : Int) : Nat → Int → Int → Option GCivil
  | 0, _, _ => none
  | k1 + 1, x1, x2 =>
    ift (decide ((1 : Int) < (IntKind.i64.wrap (x2 - x1))))
      (bnd (ref1_yearStart (IntKind.i64.wrap ((IntKind.i64.wrap (x1 + x2)).tdiv (2 : Int)))) fun r2 =>
       ift (decide (r2 ≤ r1))
         ((ref1_civil_l1 p1 r1 k1) (IntKind.i64.wrap ((IntKind.i64.wrap (x1 + x2)).tdiv (2 : Int))) x2)
         ((ref1_civil_l1 p1 r1 k1) x1 (IntKind.i64.wrap ((IntKind.i64.wrap (x1 + x2)).tdiv (2 : Int)))))
      (ref1_civil_j1 p1 r1 x1)

def ref1_civil (p1 : Int) : Option GCivil :=
    bnd (ref1_floor p1 (86400 : Int)) fun r1 =>
    ref1_civil_l1 p1 r1 BIG (0 : Int) (10001 : Int)


theorem c_ref1_civil (p1 : Int) (r : GCivil) (h : ref1_civil p1 = some r) : PC Try.prog 59 [vi p1] (.ag [ci r.year, ci r.month, ci r.day, ci r.hour, ci r.minute, ci r.second]) := by
  unfold ref1_civil at h
  refine PC.of (n := 66) (fn := Try.f59) (c := cd Try.f59 []) (by kernel_rfl) (by kernel_rfl) (by kernel_rfl) (Nat.le_of_ble_eq_true rfl) ?_
  refine XW.seq (x := cd Try.f59 [0]) (y := cd Try.f59 [1]) (by kernel_rfl) fun K1 hK1 => ?_
  refine XW.reg (by kernel_rfl) ?_
  refine XO.go [2, 7] 1 [0,2] [] [(0, vi p1), (2, .one (.pt 0 0 0 0))] [.box [ci (0 : Int), ci (0 : Int), ci (0 : Int), ci (0 : Int), ci (0 : Int), ci (0 : Int)]] [] (by kernel_rfl) trivial ?_
  refine XO.done (by kernel_rfl) ?_
  refine hK1 _ _ ?_
  refine XW.seq (x := cd Try.f59 [1,0]) (y := cd Try.f59 [1,1]) (by kernel_rfl) fun K2 hK2 => ?_
  obtain ⟨r1, c3, h⟩ := bnd_some h
  refine XW.reg (by kernel_rfl) ?_
  refine XO.go [2, 7] 1 [0,2,10] [] [(0, vi p1), (2, .one (.pt 0 0 0 0)), (10, vi p1)] [.box [ci (0 : Int), ci (0 : Int), ci (0 : Int), ci (0 : Int), ci (0 : Int), ci (0 : Int)]] [] (by kernel_rfl) trivial ?_
  refine XO.cal 68 [vi p1, vi (86400 : Int)] (vi r1) [(11, vi r1), (0, vi p1), (2, .one (.pt 0 0 0 0)), (10, vi p1)] (by kernel_rfl) (c_ref1_floor _ _ _ c3) rfl rfl (by kernel_rfl) ?_
  refine XO.go [2, 7] 1 [0,2,3] [] [(0, vi p1), (2, .one (.pt 0 0 0 0)), (3, vi r1)] [.box [ci (0 : Int), ci (0 : Int), ci (0 : Int), ci (0 : Int), ci (0 : Int), ci (0 : Int)]] [] (by kernel_rfl) trivial ?_
  refine XO.done (by kernel_rfl) ?_
  refine hK2 _ _ ?_
  refine XW.seq (x := cd Try.f59 [1,1,0]) (y := cd Try.f59 [1,1,1]) (by kernel_rfl) fun K4 hK4 => ?_
  refine XW.reg (by kernel_rfl) ?_
  refine XO.go [2, 7] 2 [0,2,3,4,5] [] [(0, vi p1), (2, .one (.pt 0 0 0 0)), (3, vi r1), (4, vi (0 : Int)), (5, vi (10001 : Int))] [.box [ci (0 : Int), ci (0 : Int), ci (0 : Int), ci (0 : Int), ci (0 : Int), ci (0 : Int)]] [] (by kernel_rfl) trivial ?_
  refine XO.done (by kernel_rfl) ?_
  refine hK4 _ _ ?_
  refine XW.seq (x := cd Try.f59 [1,1,1,0]) (y := cd Try.f59 [1,1,1,1]) (by kernel_rfl) fun K5 hK5 => ?_
  have hJ1 : ∀ (x3 : Int), ref1_civil_j1 p1 r1 x3 = some r → ∀ fr1 st1, Sub 66 0 [] fr1 st1 [(0, vi p1), (2, .one (.pt 0 0 0 0)), (3, vi r1), (4, vi x3)] [.box [ci (0 : Int), ci (0 : Int), ci (0 : Int), ci (0 : Int), ci (0 : Int), ci (0 : Int)]] → K5 fr1 st1 := by
    intro x3 h fr1 st1 hS
    unfold ref1_civil_j1 at h
    refine hK5 _ _ (XW.sub hS ?_)
    refine XW.seq (x := cd Try.f59 [1,1,1,1,0]) (y := cd Try.f59 [1,1,1,1,1]) (by kernel_rfl) fun K13 hK13 => ?_
    refine XW.reg (by kernel_rfl) ?_
    refine XO.go [2, 7] 4 [0,2,3,4,7] [] [(0, vi p1), (2, .one (.pt 0 0 0 0)), (3, vi r1), (4, vi x3), (7, .one (.pt 1 0 0 0))] [.box [ci (0 : Int), ci (0 : Int), ci (0 : Int), ci (0 : Int), ci (0 : Int), ci (0 : Int)], .box [ci x3, ci (1 : Int), ci (0 : Int), ci (0 : Int), ci (0 : Int), ci (0 : Int)]] [] (by kernel_rfl) trivial ?_
    refine XO.done (by kernel_rfl) ?_
    refine hK13 _ _ ?_
    refine XW.seq (x := cd Try.f59 [1,1,1,1,1,0]) (y := cd Try.f59 [1,1,1,1,1,1]) (by kernel_rfl) fun K14 hK14 => ?_
    obtain ⟨r3, c15, h⟩ := bnd_some h
    refine XW.reg (by kernel_rfl) ?_
    refine XO.go [2, 7] 2 [0,2,3,4,7,28,29] [] [(0, vi p1), (2, .one (.pt 0 0 0 0)), (3, vi r1), (4, vi x3), (7, .one (.pt 1 0 0 0)), (28, vi r1), (29, vi x3)] [.box [ci (0 : Int), ci (0 : Int), ci (0 : Int), ci (0 : Int), ci (0 : Int), ci (0 : Int)], .box [ci x3, ci (1 : Int), ci (0 : Int), ci (0 : Int), ci (0 : Int), ci (0 : Int)]] [] (by kernel_rfl) trivial ?_
    refine XO.cal 65 [vi x3] (vi r3) [(30, vi r3), (0, vi p1), (2, .one (.pt 0 0 0 0)), (3, vi r1), (4, vi x3), (7, .one (.pt 1 0 0 0)), (28, vi r1), (29, vi x3)] (by kernel_rfl) (c_ref1_yearStart _ _ c15) rfl rfl (by kernel_rfl) ?_
    refine XO.go [2, 7] 2 [0,2,3,4,7,8] [] [(0, vi p1), (2, .one (.pt 0 0 0 0)), (3, vi r1), (4, vi x3), (7, .one (.pt 1 0 0 0)), (8, vi (IntKind.i64.wrap (r1 - r3)))] [.box [ci (0 : Int), ci (0 : Int), ci (0 : Int), ci (0 : Int), ci (0 : Int), ci (0 : Int)], .box [ci x3, ci (1 : Int), ci (0 : Int), ci (0 : Int), ci (0 : Int), ci (0 : Int)]] [] (by kernel_rfl) trivial ?_
    refine XO.done (by kernel_rfl) ?_
    refine hK14 _ _ ?_
    refine XW.seq (x := cd Try.f59 [1,1,1,1,1,1,0]) (y := cd Try.f59 [1,1,1,1,1,1,1]) (by kernel_rfl) fun K16 hK16 => ?_
    have hJ2 : ∀ (b2 : Int) (x5 : Int), ref1_civil_j2 p1 r1 x3 b2 x5 = some r → ∀ fr1 st1, Sub 66 0 [] fr1 st1 [(0, vi p1), (2, .one (.pt 0 0 0 0)), (3, vi r1), (7, .one (.pt 1 0 0 0)), (8, vi x5)] [.box [ci (0 : Int), ci (0 : Int), ci (0 : Int), ci (0 : Int), ci (0 : Int), ci (0 : Int)], .box [ci x3, ci b2, ci (0 : Int), ci (0 : Int), ci (0 : Int), ci (0 : Int)]] → K16 fr1 st1 := by
      intro b2 x5 h fr1 st1 hS
      unfold ref1_civil_j2 at h
      refine hK16 _ _ (XW.sub hS ?_)
      refine XW.seq (x := cd Try.f59 [1,1,1,1,1,1,1,0]) (y := cd Try.f59 [1,1,1,1,1,1,1,1]) (by kernel_rfl) fun K23 hK23 => ?_
      refine XW.reg (by kernel_rfl) ?_
      refine XO.go [2, 7] 4 [0,2,3,7] [] [(0, vi p1), (2, .one (.pt 0 0 0 0)), (3, vi r1), (7, .one (.pt 1 0 0 0))] [.box [ci (0 : Int), ci (0 : Int), ci (0 : Int), ci (0 : Int), ci (0 : Int), ci (0 : Int)], .box [ci x3, ci b2, ci (IntKind.i64.wrap (x5 + (1 : Int))), ci (0 : Int), ci (0 : Int), ci (0 : Int)]] [] (by kernel_rfl) trivial ?_
      refine XO.done (by kernel_rfl) ?_
      refine hK23 _ _ ?_
      refine XW.seq (x := cd Try.f59 [1,1,1,1,1,1,1,1,0]) (y := cd Try.f59 [1,1,1,1,1,1,1,1,1]) (by kernel_rfl) fun K24 hK24 => ?_
      refine XW.reg (by kernel_rfl) ?_
      refine XO.go [2, 7] 5 [2,7,9] [] [(2, .one (.pt 0 0 0 0)), (7, .one (.pt 1 0 0 0)), (9, vi (IntKind.i64.wrap (p1 - (IntKind.i64.wrap ((86400 : Int) * r1)))))] [.box [ci (0 : Int), ci (0 : Int), ci (0 : Int), ci (0 : Int), ci (0 : Int), ci (0 : Int)], .box [ci x3, ci b2, ci (IntKind.i64.wrap (x5 + (1 : Int))), ci (0 : Int), ci (0 : Int), ci (0 : Int)]] [] (by kernel_rfl) trivial ?_
      refine XO.done (by kernel_rfl) ?_
      refine hK24 _ _ ?_
      refine XW.seq (x := cd Try.f59 [1,1,1,1,1,1,1,1,1,0]) (y := cd Try.f59 [1,1,1,1,1,1,1,1,1,1]) (by kernel_rfl) fun K25 hK25 => ?_
      obtain ⟨y1, y26, h⟩ := bnd_some h
      obtain ⟨y2, y27, h⟩ := bnd_some h
      obtain ⟨y3, y28, h⟩ := bnd_some h
      refine XW.reg (by kernel_rfl) ?_
      refine XO.go [2, 7] 2 [2,7,9,56] [] [(2, .one (.pt 0 0 0 0)), (7, .one (.pt 1 0 0 0)), (9, vi (IntKind.i64.wrap (p1 - (IntKind.i64.wrap ((86400 : Int) * r1))))), (56, vi (IntKind.i64.wrap ((IntKind.i64.wrap (p1 - (IntKind.i64.wrap ((86400 : Int) * r1)))).tdiv (3600 : Int))))] [.box [ci (0 : Int), ci (0 : Int), ci (0 : Int), ci (0 : Int), ci (0 : Int), ci (0 : Int)], .box [ci x3, ci b2, ci (IntKind.i64.wrap (x5 + (1 : Int))), ci (0 : Int), ci (0 : Int), ci (0 : Int)]] [(3600 : Int) ≠ 0] (by kernel_rfl) (⟨by decide, trivial⟩) ?_
      rw [show (IntKind.i64.wrap ((IntKind.i64.wrap (p1 - (IntKind.i64.wrap ((86400 : Int) * r1)))).tdiv (3600 : Int))) = y1 from Option.some.inj y26]
      refine XO.go [2, 7] 2 [2,7,9,56,58] [] [(2, .one (.pt 0 0 0 0)), (7, .one (.pt 1 0 0 0)), (9, vi (IntKind.i64.wrap (p1 - (IntKind.i64.wrap ((86400 : Int) * r1))))), (56, vi y1), (58, vi (IntKind.i64.wrap ((IntKind.i64.wrap (p1 - (IntKind.i64.wrap ((86400 : Int) * r1)))).tdiv (60 : Int))))] [.box [ci (0 : Int), ci (0 : Int), ci (0 : Int), ci (0 : Int), ci (0 : Int), ci (0 : Int)], .box [ci x3, ci b2, ci (IntKind.i64.wrap (x5 + (1 : Int))), ci (0 : Int), ci (0 : Int), ci (0 : Int)]] [(60 : Int) ≠ 0] (by kernel_rfl) (⟨by decide, trivial⟩) ?_
      rw [show (IntKind.i64.wrap ((IntKind.i64.wrap (p1 - (IntKind.i64.wrap ((86400 : Int) * r1)))).tdiv (60 : Int))) = y2 from Option.some.inj y27]
      refine XO.go [2, 7] 3 [2,7,56,59,61] [] [(2, .one (.pt 0 0 0 0)), (7, .one (.pt 1 0 0 0)), (56, vi y1), (59, vi (y2.tmod (60 : Int))), (61, vi ((IntKind.i64.wrap (p1 - (IntKind.i64.wrap ((86400 : Int) * r1)))).tmod (60 : Int)))] [.box [ci (0 : Int), ci (0 : Int), ci (0 : Int), ci (0 : Int), ci (0 : Int), ci (0 : Int)], .box [ci x3, ci b2, ci (IntKind.i64.wrap (x5 + (1 : Int))), ci (0 : Int), ci (0 : Int), ci (0 : Int)]] [(60 : Int) ≠ 0, (60 : Int) ≠ 0] (by kernel_rfl) (⟨by decide, by decide, trivial⟩) ?_
      rw [show ((IntKind.i64.wrap (p1 - (IntKind.i64.wrap ((86400 : Int) * r1)))).tmod (60 : Int)) = y3 from Option.some.inj y28]
      refine XO.go [2, 7] 6 [2,7] [] [(2, .one (.pt 0 0 0 0)), (7, .one (.pt 1 0 0 0))] [.box [ci (0 : Int), ci (0 : Int), ci (0 : Int), ci (0 : Int), ci (0 : Int), ci (0 : Int)], .box [ci x3, ci b2, ci (IntKind.i64.wrap (x5 + (1 : Int))), ci y1, ci (y2.tmod (60 : Int)), ci y3]] [] (by kernel_rfl) trivial ?_
      refine XO.done (by kernel_rfl) ?_
      refine hK25 _ _ ?_
      refine XW.seq (x := cd Try.f59 [1,1,1,1,1,1,1,1,1,1,0]) (y := cd Try.f59 [1,1,1,1,1,1,1,1,1,1,1]) (by kernel_rfl) fun K29 hK29 => ?_
      refine XW.reg (by kernel_rfl) ?_
      refine XO.go [2, 7] 2 [2] [] [(2, .one (.pt 0 0 0 0))] [.box [ci x3, ci b2, ci (IntKind.i64.wrap (x5 + (1 : Int))), ci y1, ci (y2.tmod (60 : Int)), ci y3], .box [ci x3, ci b2, ci (IntKind.i64.wrap (x5 + (1 : Int))), ci y1, ci (y2.tmod (60 : Int)), ci y3]] [] (by kernel_rfl) trivial ?_
      refine XO.done (by kernel_rfl) ?_
      refine hK29 _ _ ?_
      refine XW.ret (by kernel_rfl) ?_
      obtain rfl := Option.some.inj h
      exact FinP.fin (.inr rfl) [] [.ag [ci x3, ci b2, ci (IntKind.i64.wrap (x5 + (1 : Int))), ci y1, ci (y2.tmod (60 : Int)), ci y3]] [] (by kernel_rfl) trivial (.ag (.cons (.rfl _ rfl) (.cons (.rfl _ rfl) (.cons (.rfl _ rfl) (.cons (.rfl _ rfl) (.cons (.rfl _ rfl) (.cons (.rfl _ rfl) .nil)))))))
    refine XW.block (id := 2) (x := cd Try.f59 [1,1,1,1,1,1,0,0]) (by kernel_rfl) ?_
    refine XW.rounds' BIG (x := cd Try.f59 [1,1,1,1,1,1,0,0,0]) (by kernel_rfl) fun Q2 hQ2 => ?_
    have hL2 : ∀ (k2 : Nat) (b1 : Int) (x4 : Int), ref1_civil_l2 p1 r1 x3 k2 b1 x4 = some r → XR Try.prog 66 0 [] (cd Try.f59 [1,1,1,1,1,1,0,0,0]) Q2 k2 [(0, vi p1), (2, .one (.pt 0 0 0 0)), (3, vi r1), (4, vi x3), (7, .one (.pt 1 0 0 0)), (8, vi x4)] [.box [ci (0 : Int), ci (0 : Int), ci (0 : Int), ci (0 : Int), ci (0 : Int), ci (0 : Int)], .box [ci x3, ci b1, ci (0 : Int), ci (0 : Int), ci (0 : Int), ci (0 : Int)]] := by
      intro k2
      induction k2 with
      | zero => intro b1 x4 h; rw [ref1_civil_l2.eq_1] at h; cases h
      | succ k2 ih2 =>
        intro b1 x4 h
        rw [ref1_civil_l2.eq_2] at h
        refine XW.seq (x := cd Try.f59 [1,1,1,1,1,1,0,0,0,0]) (y := cd Try.f59 [1,1,1,1,1,1,0,0,0,1]) (by kernel_rfl) fun K17 hK17 => ?_
        refine XW.seq (x := cd Try.f59 [1,1,1,1,1,1,0,0,0,0,0]) (y := cd Try.f59 [1,1,1,1,1,1,0,0,0,0,1]) (by kernel_rfl) fun K18 hK18 => ?_
        obtain ⟨r4, c19, h⟩ := bnd_some h
        refine XW.reg (by kernel_rfl) ?_
        refine XO.go [2, 7] 4 [0,2,3,4,7,8,32,33,35] [] [(0, vi p1), (2, .one (.pt 0 0 0 0)), (3, vi r1), (4, vi x3), (7, .one (.pt 1 0 0 0)), (8, vi x4), (32, vi x4), (33, vi x3), (35, vi b1)] [.box [ci (0 : Int), ci (0 : Int), ci (0 : Int), ci (0 : Int), ci (0 : Int), ci (0 : Int)], .box [ci x3, ci b1, ci (0 : Int), ci (0 : Int), ci (0 : Int), ci (0 : Int)]] [] (by kernel_rfl) trivial ?_
        refine XO.cal 69 [vi x3, vi b1] (vi r4) [(36, vi r4), (0, vi p1), (2, .one (.pt 0 0 0 0)), (3, vi r1), (4, vi x3), (7, .one (.pt 1 0 0 0)), (8, vi x4), (32, vi x4), (33, vi x3), (35, vi b1)] (by kernel_rfl) (c_ref1_MonthDays _ _ _ c19) rfl rfl (by kernel_rfl) ?_
        refine XO.go [2, 7] 1 [0,2,3,4,7,8,37] [] [(0, vi p1), (2, .one (.pt 0 0 0 0)), (3, vi r1), (4, vi x3), (7, .one (.pt 1 0 0 0)), (8, vi x4), (37, vb (decide (r4 ≤ x4)))] [.box [ci (0 : Int), ci (0 : Int), ci (0 : Int), ci (0 : Int), ci (0 : Int), ci (0 : Int)], .box [ci x3, ci b1, ci (0 : Int), ci (0 : Int), ci (0 : Int), ci (0 : Int)]] [] (by kernel_rfl) trivial ?_
        refine XO.done (by kernel_rfl) ?_
        refine hK18 _ _ ?_
        refine XW.cond (x := .tmp 37) (a := cd Try.f59 [1,1,1,1,1,1,0,0,0,0,1,0]) (b := cd Try.f59 [1,1,1,1,1,1,0,0,0,0,1,1]) (t := (decide (r4 ≤ x4))) (by kernel_rfl) (by kernel_rfl) (fun b20 => ?_) (fun b20 => ?_)
        · have h := ift_t b20 h
          refine XW.skip (by kernel_rfl) ?_
          refine hK17 _ _ ?_
          refine XW.block (id := 3) (x := cd Try.f59 [1,1,1,1,1,1,0,0,0,1,0]) (by kernel_rfl) ?_
          refine XW.seq (x := cd Try.f59 [1,1,1,1,1,1,0,0,0,1,0,0]) (y := cd Try.f59 [1,1,1,1,1,1,0,0,0,1,0,1]) (by kernel_rfl) fun K21 hK21 => ?_
          obtain ⟨r5, c22, h⟩ := bnd_some h
          refine XW.reg (by kernel_rfl) ?_
          refine XO.go [2, 7] 4 [0,2,3,4,7,38,39,41] [] [(0, vi p1), (2, .one (.pt 0 0 0 0)), (3, vi r1), (4, vi x3), (7, .one (.pt 1 0 0 0)), (38, vi x4), (39, vi x3), (41, vi b1)] [.box [ci (0 : Int), ci (0 : Int), ci (0 : Int), ci (0 : Int), ci (0 : Int), ci (0 : Int)], .box [ci x3, ci b1, ci (0 : Int), ci (0 : Int), ci (0 : Int), ci (0 : Int)]] [] (by kernel_rfl) trivial ?_
          refine XO.cal 69 [vi x3, vi b1] (vi r5) [(42, vi r5), (0, vi p1), (2, .one (.pt 0 0 0 0)), (3, vi r1), (4, vi x3), (7, .one (.pt 1 0 0 0)), (38, vi x4), (39, vi x3), (41, vi b1)] (by kernel_rfl) (c_ref1_MonthDays _ _ _ c22) rfl rfl (by kernel_rfl) ?_
          refine XO.go [2, 7] 2 [0,2,3,4,7,8] [] [(0, vi p1), (2, .one (.pt 0 0 0 0)), (3, vi r1), (4, vi x3), (7, .one (.pt 1 0 0 0)), (8, vi (IntKind.i64.wrap (x4 - r5)))] [.box [ci (0 : Int), ci (0 : Int), ci (0 : Int), ci (0 : Int), ci (0 : Int), ci (0 : Int)], .box [ci x3, ci b1, ci (0 : Int), ci (0 : Int), ci (0 : Int), ci (0 : Int)]] [] (by kernel_rfl) trivial ?_
          refine XO.done (by kernel_rfl) ?_
          refine hK21 _ _ ?_
          refine XW.reg (by kernel_rfl) ?_
          refine XO.go [2, 7] 5 [0,2,3,4,7,8] [] [(0, vi p1), (2, .one (.pt 0 0 0 0)), (3, vi r1), (4, vi x3), (7, .one (.pt 1 0 0 0)), (8, vi (IntKind.i64.wrap (x4 - r5)))] [.box [ci (0 : Int), ci (0 : Int), ci (0 : Int), ci (0 : Int), ci (0 : Int), ci (0 : Int)], .box [ci x3, ci (IntKind.i64.wrap (b1 + (1 : Int))), ci (0 : Int), ci (0 : Int), ci (0 : Int), ci (0 : Int)]] [] (by kernel_rfl) trivial ?_
          refine XO.done (by kernel_rfl) ?_
          exact XR.sub (Sub.pick [0,2,3,4,7,8] (by kernel_rfl)) (ih2 (IntKind.i64.wrap (b1 + (1 : Int))) (IntKind.i64.wrap (x4 - r5)) h)
        · have h := ift_f b20 h
          refine XW.exit (id := 2) (by kernel_rfl) ?_
          refine hQ2 _ _ _ ?_
          exact hJ2 b1 x4 h _ _ (Sub.pick [0,2,3,7,8] (by kernel_rfl))
    exact XR.sub (Sub.pick [0,2,3,4,7,8] (by kernel_rfl)) (hL2 BIG (1 : Int) (IntKind.i64.wrap (r1 - r3)) h)
  refine XW.block (id := 0) (x := cd Try.f59 [1,1,1,0,0]) (by kernel_rfl) ?_
  refine XW.rounds' BIG (x := cd Try.f59 [1,1,1,0,0,0]) (by kernel_rfl) fun Q1 hQ1 => ?_
  have hL1 : ∀ (k1 : Nat) (x1 : Int) (x2 : Int), ref1_civil_l1 p1 r1 k1 x1 x2 = some r → XR Try.prog 66 0 [] (cd Try.f59 [1,1,1,0,0,0]) Q1 k1 [(0, vi p1), (2, .one (.pt 0 0 0 0)), (3, vi r1), (4, vi x1), (5, vi x2)] [.box [ci (0 : Int), ci (0 : Int), ci (0 : Int), ci (0 : Int), ci (0 : Int), ci (0 : Int)]] := by
    intro k1
    induction k1 with
    | zero => intro x1 x2 h; rw [ref1_civil_l1.eq_1] at h; cases h
    | succ k1 ih1 =>
      intro x1 x2 h
      rw [ref1_civil_l1.eq_2] at h
      refine XW.seq (x := cd Try.f59 [1,1,1,0,0,0,0]) (y := cd Try.f59 [1,1,1,0,0,0,1]) (by kernel_rfl) fun K6 hK6 => ?_
      refine XW.seq (x := cd Try.f59 [1,1,1,0,0,0,0,0]) (y := cd Try.f59 [1,1,1,0,0,0,0,1]) (by kernel_rfl) fun K7 hK7 => ?_
      refine XW.reg (by kernel_rfl) ?_
      refine XO.go [2, 7] 4 [0,2,3,4,5,15] [] [(0, vi p1), (2, .one (.pt 0 0 0 0)), (3, vi r1), (4, vi x1), (5, vi x2), (15, vb (decide ((1 : Int) < (IntKind.i64.wrap (x2 - x1)))))] [.box [ci (0 : Int), ci (0 : Int), ci (0 : Int), ci (0 : Int), ci (0 : Int), ci (0 : Int)]] [] (by kernel_rfl) trivial ?_
      refine XO.done (by kernel_rfl) ?_
      refine hK7 _ _ ?_
      refine XW.cond (x := .tmp 15) (a := cd Try.f59 [1,1,1,0,0,0,0,1,0]) (b := cd Try.f59 [1,1,1,0,0,0,0,1,1]) (t := (decide ((1 : Int) < (IntKind.i64.wrap (x2 - x1))))) (by kernel_rfl) (by kernel_rfl) (fun b8 => ?_) (fun b8 => ?_)
      · have h := ift_t b8 h
        refine XW.skip (by kernel_rfl) ?_
        refine hK6 _ _ ?_
        refine XW.block (id := 1) (x := cd Try.f59 [1,1,1,0,0,0,1,0]) (by kernel_rfl) ?_
        refine XW.seq (x := cd Try.f59 [1,1,1,0,0,0,1,0,0]) (y := cd Try.f59 [1,1,1,0,0,0,1,0,1]) (by kernel_rfl) fun K9 hK9 => ?_
        refine XW.reg (by kernel_rfl) ?_
        refine XO.go [2, 7] 5 [0,2,3,4,5,6] [] [(0, vi p1), (2, .one (.pt 0 0 0 0)), (3, vi r1), (4, vi x1), (5, vi x2), (6, vi (IntKind.i64.wrap ((IntKind.i64.wrap (x1 + x2)).tdiv (2 : Int))))] [.box [ci (0 : Int), ci (0 : Int), ci (0 : Int), ci (0 : Int), ci (0 : Int), ci (0 : Int)]] [(2 : Int) ≠ 0] (by kernel_rfl) (⟨by decide, trivial⟩) ?_
        refine XO.done (by kernel_rfl) ?_
        refine hK9 _ _ ?_
        refine XW.seq (x := cd Try.f59 [1,1,1,0,0,0,1,0,1,0]) (y := cd Try.f59 [1,1,1,0,0,0,1,0,1,1]) (by kernel_rfl) fun K10 hK10 => ?_
        obtain ⟨r2, c11, h⟩ := bnd_some h
        refine XW.reg (by kernel_rfl) ?_
        refine XO.go [2, 7] 1 [0,2,3,4,5,6,20] [] [(0, vi p1), (2, .one (.pt 0 0 0 0)), (3, vi r1), (4, vi x1), (5, vi x2), (6, vi (IntKind.i64.wrap ((IntKind.i64.wrap (x1 + x2)).tdiv (2 : Int)))), (20, vi (IntKind.i64.wrap ((IntKind.i64.wrap (x1 + x2)).tdiv (2 : Int))))] [.box [ci (0 : Int), ci (0 : Int), ci (0 : Int), ci (0 : Int), ci (0 : Int), ci (0 : Int)]] [] (by kernel_rfl) trivial ?_
        refine XO.cal 65 [vi (IntKind.i64.wrap ((IntKind.i64.wrap (x1 + x2)).tdiv (2 : Int)))] (vi r2) [(21, vi r2), (0, vi p1), (2, .one (.pt 0 0 0 0)), (3, vi r1), (4, vi x1), (5, vi x2), (6, vi (IntKind.i64.wrap ((IntKind.i64.wrap (x1 + x2)).tdiv (2 : Int)))), (20, vi (IntKind.i64.wrap ((IntKind.i64.wrap (x1 + x2)).tdiv (2 : Int))))] (by kernel_rfl) (c_ref1_yearStart _ _ c11) rfl rfl (by kernel_rfl) ?_
        refine XO.go [2, 7] 2 [0,2,3,4,5,6,23] [] [(0, vi p1), (2, .one (.pt 0 0 0 0)), (3, vi r1), (4, vi x1), (5, vi x2), (6, vi (IntKind.i64.wrap ((IntKind.i64.wrap (x1 + x2)).tdiv (2 : Int)))), (23, vb (decide (r2 ≤ r1)))] [.box [ci (0 : Int), ci (0 : Int), ci (0 : Int), ci (0 : Int), ci (0 : Int), ci (0 : Int)]] [] (by kernel_rfl) trivial ?_
        refine XO.done (by kernel_rfl) ?_
        refine hK10 _ _ ?_
        refine XW.cond (x := .tmp 23) (a := cd Try.f59 [1,1,1,0,0,0,1,0,1,1,0]) (b := cd Try.f59 [1,1,1,0,0,0,1,0,1,1,1]) (t := (decide (r2 ≤ r1))) (by kernel_rfl) (by kernel_rfl) (fun b12 => ?_) (fun b12 => ?_)
        · have h := ift_t b12 h
          refine XW.reg (by kernel_rfl) ?_
          refine XO.go [2, 7] 2 [0,2,3,4,5] [] [(0, vi p1), (2, .one (.pt 0 0 0 0)), (3, vi r1), (4, vi (IntKind.i64.wrap ((IntKind.i64.wrap (x1 + x2)).tdiv (2 : Int)))), (5, vi x2)] [.box [ci (0 : Int), ci (0 : Int), ci (0 : Int), ci (0 : Int), ci (0 : Int), ci (0 : Int)]] [] (by kernel_rfl) trivial ?_
          refine XO.done (by kernel_rfl) ?_
          exact XR.sub (Sub.pick [0,2,3,4,5] (by kernel_rfl)) (ih1 (IntKind.i64.wrap ((IntKind.i64.wrap (x1 + x2)).tdiv (2 : Int))) x2 h)
        · have h := ift_f b12 h
          refine XW.reg (by kernel_rfl) ?_
          refine XO.go [2, 7] 2 [0,2,3,4,5] [] [(0, vi p1), (2, .one (.pt 0 0 0 0)), (3, vi r1), (4, vi x1), (5, vi (IntKind.i64.wrap ((IntKind.i64.wrap (x1 + x2)).tdiv (2 : Int))))] [.box [ci (0 : Int), ci (0 : Int), ci (0 : Int), ci (0 : Int), ci (0 : Int), ci (0 : Int)]] [] (by kernel_rfl) trivial ?_
          refine XO.done (by kernel_rfl) ?_
          exact XR.sub (Sub.pick [0,2,3,4,5] (by kernel_rfl)) (ih1 x1 (IntKind.i64.wrap ((IntKind.i64.wrap (x1 + x2)).tdiv (2 : Int))) h)
      · have h := ift_f b8 h
        refine XW.exit (id := 0) (by kernel_rfl) ?_
        refine hQ1 _ _ _ ?_
        exact hJ1 x1 h _ _ (Sub.pick [0,2,3,4] (by kernel_rfl))
  exact XR.sub (Sub.pick [0,2,3,4,5] (by kernel_rfl)) (hL1 BIG (0 : Int) (10001 : Int) h)

def ref1_Days_j1 (p3 : Int) (x3 : Int) : Option Int :=
    some (IntKind.i64.wrap ((IntKind.i64.wrap (x3 + p3)) - (1 : Int)))

def ref1_Days_l1 (p1 : Int) (p2 : Int) (p3 : Int) : Nat → Int → Int → Option Int
  | 0, _, _ => none
  | k1 + 1, x1, x2 =>
    ift (decide (x2 < p2))
      (bnd (ref1_MonthDays p1 x2) fun r2 =>
       (ref1_Days_l1 p1 p2 p3 k1) (IntKind.i64.wrap (x1 + r2)) (IntKind.i64.wrap (x2 + (1 : Int))))
      (ref1_Days_j1 p3 x1)

def ref1_Days (p1 : Int) (p2 : Int) (p3 : Int) : Option Int :=
    bnd (ref1_yearStart p1) fun r1 =>
    ref1_Days_l1 p1 p2 p3 BIG r1 (1 : Int)


theorem c_ref1_Days (p1 : Int) (p2 : Int) (p3 : Int) (r : Int) (h : ref1_Days p1 p2 p3 = some r) : PC Try.prog 63 [vi p1, vi p2, vi p3] (vi r) := by
  unfold ref1_Days at h
  refine PC.of (n := 25) (fn := Try.f63) (c := cd Try.f63 []) (by kernel_rfl) (by kernel_rfl) (by kernel_rfl) (Nat.le_of_ble_eq_true rfl) ?_
  refine XW.seq (x := cd Try.f63 [0]) (y := cd Try.f63 [1]) (by kernel_rfl) fun K1 hK1 => ?_
  refine XW.reg (by kernel_rfl) ?_
  refine XO.go [] 1 [0,1,2] [] [(0, vi p1), (1, vi p2), (2, vi p3)] [] [] (by kernel_rfl) trivial ?_
  refine XO.done (by kernel_rfl) ?_
  refine hK1 _ _ ?_
  refine XW.seq (x := cd Try.f63 [1,0]) (y := cd Try.f63 [1,1]) (by kernel_rfl) fun K2 hK2 => ?_
  obtain ⟨r1, c3, h⟩ := bnd_some h
  refine XW.reg (by kernel_rfl) ?_
  refine XO.go [] 1 [0,1,2,9] [] [(0, vi p1), (1, vi p2), (2, vi p3), (9, vi p1)] [] [] (by kernel_rfl) trivial ?_
  refine XO.cal 65 [vi p1] (vi r1) [(10, vi r1), (0, vi p1), (1, vi p2), (2, vi p3), (9, vi p1)] (by kernel_rfl) (c_ref1_yearStart _ _ c3) rfl rfl (by kernel_rfl) ?_
  refine XO.go [] 1 [0,1,2,7] [] [(0, vi p1), (1, vi p2), (2, vi p3), (7, vi r1)] [] [] (by kernel_rfl) trivial ?_
  refine XO.done (by kernel_rfl) ?_
  refine hK2 _ _ ?_
  refine XW.seq (x := cd Try.f63 [1,1,0]) (y := cd Try.f63 [1,1,1]) (by kernel_rfl) fun K4 hK4 => ?_
  have hJ1 : ∀ (x3 : Int), ref1_Days_j1 p3 x3 = some r → ∀ fr1 st1, Sub 25 0 [] fr1 st1 [(2, vi p3), (7, vi x3)] [] → K4 fr1 st1 := by
    intro x3 h fr1 st1 hS
    unfold ref1_Days_j1 at h
    refine hK4 _ _ (XW.sub hS ?_)
    refine XW.seq (x := cd Try.f63 [1,1,1,0]) (y := cd Try.f63 [1,1,1,1]) (by kernel_rfl) fun K11 hK11 => ?_
    refine XW.reg (by kernel_rfl) ?_
    refine XO.go [] 5 [6] [] [(6, vi (IntKind.i64.wrap ((IntKind.i64.wrap (x3 + p3)) - (1 : Int))))] [] [] (by kernel_rfl) trivial ?_
    refine XO.done (by kernel_rfl) ?_
    refine hK11 _ _ ?_
    refine XW.ret (by kernel_rfl) ?_
    obtain rfl := Option.some.inj h
    exact FinP.fin (.inr rfl) [] [vi (IntKind.i64.wrap ((IntKind.i64.wrap (x3 + p3)) - (1 : Int)))] [] (by kernel_rfl) trivial (.one (.rfl _ rfl))
  refine XW.seq (x := cd Try.f63 [1,1,0,0]) (y := cd Try.f63 [1,1,0,1]) (by kernel_rfl) fun K5 hK5 => ?_
  refine XW.reg (by kernel_rfl) ?_
  refine XO.go [] 1 [0,1,2,7,8] [] [(0, vi p1), (1, vi p2), (2, vi p3), (7, vi r1), (8, vi (1 : Int))] [] [] (by kernel_rfl) trivial ?_
  refine XO.done (by kernel_rfl) ?_
  refine hK5 _ _ ?_
  refine XW.block (id := 0) (x := cd Try.f63 [1,1,0,1,0]) (by kernel_rfl) ?_
  refine XW.rounds' BIG (x := cd Try.f63 [1,1,0,1,0,0]) (by kernel_rfl) fun Q1 hQ1 => ?_
  have hL1 : ∀ (k1 : Nat) (x1 : Int) (x2 : Int), ref1_Days_l1 p1 p2 p3 k1 x1 x2 = some r → XR Try.prog 25 0 [] (cd Try.f63 [1,1,0,1,0,0]) Q1 k1 [(0, vi p1), (1, vi p2), (2, vi p3), (7, vi x1), (8, vi x2)] [] := by
    intro k1
    induction k1 with
    | zero => intro x1 x2 h; rw [ref1_Days_l1.eq_1] at h; cases h
    | succ k1 ih1 =>
      intro x1 x2 h
      rw [ref1_Days_l1.eq_2] at h
      refine XW.seq (x := cd Try.f63 [1,1,0,1,0,0,0]) (y := cd Try.f63 [1,1,0,1,0,0,1]) (by kernel_rfl) fun K6 hK6 => ?_
      refine XW.seq (x := cd Try.f63 [1,1,0,1,0,0,0,0]) (y := cd Try.f63 [1,1,0,1,0,0,0,1]) (by kernel_rfl) fun K7 hK7 => ?_
      refine XW.reg (by kernel_rfl) ?_
      refine XO.go [] 3 [0,1,2,7,8,13] [] [(0, vi p1), (1, vi p2), (2, vi p3), (7, vi x1), (8, vi x2), (13, vb (decide (x2 < p2)))] [] [] (by kernel_rfl) trivial ?_
      refine XO.done (by kernel_rfl) ?_
      refine hK7 _ _ ?_
      refine XW.cond (x := .tmp 13) (a := cd Try.f63 [1,1,0,1,0,0,0,1,0]) (b := cd Try.f63 [1,1,0,1,0,0,0,1,1]) (t := (decide (x2 < p2))) (by kernel_rfl) (by kernel_rfl) (fun b8 => ?_) (fun b8 => ?_)
      · have h := ift_t b8 h
        refine XW.skip (by kernel_rfl) ?_
        refine hK6 _ _ ?_
        refine XW.seq (x := cd Try.f63 [1,1,0,1,0,0,1,0]) (y := cd Try.f63 [1,1,0,1,0,0,1,1]) (by kernel_rfl) fun K9 hK9 => ?_
        refine XW.block (id := 1) (x := cd Try.f63 [1,1,0,1,0,0,1,0,0]) (by kernel_rfl) ?_
        obtain ⟨r2, c10, h⟩ := bnd_some h
        refine XW.reg (by kernel_rfl) ?_
        refine XO.go [] 3 [0,1,2,8,16,17,18] [] [(0, vi p1), (1, vi p2), (2, vi p3), (8, vi x2), (16, vi x1), (17, vi p1), (18, vi x2)] [] [] (by kernel_rfl) trivial ?_
        refine XO.cal 69 [vi p1, vi x2] (vi r2) [(19, vi r2), (0, vi p1), (1, vi p2), (2, vi p3), (8, vi x2), (16, vi x1), (17, vi p1), (18, vi x2)] (by kernel_rfl) (c_ref1_MonthDays _ _ _ c10) rfl rfl (by kernel_rfl) ?_
        refine XO.go [] 2 [0,1,2,7,8] [] [(0, vi p1), (1, vi p2), (2, vi p3), (7, vi (IntKind.i64.wrap (x1 + r2))), (8, vi x2)] [] [] (by kernel_rfl) trivial ?_
        refine XO.done (by kernel_rfl) ?_
        refine hK9 _ _ ?_
        refine XW.reg (by kernel_rfl) ?_
        refine XO.go [] 3 [0,1,2,7,8] [] [(0, vi p1), (1, vi p2), (2, vi p3), (7, vi (IntKind.i64.wrap (x1 + r2))), (8, vi (IntKind.i64.wrap (x2 + (1 : Int))))] [] [] (by kernel_rfl) trivial ?_
        refine XO.done (by kernel_rfl) ?_
        exact XR.sub (Sub.pick [0,1,2,7,8] (by kernel_rfl)) (ih1 (IntKind.i64.wrap (x1 + r2)) (IntKind.i64.wrap (x2 + (1 : Int))) h)
      · have h := ift_f b8 h
        refine XW.exit (id := 0) (by kernel_rfl) ?_
        refine hQ1 _ _ _ ?_
        exact hJ1 x1 h _ _ (Sub.pick [2,7] (by kernel_rfl))
  exact XR.sub (Sub.pick [0,1,2,7,8] (by kernel_rfl)) (hL1 BIG r1 (1 : Int) h)

def ref1_weekday (p1 : Int) : Option Int :=
    bnd (ref1_floor (IntKind.i64.wrap (p1 + (3 : Int))) (7 : Int)) fun r1 =>
    bnd (some (IntKind.i64.wrap ((IntKind.i64.wrap (p1 - (IntKind.i64.wrap ((7 : Int) * r1)))) + (4 : Int)))) fun y1 =>
    some y1


theorem c_ref1_weekday (p1 : Int) (r : Int) (h : ref1_weekday p1 = some r) : PC Try.prog 64 [vi p1] (vi r) := by
  unfold ref1_weekday at h
  refine PC.of (n := 10) (fn := Try.f64) (c := cd Try.f64 []) (by kernel_rfl) (by kernel_rfl) (by kernel_rfl) (Nat.le_of_ble_eq_true rfl) ?_
  refine XW.seq (x := cd Try.f64 [0]) (y := cd Try.f64 [1]) (by kernel_rfl) fun K1 hK1 => ?_
  refine XW.reg (by kernel_rfl) ?_
  refine XO.go [] 1 [0] [] [(0, vi p1)] [] [] (by kernel_rfl) trivial ?_
  refine XO.done (by kernel_rfl) ?_
  refine hK1 _ _ ?_
  refine XW.seq (x := cd Try.f64 [1,0]) (y := cd Try.f64 [1,1]) (by kernel_rfl) fun K2 hK2 => ?_
  obtain ⟨r1, c3, h⟩ := bnd_some h
  obtain ⟨y1, y4, h⟩ := bnd_some h
  refine XW.reg (by kernel_rfl) ?_
  refine XO.go [] 3 [3,5] [] [(3, vi p1), (5, vi (IntKind.i64.wrap (p1 + (3 : Int))))] [] [] (by kernel_rfl) trivial ?_
  refine XO.cal 68 [vi (IntKind.i64.wrap (p1 + (3 : Int))), vi (7 : Int)] (vi r1) [(6, vi r1), (3, vi p1), (5, vi (IntKind.i64.wrap (p1 + (3 : Int))))] (by kernel_rfl) (c_ref1_floor _ _ _ c3) rfl rfl (by kernel_rfl) ?_
  refine XO.go [] 3 [9] [] [(9, vi (IntKind.i64.wrap ((IntKind.i64.wrap (p1 - (IntKind.i64.wrap ((7 : Int) * r1)))) + (4 : Int))))] [] [] (by kernel_rfl) trivial ?_
  rw [show (IntKind.i64.wrap ((IntKind.i64.wrap (p1 - (IntKind.i64.wrap ((7 : Int) * r1)))) + (4 : Int))) = y1 from Option.some.inj y4]
  refine XO.go [] 1 [2] [] [(2, vi y1)] [] [] (by kernel_rfl) trivial ?_
  refine XO.done (by kernel_rfl) ?_
  refine hK2 _ _ ?_
  refine XW.ret (by kernel_rfl) ?_
  obtain rfl := Option.some.inj h
  exact FinP.fin (.inr rfl) [] [vi y1] [] (by kernel_rfl) trivial (.one (.rfl _ rfl))

def ref1_turn_j1 (rec1 : List Int → Int → Option Int) (x1 : Int) (l2 : List Int) : Option Int :=
    rec1 l2 (IntKind.i64.wrap (x1 + (1 : Int)))

def ref1_turn_j3 (p1 : Int) (p2 : GTurn) (l3 : List Int) (x2 : Int) : Option Int :=
    bnd (at? l3 x2) fun e1 =>
    bnd (ref1_Days p1 p2.month e1) fun r4 =>
    bnd (some (IntKind.i64.wrap ((IntKind.i64.wrap ((86400 : Int) * r4)) + (IntKind.i64.wrap ((60 : Int) * p2.minute))))) fun y2 =>
    some y2

def ref1_turn_j2 (p1 : Int) (p2 : GTurn) (l3 : List Int) : Option Int :=
    bnd (some (decide (((l3.length : Nat) : Int) ≤ (IntKind.i64.wrap (p2.week - (1 : Int)))))) fun y1 =>
    ift y1
      (ref1_turn_j3 p1 p2 l3 (IntKind.i64.wrap (((l3.length : Nat) : Int) - (1 : Int))))
      (ref1_turn_j3 p1 p2 l3 (IntKind.i64.wrap (p2.week - (1 : Int))))

def ref1_turn_l1 (p1 : Int) (p2 : GTurn) : Nat → List Int → Int → Option Int
  | 0, _, _ => none
  | k1 + 1, l1, x1 =>
    bnd (ref1_MonthDays p1 p2.month) fun r1 =>
    ift (decide (x1 ≤ r1))
      (bnd (ref1_Days p1 p2.month x1) fun r2 =>
       bnd (ref1_weekday r2) fun r3 =>
       ift (r3 == p2.weekday)
         (grd (l1.length + 1 ≤ 4294967296) <|
          ref1_turn_j1 (ref1_turn_l1 p1 p2 k1) x1 (l1 ++ [x1]))
         (ref1_turn_j1 (ref1_turn_l1 p1 p2 k1) x1 l1))
      (ref1_turn_j2 p1 p2 l1)

def ref1_turn (p1 : Int) (p2 : GTurn) : Option Int :=
    ref1_turn_l1 p1 p2 BIG [] (1 : Int)


theorem c_ref1_turn (p1 : Int) (p2 : GTurn) (r : Int) (h : ref1_turn p1 p2 = some r) : PC Try.prog 91 [vi p1, .ag [ci p2.month, ci p2.week, ci p2.weekday, ci p2.minute]] (vi r) := by
  unfold ref1_turn at h
  refine PC.of (n := 52) (fn := Try.f91) (c := cd Try.f91 []) (by kernel_rfl) (by kernel_rfl) (by kernel_rfl) (Nat.le_of_ble_eq_true rfl) ?_
  refine XW.seq (x := cd Try.f91 [0]) (y := cd Try.f91 [1]) (by kernel_rfl) fun K1 hK1 => ?_
  refine XW.reg (by kernel_rfl) ?_
  refine XO.go [] 2 [0,3] [] [(0, vi p1), (3, .one (.pv (.rp [[pi p2.month, pi p2.week, pi p2.weekday, pi p2.minute]] 0 0)))] [] [] (by kernel_rfl) trivial ?_
  refine XO.done (by kernel_rfl) ?_
  refine hK1 _ _ ?_
  refine XW.seq (x := cd Try.f91 [1,0]) (y := cd Try.f91 [1,1]) (by kernel_rfl) fun K2 hK2 => ?_
  refine XW.reg (by kernel_rfl) ?_
  refine XO.go [] 1 [0,3,5] [] [(0, vi p1), (3, .one (.pv (.rp [[pi p2.month, pi p2.week, pi p2.weekday, pi p2.minute]] 0 0))), (5, .one (.pv (.s (.slice none 0 0))))] [] [] (by kernel_rfl) trivial ?_
  refine XO.done (by kernel_rfl) ?_
  refine hK2 _ _ ?_
  refine XW.seq (x := cd Try.f91 [1,1,0]) (y := cd Try.f91 [1,1,1]) (by kernel_rfl) fun K3 hK3 => ?_
  have hJ2 : ∀ (l3 : List Int), ref1_turn_j2 p1 p2 l3 = some r → ∀ fr1 st1, Sub 52 0 [] fr1 st1 [(0, vi p1), (3, .one (.pv (.rp [[pi p2.month, pi p2.week, pi p2.weekday, pi p2.minute]] 0 0))), (5, .one (.sl 0 1 0 l3.length))] [.arr 1 (eI.els l3)] → K3 fr1 st1 := by
    intro l3 h fr1 st1 hS
    unfold ref1_turn_j2 at h
    refine hK3 _ _ (XW.sub hS ?_)
    refine XW.seq (x := cd Try.f91 [1,1,1,0]) (y := cd Try.f91 [1,1,1,1]) (by kernel_rfl) fun K15 hK15 => ?_
    refine XW.reg (by kernel_rfl) ?_
    refine XO.go [] 4 [0,3,5,7] [[pi p2.month, pi p2.week, pi p2.weekday, pi p2.minute]] [(0, vi p1), (3, .one (.pv (.rp [[pi p2.month, pi p2.week, pi p2.weekday, pi p2.minute]] 0 0))), (5, .one (.sl 0 1 0 l3.length)), (7, vi (IntKind.i64.wrap (p2.week - (1 : Int))))] [.arr 1 (eI.els l3)] [([[pi p2.month, pi p2.week, pi p2.weekday, pi p2.minute]] : List (List PV))[0]? = some [pi p2.month, pi p2.week, pi p2.weekday, pi p2.minute]] (by kernel_rfl) (⟨rfl, trivial⟩) ?_
    refine XO.done (by kernel_rfl) ?_
    refine hK15 _ _ ?_
    refine XW.seq (x := cd Try.f91 [1,1,1,1,0]) (y := cd Try.f91 [1,1,1,1,1]) (by kernel_rfl) fun K16 hK16 => ?_
    have hJ3 : ∀ (x2 : Int), ref1_turn_j3 p1 p2 l3 x2 = some r → ∀ fr1 st1, Sub 52 0 [] fr1 st1 [(0, vi p1), (3, .one (.pv (.rp [[pi p2.month, pi p2.week, pi p2.weekday, pi p2.minute]] 0 0))), (5, .one (.sl 0 1 0 l3.length)), (7, vi x2)] [.arr 1 (eI.els l3)] → K16 fr1 st1 := by
      intro x2 h fr1 st1 hS
      unfold ref1_turn_j3 at h
      refine hK16 _ _ (XW.sub hS ?_)
      refine XW.seq (x := cd Try.f91 [1,1,1,1,1,0]) (y := cd Try.f91 [1,1,1,1,1,1]) (by kernel_rfl) fun K20 hK20 => ?_
      obtain ⟨e1, a21, h⟩ := bnd_some h
      obtain ⟨r4, c22, h⟩ := bnd_some h
      obtain ⟨y2, y23, h⟩ := bnd_some h
      refine XW.drwS 12 [(50, vi (IntKind.i64.wrap ((60 : Int) * p2.minute))), (49, vi p2.minute), (48, .one (.pv (.rp [[pi p2.month, pi p2.week, pi p2.weekday, pi p2.minute]] 0 3))), (47, vi (IntKind.i64.wrap ((86400 : Int) * r4))), (46, vi r4), (45, vi e1), (44, .one (.pt 0 1 (0 + x2.toNat) 0)), (43, vi x2), (42, .one (.sl 0 1 0 l3.length)), (41, vi p2.month), (40, .one (.pv (.rp [[pi p2.month, pi p2.week, pi p2.weekday, pi p2.minute]] 0 0))), (39, vi p1), (0, vi p1), (3, .one (.pv (.rp [[pi p2.month, pi p2.week, pi p2.weekday, pi p2.minute]] 0 0))), (5, .one (.sl 0 1 0 l3.length)), (7, vi x2)] (by kernel_rfl) (by kernel_rfl) ?_ ?_
      · refine DX.go 7 [[pi p2.month, pi p2.week, pi p2.weekday, pi p2.minute], [pi e1]] [(45, vi e1), (44, .one (.pt 0 1 (0 + x2.toNat) 0)), (43, vi x2), (42, .one (.sl 0 1 0 l3.length)), (41, vi p2.month), (40, .one (.pv (.rp [[pi p2.month, pi p2.week, pi p2.weekday, pi p2.minute]] 0 0))), (39, vi p1), (0, vi p1), (3, .one (.pv (.rp [[pi p2.month, pi p2.week, pi p2.weekday, pi p2.minute]] 0 0))), (5, .one (.sl 0 1 0 l3.length)), (7, vi x2)] [([[pi p2.month, pi p2.week, pi p2.weekday, pi p2.minute]] : List (List PV))[0]? = some [pi p2.month, pi p2.week, pi p2.weekday, pi p2.minute], 0 ≤ x2 ∧ x2 < ((l3.length : Nat) : Int), (eI.els l3)[(0 + x2.toNat)]? = some [pi e1]] (by kernel_rfl) (⟨rfl, Enc.inb' a21, (eI.get0 a21), trivial⟩) ?_
        refine DX.cal 63 [vi p1, vi p2.month, vi e1] (vi r4) [(46, vi r4), (45, vi e1), (44, .one (.pt 0 1 (0 + x2.toNat) 0)), (43, vi x2), (42, .one (.sl 0 1 0 l3.length)), (41, vi p2.month), (40, .one (.pv (.rp [[pi p2.month, pi p2.week, pi p2.weekday, pi p2.minute]] 0 0))), (39, vi p1), (0, vi p1), (3, .one (.pv (.rp [[pi p2.month, pi p2.week, pi p2.weekday, pi p2.minute]] 0 0))), (5, .one (.sl 0 1 0 l3.length)), (7, vi x2)] (by kernel_rfl) (c_ref1_Days _ _ _ _ c22) rfl rfl (by kernel_rfl) ?_
        refine DX.go 4 [[pi p2.month, pi p2.week, pi p2.weekday, pi p2.minute]] [(50, vi (IntKind.i64.wrap ((60 : Int) * p2.minute))), (49, vi p2.minute), (48, .one (.pv (.rp [[pi p2.month, pi p2.week, pi p2.weekday, pi p2.minute]] 0 3))), (47, vi (IntKind.i64.wrap ((86400 : Int) * r4))), (46, vi r4), (45, vi e1), (44, .one (.pt 0 1 (0 + x2.toNat) 0)), (43, vi x2), (42, .one (.sl 0 1 0 l3.length)), (41, vi p2.month), (40, .one (.pv (.rp [[pi p2.month, pi p2.week, pi p2.weekday, pi p2.minute]] 0 0))), (39, vi p1), (0, vi p1), (3, .one (.pv (.rp [[pi p2.month, pi p2.week, pi p2.weekday, pi p2.minute]] 0 0))), (5, .one (.sl 0 1 0 l3.length)), (7, vi x2)] [([[pi p2.month, pi p2.week, pi p2.weekday, pi p2.minute]] : List (List PV))[0]? = some [pi p2.month, pi p2.week, pi p2.weekday, pi p2.minute]] (by kernel_rfl) (⟨rfl, trivial⟩) ?_
        exact DX.done (by kernel_rfl)
      refine XO.go [] 1 [51] [] [(51, vi (IntKind.i64.wrap ((IntKind.i64.wrap ((86400 : Int) * r4)) + (IntKind.i64.wrap ((60 : Int) * p2.minute)))))] [.arr 1 (eI.els l3)] [] (by kernel_rfl) trivial ?_
      rw [show (IntKind.i64.wrap ((IntKind.i64.wrap ((86400 : Int) * r4)) + (IntKind.i64.wrap ((60 : Int) * p2.minute)))) = y2 from Option.some.inj y23]
      refine XO.go [] 1 [4] [] [(4, vi y2)] [.arr 1 (eI.els l3)] [] (by kernel_rfl) trivial ?_
      refine XO.done (by kernel_rfl) ?_
      refine hK20 _ _ ?_
      refine XW.ret (by kernel_rfl) ?_
      obtain rfl := Option.some.inj h
      exact FinP.fin (.inr rfl) [] [vi y2] [] (by kernel_rfl) trivial (.one (.rfl _ rfl))
    refine XW.seq (x := cd Try.f91 [1,1,1,1,0,0]) (y := cd Try.f91 [1,1,1,1,0,1]) (by kernel_rfl) fun K17 hK17 => ?_
    obtain ⟨y1, y18, h⟩ := bnd_some h
    refine XW.reg (by kernel_rfl) ?_
    refine XO.go [] 4 [0,3,5,7,35] [] [(0, vi p1), (3, .one (.pv (.rp [[pi p2.month, pi p2.week, pi p2.weekday, pi p2.minute]] 0 0))), (5, .one (.sl 0 1 0 l3.length)), (7, vi (IntKind.i64.wrap (p2.week - (1 : Int)))), (35, vb (decide (((l3.length : Nat) : Int) ≤ (IntKind.i64.wrap (p2.week - (1 : Int))))))] [.arr 1 (eI.els l3)] [] (by kernel_rfl) trivial ?_
    rw [show (decide (((l3.length : Nat) : Int) ≤ (IntKind.i64.wrap (p2.week - (1 : Int))))) = y1 from Option.some.inj y18]
    refine XO.done (by kernel_rfl) ?_
    refine hK17 _ _ ?_
    refine XW.cond (x := .tmp 35) (a := cd Try.f91 [1,1,1,1,0,1,0]) (b := cd Try.f91 [1,1,1,1,0,1,1]) (t := y1) (by kernel_rfl) (by kernel_rfl) (fun b19 => ?_) (fun b19 => ?_)
    · have h := ift_t b19 h
      refine XW.reg (by kernel_rfl) ?_
      refine XO.go [] 4 [0,3,5,7] [] [(0, vi p1), (3, .one (.pv (.rp [[pi p2.month, pi p2.week, pi p2.weekday, pi p2.minute]] 0 0))), (5, .one (.sl 0 1 0 l3.length)), (7, vi (IntKind.i64.wrap (((l3.length : Nat) : Int) - (1 : Int))))] [.arr 1 (eI.els l3)] [] (by kernel_rfl) trivial ?_
      refine XO.done (by kernel_rfl) ?_
      exact hJ3 (IntKind.i64.wrap (((l3.length : Nat) : Int) - (1 : Int))) h _ _ (Sub.pick [0,3,5,7] (by kernel_rfl))
    · have h := ift_f b19 h
      refine XW.skip (by kernel_rfl) ?_
      exact hJ3 (IntKind.i64.wrap (p2.week - (1 : Int))) h _ _ (Sub.pick [0,3,5,7] (by kernel_rfl))
  refine XW.seq (x := cd Try.f91 [1,1,0,0]) (y := cd Try.f91 [1,1,0,1]) (by kernel_rfl) fun K4 hK4 => ?_
  refine XW.reg (by kernel_rfl) ?_
  refine XO.go [] 1 [0,3,5,6] [] [(0, vi p1), (3, .one (.pv (.rp [[pi p2.month, pi p2.week, pi p2.weekday, pi p2.minute]] 0 0))), (5, .one (.pv (.s (.slice none 0 0)))), (6, vi (1 : Int))] [] [] (by kernel_rfl) trivial ?_
  refine XO.done (by kernel_rfl) ?_
  refine hK4 _ _ ?_
  refine XW.block (id := 0) (x := cd Try.f91 [1,1,0,1,0]) (by kernel_rfl) ?_
  refine XW.sub (Sub.list (t := 5) (sz := 1) rfl) ?_
  refine XW.rounds' BIG (x := cd Try.f91 [1,1,0,1,0,0]) (by kernel_rfl) fun Q1 hQ1 => ?_
  have hL1 : ∀ (k1 : Nat) (l1 : List Int) (x1 : Int), ref1_turn_l1 p1 p2 k1 l1 x1 = some r → XR Try.prog 52 0 [] (cd Try.f91 [1,1,0,1,0,0]) Q1 k1 [(0, vi p1), (3, .one (.pv (.rp [[pi p2.month, pi p2.week, pi p2.weekday, pi p2.minute]] 0 0))), (5, .one (.sl 0 1 0 l1.length)), (6, vi x1)] [.arr 1 (eI.els l1)] := by
    intro k1
    induction k1 with
    | zero => intro l1 x1 h; rw [ref1_turn_l1.eq_1] at h; cases h
    | succ k1 ih1 =>
      intro l1 x1 h
      rw [ref1_turn_l1.eq_2] at h
      refine XW.seq (x := cd Try.f91 [1,1,0,1,0,0,0]) (y := cd Try.f91 [1,1,0,1,0,0,1]) (by kernel_rfl) fun K5 hK5 => ?_
      refine XW.seq (x := cd Try.f91 [1,1,0,1,0,0,0,0]) (y := cd Try.f91 [1,1,0,1,0,0,0,1]) (by kernel_rfl) fun K6 hK6 => ?_
      obtain ⟨r1, c7, h⟩ := bnd_some h
      refine XW.reg (by kernel_rfl) ?_
      refine XO.go [] 4 [0,3,5,6,8,9,11] [[pi p2.month, pi p2.week, pi p2.weekday, pi p2.minute]] [(0, vi p1), (3, .one (.pv (.rp [[pi p2.month, pi p2.week, pi p2.weekday, pi p2.minute]] 0 0))), (5, .one (.sl 0 1 0 l1.length)), (6, vi x1), (8, vi x1), (9, vi p1), (11, vi p2.month)] [.arr 1 (eI.els l1)] [([[pi p2.month, pi p2.week, pi p2.weekday, pi p2.minute]] : List (List PV))[0]? = some [pi p2.month, pi p2.week, pi p2.weekday, pi p2.minute]] (by kernel_rfl) (⟨rfl, trivial⟩) ?_
      refine XO.cal 69 [vi p1, vi p2.month] (vi r1) [(12, vi r1), (0, vi p1), (3, .one (.pv (.rp [[pi p2.month, pi p2.week, pi p2.weekday, pi p2.minute]] 0 0))), (5, .one (.sl 0 1 0 l1.length)), (6, vi x1), (8, vi x1), (9, vi p1), (11, vi p2.month)] (by kernel_rfl) (c_ref1_MonthDays _ _ _ c7) rfl rfl (by kernel_rfl) ?_
      refine XO.go [] 1 [0,3,5,6,13] [] [(0, vi p1), (3, .one (.pv (.rp [[pi p2.month, pi p2.week, pi p2.weekday, pi p2.minute]] 0 0))), (5, .one (.sl 0 1 0 l1.length)), (6, vi x1), (13, vb (decide (x1 ≤ r1)))] [.arr 1 (eI.els l1)] [] (by kernel_rfl) trivial ?_
      refine XO.done (by kernel_rfl) ?_
      refine hK6 _ _ ?_
      refine XW.cond (x := .tmp 13) (a := cd Try.f91 [1,1,0,1,0,0,0,1,0]) (b := cd Try.f91 [1,1,0,1,0,0,0,1,1]) (t := (decide (x1 ≤ r1))) (by kernel_rfl) (by kernel_rfl) (fun b8 => ?_) (fun b8 => ?_)
      · have h := ift_t b8 h
        refine XW.skip (by kernel_rfl) ?_
        refine hK5 _ _ ?_
        refine XW.seq (x := cd Try.f91 [1,1,0,1,0,0,1,0]) (y := cd Try.f91 [1,1,0,1,0,0,1,1]) (by kernel_rfl) fun K9 hK9 => ?_
        have hJ1 : ∀ (l2 : List Int), ref1_turn_j1 (ref1_turn_l1 p1 p2 k1) x1 l2 = some r → ∀ fr1 st1, Sub 52 0 [] fr1 st1 [(0, vi p1), (3, .one (.pv (.rp [[pi p2.month, pi p2.week, pi p2.weekday, pi p2.minute]] 0 0))), (5, .one (.sl 0 1 0 l2.length)), (6, vi x1)] [.arr 1 (eI.els l2)] → K9 fr1 st1 := by
          intro l2 h fr1 st1 hS
          unfold ref1_turn_j1 at h
          refine hK9 _ _ (XW.sub hS ?_)
          refine XW.reg (by kernel_rfl) ?_
          refine XO.go [] 3 [0,3,5,6] [] [(0, vi p1), (3, .one (.pv (.rp [[pi p2.month, pi p2.week, pi p2.weekday, pi p2.minute]] 0 0))), (5, .one (.sl 0 1 0 l2.length)), (6, vi (IntKind.i64.wrap (x1 + (1 : Int))))] [.arr 1 (eI.els l2)] [] (by kernel_rfl) trivial ?_
          refine XO.done (by kernel_rfl) ?_
          exact XR.sub (Sub.pick [0,3,5,6] (by kernel_rfl)) (ih1 l2 (IntKind.i64.wrap (x1 + (1 : Int))) h)
        refine XW.block (id := 1) (x := cd Try.f91 [1,1,0,1,0,0,1,0,0]) (by kernel_rfl) ?_
        refine XW.seq (x := cd Try.f91 [1,1,0,1,0,0,1,0,0,0]) (y := cd Try.f91 [1,1,0,1,0,0,1,0,0,1]) (by kernel_rfl) fun K10 hK10 => ?_
        obtain ⟨r2, c11, h⟩ := bnd_some h
        obtain ⟨r3, c12, h⟩ := bnd_some h
        refine XW.drwS 8 [(23, vi p2.weekday), (22, .one (.pv (.rp [[pi p2.month, pi p2.week, pi p2.weekday, pi p2.minute]] 0 2))), (21, vi r3), (20, vi r2), (19, vi x1), (18, vi p2.month), (17, .one (.pv (.rp [[pi p2.month, pi p2.week, pi p2.weekday, pi p2.minute]] 0 0))), (16, vi p1), (0, vi p1), (3, .one (.pv (.rp [[pi p2.month, pi p2.week, pi p2.weekday, pi p2.minute]] 0 0))), (5, .one (.sl 0 1 0 l1.length)), (6, vi x1), (13, vb (decide (x1 ≤ r1)))] (by kernel_rfl) (by kernel_rfl) ?_ ?_
        · refine DX.go 4 [[pi p2.month, pi p2.week, pi p2.weekday, pi p2.minute]] [(19, vi x1), (18, vi p2.month), (17, .one (.pv (.rp [[pi p2.month, pi p2.week, pi p2.weekday, pi p2.minute]] 0 0))), (16, vi p1), (0, vi p1), (3, .one (.pv (.rp [[pi p2.month, pi p2.week, pi p2.weekday, pi p2.minute]] 0 0))), (5, .one (.sl 0 1 0 l1.length)), (6, vi x1), (13, vb (decide (x1 ≤ r1)))] [([[pi p2.month, pi p2.week, pi p2.weekday, pi p2.minute]] : List (List PV))[0]? = some [pi p2.month, pi p2.week, pi p2.weekday, pi p2.minute]] (by kernel_rfl) (⟨rfl, trivial⟩) ?_
          refine DX.cal 63 [vi p1, vi p2.month, vi x1] (vi r2) [(20, vi r2), (19, vi x1), (18, vi p2.month), (17, .one (.pv (.rp [[pi p2.month, pi p2.week, pi p2.weekday, pi p2.minute]] 0 0))), (16, vi p1), (0, vi p1), (3, .one (.pv (.rp [[pi p2.month, pi p2.week, pi p2.weekday, pi p2.minute]] 0 0))), (5, .one (.sl 0 1 0 l1.length)), (6, vi x1), (13, vb (decide (x1 ≤ r1)))] (by kernel_rfl) (c_ref1_Days _ _ _ _ c11) rfl rfl (by kernel_rfl) ?_
          refine DX.cal 64 [vi r2] (vi r3) [(21, vi r3), (20, vi r2), (19, vi x1), (18, vi p2.month), (17, .one (.pv (.rp [[pi p2.month, pi p2.week, pi p2.weekday, pi p2.minute]] 0 0))), (16, vi p1), (0, vi p1), (3, .one (.pv (.rp [[pi p2.month, pi p2.week, pi p2.weekday, pi p2.minute]] 0 0))), (5, .one (.sl 0 1 0 l1.length)), (6, vi x1), (13, vb (decide (x1 ≤ r1)))] (by kernel_rfl) (c_ref1_weekday _ _ c12) rfl rfl (by kernel_rfl) ?_
          refine DX.go 2 [[pi p2.month, pi p2.week, pi p2.weekday, pi p2.minute]] [(23, vi p2.weekday), (22, .one (.pv (.rp [[pi p2.month, pi p2.week, pi p2.weekday, pi p2.minute]] 0 2))), (21, vi r3), (20, vi r2), (19, vi x1), (18, vi p2.month), (17, .one (.pv (.rp [[pi p2.month, pi p2.week, pi p2.weekday, pi p2.minute]] 0 0))), (16, vi p1), (0, vi p1), (3, .one (.pv (.rp [[pi p2.month, pi p2.week, pi p2.weekday, pi p2.minute]] 0 0))), (5, .one (.sl 0 1 0 l1.length)), (6, vi x1), (13, vb (decide (x1 ≤ r1)))] [([[pi p2.month, pi p2.week, pi p2.weekday, pi p2.minute]] : List (List PV))[0]? = some [pi p2.month, pi p2.week, pi p2.weekday, pi p2.minute]] (by kernel_rfl) (⟨rfl, trivial⟩) ?_
          exact DX.done (by kernel_rfl)
        refine XO.go [] 1 [0,3,5,6,24] [] [(0, vi p1), (3, .one (.pv (.rp [[pi p2.month, pi p2.week, pi p2.weekday, pi p2.minute]] 0 0))), (5, .one (.sl 0 1 0 l1.length)), (6, vi x1), (24, vb (r3 == p2.weekday))] [.arr 1 (eI.els l1)] [] (by kernel_rfl) trivial ?_
        refine XO.done (by kernel_rfl) ?_
        refine hK10 _ _ ?_
        refine XW.cond (x := .tmp 24) (a := cd Try.f91 [1,1,0,1,0,0,1,0,0,1,0]) (b := cd Try.f91 [1,1,0,1,0,0,1,0,0,1,1]) (t := (r3 == p2.weekday)) (by kernel_rfl) (by kernel_rfl) (fun b13 => ?_) (fun b13 => ?_)
        · have h := ift_t b13 h
          obtain ⟨g14, h⟩ := grd_some h
          refine XW.reg (by kernel_rfl) ?_
          refine XO.go [] 4 [0,3,6,28] [] [(0, vi p1), (3, .one (.pv (.rp [[pi p2.month, pi p2.week, pi p2.weekday, pi p2.minute]] 0 0))), (6, vi x1), (28, .one (.sl 0 1 0 (l1.length + (eI.els [x1]).length)))] [.arr 1 (eI.els l1 ++ eI.els [x1])] [elemsOk 1 (eI.els [x1]), l1.length = (eI.els l1).length, l1.length + (eI.els [x1]).length ≤ 4294967296] (by kernel_rfl) (⟨eI.ok _, (eI.len l1).symm, g14, trivial⟩) ?_
          rw [show l1.length + (eI.els [x1]).length = (l1 ++ [x1]).length from eI.lapp _ _]
          rw [show eI.els l1 ++ eI.els [x1] = eI.els (l1 ++ [x1]) from eI.app2 _ _]
          refine XO.go [] 1 [0,3,5,6] [] [(0, vi p1), (3, .one (.pv (.rp [[pi p2.month, pi p2.week, pi p2.weekday, pi p2.minute]] 0 0))), (5, .one (.sl 0 1 0 ((l1 ++ [x1]).length))), (6, vi x1)] [.arr 1 (eI.els (l1 ++ [x1]))] [] (by kernel_rfl) trivial ?_
          refine XO.done (by kernel_rfl) ?_
          exact hJ1 (l1 ++ [x1]) h _ _ (Sub.pick [0,3,5,6] (by kernel_rfl))
        · have h := ift_f b13 h
          refine XW.skip (by kernel_rfl) ?_
          exact hJ1 l1 h _ _ (Sub.pick [0,3,5,6] (by kernel_rfl))
      · have h := ift_f b8 h
        refine XW.exit (id := 0) (by kernel_rfl) ?_
        refine hQ1 _ _ _ ?_
        exact hJ2 l1 h _ _ (Sub.pick [0,3,5] (by kernel_rfl))
  exact XR.sub (Sub.pick [0,3,5,6] (by kernel_rfl)) (hL1 BIG [] (1 : Int) h)

def ref1_ahead_j2 (p1 : GZone) (x2 : Bool) : Option Int :=
    ift x2
      (bnd (some (IntKind.i64.wrap ((IntKind.i64.wrap ((60 : Int) * p1.offset)) + (IntKind.i64.wrap ((60 : Int) * p1.summer))))) fun y5 =>
       some y5)
      (some (IntKind.i64.wrap ((60 : Int) * p1.offset)))

def ref1_ahead_j1 (p1 : GZone) (p2 : Int) (r2 : Int) (y1 : Int) (x1 : Bool) : Option Int :=
    bnd (some (decide (y1 ≤ (IntKind.i64.wrap (r2 - (IntKind.i64.wrap ((60 : Int) * p1.offset))))))) fun y3 =>
    ift y3
      (ift (decide (p2 < y1))
         (ref1_ahead_j2 p1 true)
         (bnd (some (decide ((IntKind.i64.wrap (r2 - (IntKind.i64.wrap ((60 : Int) * p1.offset)))) ≤ p2))) fun y4 =>
          ref1_ahead_j2 p1 y4))
      (ref1_ahead_j2 p1 x1)

def ref1_ahead (p1 : GZone) (p2 : Int) : Option Int :=
    ift (p1.summer == (0 : Int))
      (some (IntKind.i64.wrap ((60 : Int) * p1.offset)))
      (bnd (ref1_civil (IntKind.i64.wrap (p2 + (IntKind.i64.wrap ((60 : Int) * p1.offset))))) fun r1 =>
       bnd (ref1_turn r1.year p1.start) fun r2 =>
       bnd (ref1_turn r1.year p1.stop) fun r3 =>
       bnd (some (IntKind.i64.wrap ((IntKind.i64.wrap (r3 - (IntKind.i64.wrap ((60 : Int) * p1.offset)))) - (IntKind.i64.wrap ((60 : Int) * p1.summer))))) fun y1 =>
       bnd (some (decide ((IntKind.i64.wrap (r2 - (IntKind.i64.wrap ((60 : Int) * p1.offset)))) ≤ p2))) fun y2 =>
       ift y2
         (ref1_ahead_j1 p1 p2 r2 y1 (decide (p2 < y1)))
         (ref1_ahead_j1 p1 p2 r2 y1 false))


theorem c_ref1_ahead (p1 : GZone) (p2 : Int) (r : Int) (h : ref1_ahead p1 p2 = some r) : PC Try.prog 60 [.ag [cst p1.name, ci p1.offset, ci p1.summer, ci p1.start.month, ci p1.start.week, ci p1.start.weekday, ci p1.start.minute, ci p1.stop.month, ci p1.stop.week, ci p1.stop.weekday, ci p1.stop.minute], vi p2] (vi r) := by
  unfold ref1_ahead at h
  refine PC.of (n := 64) (fn := Try.f60) (c := cd Try.f60 []) (by kernel_rfl) (by kernel_rfl) (by kernel_rfl) (Nat.le_of_ble_eq_true rfl) ?_
  refine XW.seq (x := cd Try.f60 [0]) (y := cd Try.f60 [1]) (by kernel_rfl) fun K1 hK1 => ?_
  refine XW.reg (by kernel_rfl) ?_
  refine XO.go [] 2 [1,2] [] [(1, vi p2), (2, .one (.pv (.rp [[.s (.string p1.name), pi p1.offset, pi p1.summer, pi p1.start.month, pi p1.start.week, pi p1.start.weekday, pi p1.start.minute, pi p1.stop.month, pi p1.stop.week, pi p1.stop.weekday, pi p1.stop.minute]] 0 0)))] [] [] (by kernel_rfl) trivial ?_
  refine XO.done (by kernel_rfl) ?_
  refine hK1 _ _ ?_
  refine XW.seq (x := cd Try.f60 [1,0]) (y := cd Try.f60 [1,1]) (by kernel_rfl) fun K2 hK2 => ?_
  refine XW.reg (by kernel_rfl) ?_
  refine XO.go [] 4 [1,2,5] [[.s (.string p1.name), pi p1.offset, pi p1.summer, pi p1.start.month, pi p1.start.week, pi p1.start.weekday, pi p1.start.minute, pi p1.stop.month, pi p1.stop.week, pi p1.stop.weekday, pi p1.stop.minute]] [(1, vi p2), (2, .one (.pv (.rp [[.s (.string p1.name), pi p1.offset, pi p1.summer, pi p1.start.month, pi p1.start.week, pi p1.start.weekday, pi p1.start.minute, pi p1.stop.month, pi p1.stop.week, pi p1.stop.weekday, pi p1.stop.minute]] 0 0))), (5, vi (IntKind.i64.wrap ((60 : Int) * p1.offset)))] [] [([[.s (.string p1.name), pi p1.offset, pi p1.summer, pi p1.start.month, pi p1.start.week, pi p1.start.weekday, pi p1.start.minute, pi p1.stop.month, pi p1.stop.week, pi p1.stop.weekday, pi p1.stop.minute]] : List (List PV))[0]? = some [.s (.string p1.name), pi p1.offset, pi p1.summer, pi p1.start.month, pi p1.start.week, pi p1.start.weekday, pi p1.start.minute, pi p1.stop.month, pi p1.stop.week, pi p1.stop.weekday, pi p1.stop.minute]] (by kernel_rfl) (⟨rfl, trivial⟩) ?_
  refine XO.done (by kernel_rfl) ?_
  refine hK2 _ _ ?_
  refine XW.seq (x := cd Try.f60 [1,1,0]) (y := cd Try.f60 [1,1,1]) (by kernel_rfl) fun K3 hK3 => ?_
  refine XW.seq (x := cd Try.f60 [1,1,0,0]) (y := cd Try.f60 [1,1,0,1]) (by kernel_rfl) fun K4 hK4 => ?_
  refine XW.reg (by kernel_rfl) ?_
  refine XO.go [] 3 [1,2,5,15] [[.s (.string p1.name), pi p1.offset, pi p1.summer, pi p1.start.month, pi p1.start.week, pi p1.start.weekday, pi p1.start.minute, pi p1.stop.month, pi p1.stop.week, pi p1.stop.weekday, pi p1.stop.minute]] [(1, vi p2), (2, .one (.pv (.rp [[.s (.string p1.name), pi p1.offset, pi p1.summer, pi p1.start.month, pi p1.start.week, pi p1.start.weekday, pi p1.start.minute, pi p1.stop.month, pi p1.stop.week, pi p1.stop.weekday, pi p1.stop.minute]] 0 0))), (5, vi (IntKind.i64.wrap ((60 : Int) * p1.offset))), (15, vb (p1.summer == (0 : Int)))] [] [([[.s (.string p1.name), pi p1.offset, pi p1.summer, pi p1.start.month, pi p1.start.week, pi p1.start.weekday, pi p1.start.minute, pi p1.stop.month, pi p1.stop.week, pi p1.stop.weekday, pi p1.stop.minute]] : List (List PV))[0]? = some [.s (.string p1.name), pi p1.offset, pi p1.summer, pi p1.start.month, pi p1.start.week, pi p1.start.weekday, pi p1.start.minute, pi p1.stop.month, pi p1.stop.week, pi p1.stop.weekday, pi p1.stop.minute]] (by kernel_rfl) (⟨rfl, trivial⟩) ?_
  refine XO.done (by kernel_rfl) ?_
  refine hK4 _ _ ?_
  refine XW.cond (x := .tmp 15) (a := cd Try.f60 [1,1,0,1,0]) (b := cd Try.f60 [1,1,0,1,1]) (t := (p1.summer == (0 : Int))) (by kernel_rfl) (by kernel_rfl) (fun b5 => ?_) (fun b5 => ?_)
  · have h := ift_t b5 h
    refine XW.seq (x := cd Try.f60 [1,1,0,1,0,0]) (y := cd Try.f60 [1,1,0,1,0,1]) (by kernel_rfl) fun K6 hK6 => ?_
    refine XW.reg (by kernel_rfl) ?_
    refine XO.go [] 2 [4] [] [(4, vi (IntKind.i64.wrap ((60 : Int) * p1.offset)))] [] [] (by kernel_rfl) trivial ?_
    refine XO.done (by kernel_rfl) ?_
    refine hK6 _ _ ?_
    refine XW.ret (by kernel_rfl) ?_
    obtain rfl := Option.some.inj h
    exact FinP.fin (.inr rfl) [] [vi (IntKind.i64.wrap ((60 : Int) * p1.offset))] [] (by kernel_rfl) trivial (.one (.rfl _ rfl))
  · have h := ift_f b5 h
    refine XW.skip (by kernel_rfl) ?_
    refine hK3 _ _ ?_
    refine XW.seq (x := cd Try.f60 [1,1,1,0]) (y := cd Try.f60 [1,1,1,1]) (by kernel_rfl) fun K7 hK7 => ?_
    obtain ⟨r1, c8, h⟩ := bnd_some h
    refine XW.reg (by kernel_rfl) ?_
    refine XO.go [] 3 [1,2,5,19] [] [(1, vi p2), (2, .one (.pv (.rp [[.s (.string p1.name), pi p1.offset, pi p1.summer, pi p1.start.month, pi p1.start.week, pi p1.start.weekday, pi p1.start.minute, pi p1.stop.month, pi p1.stop.week, pi p1.stop.weekday, pi p1.stop.minute]] 0 0))), (5, vi (IntKind.i64.wrap ((60 : Int) * p1.offset))), (19, vi (IntKind.i64.wrap (p2 + (IntKind.i64.wrap ((60 : Int) * p1.offset)))))] [] [] (by kernel_rfl) trivial ?_
    refine XO.cal 59 [vi (IntKind.i64.wrap (p2 + (IntKind.i64.wrap ((60 : Int) * p1.offset))))] (.ag [ci r1.year, ci r1.month, ci r1.day, ci r1.hour, ci r1.minute, ci r1.second]) [(20, .ag [ci r1.year, ci r1.month, ci r1.day, ci r1.hour, ci r1.minute, ci r1.second]), (1, vi p2), (2, .one (.pv (.rp [[.s (.string p1.name), pi p1.offset, pi p1.summer, pi p1.start.month, pi p1.start.week, pi p1.start.weekday, pi p1.start.minute, pi p1.stop.month, pi p1.stop.week, pi p1.stop.weekday, pi p1.stop.minute]] 0 0))), (5, vi (IntKind.i64.wrap ((60 : Int) * p1.offset))), (19, vi (IntKind.i64.wrap (p2 + (IntKind.i64.wrap ((60 : Int) * p1.offset)))))] (by kernel_rfl) (c_ref1_civil _ _ c8) rfl rfl (by kernel_rfl) ?_
    refine XO.go [] 2 [1,2,5,6] [] [(1, vi p2), (2, .one (.pv (.rp [[.s (.string p1.name), pi p1.offset, pi p1.summer, pi p1.start.month, pi p1.start.week, pi p1.start.weekday, pi p1.start.minute, pi p1.stop.month, pi p1.stop.week, pi p1.stop.weekday, pi p1.stop.minute]] 0 0))), (5, vi (IntKind.i64.wrap ((60 : Int) * p1.offset))), (6, vi r1.year)] [] [] (by kernel_rfl) trivial ?_
    refine XO.done (by kernel_rfl) ?_
    refine hK7 _ _ ?_
    refine XW.seq (x := cd Try.f60 [1,1,1,1,0]) (y := cd Try.f60 [1,1,1,1,1]) (by kernel_rfl) fun K9 hK9 => ?_
    obtain ⟨r2, c10, h⟩ := bnd_some h
    obtain ⟨r3, c11, h⟩ := bnd_some h
    obtain ⟨y1, y12, h⟩ := bnd_some h
    refine XW.drwS 17 [(7, vi (IntKind.i64.wrap (r2 - (IntKind.i64.wrap ((60 : Int) * p1.offset))))), (37, vi y1), (36, vi (IntKind.i64.wrap ((60 : Int) * p1.summer))), (35, vi p1.summer), (34, .one (.pv (.rp [[.s (.string p1.name), pi p1.offset, pi p1.summer, pi p1.start.month, pi p1.start.week, pi p1.start.weekday, pi p1.start.minute, pi p1.stop.month, pi p1.stop.week, pi p1.stop.weekday, pi p1.stop.minute]] 0 2))), (33, vi (IntKind.i64.wrap (r3 - (IntKind.i64.wrap ((60 : Int) * p1.offset))))), (32, vi (IntKind.i64.wrap ((60 : Int) * p1.offset))), (31, vi r3), (30, .ag [ci p1.stop.month, ci p1.stop.week, ci p1.stop.weekday, ci p1.stop.minute]), (29, .one (.pv (.rp [[.s (.string p1.name), pi p1.offset, pi p1.summer, pi p1.start.month, pi p1.start.week, pi p1.start.weekday, pi p1.start.minute, pi p1.stop.month, pi p1.stop.week, pi p1.stop.weekday, pi p1.stop.minute]] 0 7))), (28, vi r1.year), (27, vi (IntKind.i64.wrap (r2 - (IntKind.i64.wrap ((60 : Int) * p1.offset))))), (26, vi (IntKind.i64.wrap ((60 : Int) * p1.offset))), (25, vi r2), (24, .ag [ci p1.start.month, ci p1.start.week, ci p1.start.weekday, ci p1.start.minute]), (23, .one (.pv (.rp [[.s (.string p1.name), pi p1.offset, pi p1.summer, pi p1.start.month, pi p1.start.week, pi p1.start.weekday, pi p1.start.minute, pi p1.stop.month, pi p1.stop.week, pi p1.stop.weekday, pi p1.stop.minute]] 0 3))), (22, vi r1.year), (1, vi p2), (2, .one (.pv (.rp [[.s (.string p1.name), pi p1.offset, pi p1.summer, pi p1.start.month, pi p1.start.week, pi p1.start.weekday, pi p1.start.minute, pi p1.stop.month, pi p1.stop.week, pi p1.stop.weekday, pi p1.stop.minute]] 0 0))), (5, vi (IntKind.i64.wrap ((60 : Int) * p1.offset))), (6, vi r1.year)] (by kernel_rfl) (by kernel_rfl) ?_ ?_
    · refine DX.go 3 [[.s (.string p1.name), pi p1.offset, pi p1.summer, pi p1.start.month, pi p1.start.week, pi p1.start.weekday, pi p1.start.minute, pi p1.stop.month, pi p1.stop.week, pi p1.stop.weekday, pi p1.stop.minute]] [(24, .ag [ci p1.start.month, ci p1.start.week, ci p1.start.weekday, ci p1.start.minute]), (23, .one (.pv (.rp [[.s (.string p1.name), pi p1.offset, pi p1.summer, pi p1.start.month, pi p1.start.week, pi p1.start.weekday, pi p1.start.minute, pi p1.stop.month, pi p1.stop.week, pi p1.stop.weekday, pi p1.stop.minute]] 0 3))), (22, vi r1.year), (1, vi p2), (2, .one (.pv (.rp [[.s (.string p1.name), pi p1.offset, pi p1.summer, pi p1.start.month, pi p1.start.week, pi p1.start.weekday, pi p1.start.minute, pi p1.stop.month, pi p1.stop.week, pi p1.stop.weekday, pi p1.stop.minute]] 0 0))), (5, vi (IntKind.i64.wrap ((60 : Int) * p1.offset))), (6, vi r1.year)] [([[.s (.string p1.name), pi p1.offset, pi p1.summer, pi p1.start.month, pi p1.start.week, pi p1.start.weekday, pi p1.start.minute, pi p1.stop.month, pi p1.stop.week, pi p1.stop.weekday, pi p1.stop.minute]] : List (List PV))[0]? = some [.s (.string p1.name), pi p1.offset, pi p1.summer, pi p1.start.month, pi p1.start.week, pi p1.start.weekday, pi p1.start.minute, pi p1.stop.month, pi p1.stop.week, pi p1.stop.weekday, pi p1.stop.minute]] (by kernel_rfl) (⟨rfl, trivial⟩) ?_
      refine DX.cal 91 [vi r1.year, .ag [ci p1.start.month, ci p1.start.week, ci p1.start.weekday, ci p1.start.minute]] (vi r2) [(25, vi r2), (24, .ag [ci p1.start.month, ci p1.start.week, ci p1.start.weekday, ci p1.start.minute]), (23, .one (.pv (.rp [[.s (.string p1.name), pi p1.offset, pi p1.summer, pi p1.start.month, pi p1.start.week, pi p1.start.weekday, pi p1.start.minute, pi p1.stop.month, pi p1.stop.week, pi p1.stop.weekday, pi p1.stop.minute]] 0 3))), (22, vi r1.year), (1, vi p2), (2, .one (.pv (.rp [[.s (.string p1.name), pi p1.offset, pi p1.summer, pi p1.start.month, pi p1.start.week, pi p1.start.weekday, pi p1.start.minute, pi p1.stop.month, pi p1.stop.week, pi p1.stop.weekday, pi p1.stop.minute]] 0 0))), (5, vi (IntKind.i64.wrap ((60 : Int) * p1.offset))), (6, vi r1.year)] (by kernel_rfl) (c_ref1_turn _ _ _ c10) rfl rfl (by kernel_rfl) ?_
      refine DX.go 5 [[.s (.string p1.name), pi p1.offset, pi p1.summer, pi p1.start.month, pi p1.start.week, pi p1.start.weekday, pi p1.start.minute, pi p1.stop.month, pi p1.stop.week, pi p1.stop.weekday, pi p1.stop.minute]] [(30, .ag [ci p1.stop.month, ci p1.stop.week, ci p1.stop.weekday, ci p1.stop.minute]), (29, .one (.pv (.rp [[.s (.string p1.name), pi p1.offset, pi p1.summer, pi p1.start.month, pi p1.start.week, pi p1.start.weekday, pi p1.start.minute, pi p1.stop.month, pi p1.stop.week, pi p1.stop.weekday, pi p1.stop.minute]] 0 7))), (28, vi r1.year), (27, vi (IntKind.i64.wrap (r2 - (IntKind.i64.wrap ((60 : Int) * p1.offset))))), (26, vi (IntKind.i64.wrap ((60 : Int) * p1.offset))), (25, vi r2), (24, .ag [ci p1.start.month, ci p1.start.week, ci p1.start.weekday, ci p1.start.minute]), (23, .one (.pv (.rp [[.s (.string p1.name), pi p1.offset, pi p1.summer, pi p1.start.month, pi p1.start.week, pi p1.start.weekday, pi p1.start.minute, pi p1.stop.month, pi p1.stop.week, pi p1.stop.weekday, pi p1.stop.minute]] 0 3))), (22, vi r1.year), (1, vi p2), (2, .one (.pv (.rp [[.s (.string p1.name), pi p1.offset, pi p1.summer, pi p1.start.month, pi p1.start.week, pi p1.start.weekday, pi p1.start.minute, pi p1.stop.month, pi p1.stop.week, pi p1.stop.weekday, pi p1.stop.minute]] 0 0))), (5, vi (IntKind.i64.wrap ((60 : Int) * p1.offset))), (6, vi r1.year)] [([[.s (.string p1.name), pi p1.offset, pi p1.summer, pi p1.start.month, pi p1.start.week, pi p1.start.weekday, pi p1.start.minute, pi p1.stop.month, pi p1.stop.week, pi p1.stop.weekday, pi p1.stop.minute]] : List (List PV))[0]? = some [.s (.string p1.name), pi p1.offset, pi p1.summer, pi p1.start.month, pi p1.start.week, pi p1.start.weekday, pi p1.start.minute, pi p1.stop.month, pi p1.stop.week, pi p1.stop.weekday, pi p1.stop.minute]] (by kernel_rfl) (⟨rfl, trivial⟩) ?_
      refine DX.cal 91 [vi r1.year, .ag [ci p1.stop.month, ci p1.stop.week, ci p1.stop.weekday, ci p1.stop.minute]] (vi r3) [(31, vi r3), (30, .ag [ci p1.stop.month, ci p1.stop.week, ci p1.stop.weekday, ci p1.stop.minute]), (29, .one (.pv (.rp [[.s (.string p1.name), pi p1.offset, pi p1.summer, pi p1.start.month, pi p1.start.week, pi p1.start.weekday, pi p1.start.minute, pi p1.stop.month, pi p1.stop.week, pi p1.stop.weekday, pi p1.stop.minute]] 0 7))), (28, vi r1.year), (27, vi (IntKind.i64.wrap (r2 - (IntKind.i64.wrap ((60 : Int) * p1.offset))))), (26, vi (IntKind.i64.wrap ((60 : Int) * p1.offset))), (25, vi r2), (24, .ag [ci p1.start.month, ci p1.start.week, ci p1.start.weekday, ci p1.start.minute]), (23, .one (.pv (.rp [[.s (.string p1.name), pi p1.offset, pi p1.summer, pi p1.start.month, pi p1.start.week, pi p1.start.weekday, pi p1.start.minute, pi p1.stop.month, pi p1.stop.week, pi p1.stop.weekday, pi p1.stop.minute]] 0 3))), (22, vi r1.year), (1, vi p2), (2, .one (.pv (.rp [[.s (.string p1.name), pi p1.offset, pi p1.summer, pi p1.start.month, pi p1.start.week, pi p1.start.weekday, pi p1.start.minute, pi p1.stop.month, pi p1.stop.week, pi p1.stop.weekday, pi p1.stop.minute]] 0 0))), (5, vi (IntKind.i64.wrap ((60 : Int) * p1.offset))), (6, vi r1.year)] (by kernel_rfl) (c_ref1_turn _ _ _ c11) rfl rfl (by kernel_rfl) ?_
      refine DX.go 6 [[.s (.string p1.name), pi p1.offset, pi p1.summer, pi p1.start.month, pi p1.start.week, pi p1.start.weekday, pi p1.start.minute, pi p1.stop.month, pi p1.stop.week, pi p1.stop.weekday, pi p1.stop.minute]] [(37, vi (IntKind.i64.wrap ((IntKind.i64.wrap (r3 - (IntKind.i64.wrap ((60 : Int) * p1.offset)))) - (IntKind.i64.wrap ((60 : Int) * p1.summer))))), (36, vi (IntKind.i64.wrap ((60 : Int) * p1.summer))), (35, vi p1.summer), (34, .one (.pv (.rp [[.s (.string p1.name), pi p1.offset, pi p1.summer, pi p1.start.month, pi p1.start.week, pi p1.start.weekday, pi p1.start.minute, pi p1.stop.month, pi p1.stop.week, pi p1.stop.weekday, pi p1.stop.minute]] 0 2))), (33, vi (IntKind.i64.wrap (r3 - (IntKind.i64.wrap ((60 : Int) * p1.offset))))), (32, vi (IntKind.i64.wrap ((60 : Int) * p1.offset))), (31, vi r3), (30, .ag [ci p1.stop.month, ci p1.stop.week, ci p1.stop.weekday, ci p1.stop.minute]), (29, .one (.pv (.rp [[.s (.string p1.name), pi p1.offset, pi p1.summer, pi p1.start.month, pi p1.start.week, pi p1.start.weekday, pi p1.start.minute, pi p1.stop.month, pi p1.stop.week, pi p1.stop.weekday, pi p1.stop.minute]] 0 7))), (28, vi r1.year), (27, vi (IntKind.i64.wrap (r2 - (IntKind.i64.wrap ((60 : Int) * p1.offset))))), (26, vi (IntKind.i64.wrap ((60 : Int) * p1.offset))), (25, vi r2), (24, .ag [ci p1.start.month, ci p1.start.week, ci p1.start.weekday, ci p1.start.minute]), (23, .one (.pv (.rp [[.s (.string p1.name), pi p1.offset, pi p1.summer, pi p1.start.month, pi p1.start.week, pi p1.start.weekday, pi p1.start.minute, pi p1.stop.month, pi p1.stop.week, pi p1.stop.weekday, pi p1.stop.minute]] 0 3))), (22, vi r1.year), (1, vi p2), (2, .one (.pv (.rp [[.s (.string p1.name), pi p1.offset, pi p1.summer, pi p1.start.month, pi p1.start.week, pi p1.start.weekday, pi p1.start.minute, pi p1.stop.month, pi p1.stop.week, pi p1.stop.weekday, pi p1.stop.minute]] 0 0))), (5, vi (IntKind.i64.wrap ((60 : Int) * p1.offset))), (6, vi r1.year)] [([[.s (.string p1.name), pi p1.offset, pi p1.summer, pi p1.start.month, pi p1.start.week, pi p1.start.weekday, pi p1.start.minute, pi p1.stop.month, pi p1.stop.week, pi p1.stop.weekday, pi p1.stop.minute]] : List (List PV))[0]? = some [.s (.string p1.name), pi p1.offset, pi p1.summer, pi p1.start.month, pi p1.start.week, pi p1.start.weekday, pi p1.start.minute, pi p1.stop.month, pi p1.stop.week, pi p1.stop.weekday, pi p1.stop.minute]] (by kernel_rfl) (⟨rfl, trivial⟩) ?_
      rw [show (IntKind.i64.wrap ((IntKind.i64.wrap (r3 - (IntKind.i64.wrap ((60 : Int) * p1.offset)))) - (IntKind.i64.wrap ((60 : Int) * p1.summer)))) = y1 from Option.some.inj y12]
      refine DX.go 1 [] [(7, vi (IntKind.i64.wrap (r2 - (IntKind.i64.wrap ((60 : Int) * p1.offset))))), (37, vi y1), (36, vi (IntKind.i64.wrap ((60 : Int) * p1.summer))), (35, vi p1.summer), (34, .one (.pv (.rp [[.s (.string p1.name), pi p1.offset, pi p1.summer, pi p1.start.month, pi p1.start.week, pi p1.start.weekday, pi p1.start.minute, pi p1.stop.month, pi p1.stop.week, pi p1.stop.weekday, pi p1.stop.minute]] 0 2))), (33, vi (IntKind.i64.wrap (r3 - (IntKind.i64.wrap ((60 : Int) * p1.offset))))), (32, vi (IntKind.i64.wrap ((60 : Int) * p1.offset))), (31, vi r3), (30, .ag [ci p1.stop.month, ci p1.stop.week, ci p1.stop.weekday, ci p1.stop.minute]), (29, .one (.pv (.rp [[.s (.string p1.name), pi p1.offset, pi p1.summer, pi p1.start.month, pi p1.start.week, pi p1.start.weekday, pi p1.start.minute, pi p1.stop.month, pi p1.stop.week, pi p1.stop.weekday, pi p1.stop.minute]] 0 7))), (28, vi r1.year), (27, vi (IntKind.i64.wrap (r2 - (IntKind.i64.wrap ((60 : Int) * p1.offset))))), (26, vi (IntKind.i64.wrap ((60 : Int) * p1.offset))), (25, vi r2), (24, .ag [ci p1.start.month, ci p1.start.week, ci p1.start.weekday, ci p1.start.minute]), (23, .one (.pv (.rp [[.s (.string p1.name), pi p1.offset, pi p1.summer, pi p1.start.month, pi p1.start.week, pi p1.start.weekday, pi p1.start.minute, pi p1.stop.month, pi p1.stop.week, pi p1.stop.weekday, pi p1.stop.minute]] 0 3))), (22, vi r1.year), (1, vi p2), (2, .one (.pv (.rp [[.s (.string p1.name), pi p1.offset, pi p1.summer, pi p1.start.month, pi p1.start.week, pi p1.start.weekday, pi p1.start.minute, pi p1.stop.month, pi p1.stop.week, pi p1.stop.weekday, pi p1.stop.minute]] 0 0))), (5, vi (IntKind.i64.wrap ((60 : Int) * p1.offset))), (6, vi r1.year)] [] (by kernel_rfl) trivial ?_
      exact DX.done (by kernel_rfl)
    refine XO.go [] 1 [1,2,5,7,8] [] [(1, vi p2), (2, .one (.pv (.rp [[.s (.string p1.name), pi p1.offset, pi p1.summer, pi p1.start.month, pi p1.start.week, pi p1.start.weekday, pi p1.start.minute, pi p1.stop.month, pi p1.stop.week, pi p1.stop.weekday, pi p1.stop.minute]] 0 0))), (5, vi (IntKind.i64.wrap ((60 : Int) * p1.offset))), (7, vi (IntKind.i64.wrap (r2 - (IntKind.i64.wrap ((60 : Int) * p1.offset))))), (8, vi y1)] [] [] (by kernel_rfl) trivial ?_
    refine XO.done (by kernel_rfl) ?_
    refine hK9 _ _ ?_
    refine XW.seq (x := cd Try.f60 [1,1,1,1,1,0]) (y := cd Try.f60 [1,1,1,1,1,1]) (by kernel_rfl) fun K13 hK13 => ?_
    have hJ1 : ∀ (x1 : Bool), ref1_ahead_j1 p1 p2 r2 y1 x1 = some r → ∀ fr1 st1, Sub 64 0 [] fr1 st1 [(1, vi p2), (2, .one (.pv (.rp [[.s (.string p1.name), pi p1.offset, pi p1.summer, pi p1.start.month, pi p1.start.week, pi p1.start.weekday, pi p1.start.minute, pi p1.stop.month, pi p1.stop.week, pi p1.stop.weekday, pi p1.stop.minute]] 0 0))), (5, vi (IntKind.i64.wrap ((60 : Int) * p1.offset))), (7, vi (IntKind.i64.wrap (r2 - (IntKind.i64.wrap ((60 : Int) * p1.offset))))), (8, vi y1), (9, vb x1)] [] → K13 fr1 st1 := by
      intro x1 h fr1 st1 hS
      unfold ref1_ahead_j1 at h
      refine hK13 _ _ (XW.sub hS ?_)
      refine XW.seq (x := cd Try.f60 [1,1,1,1,1,1,0]) (y := cd Try.f60 [1,1,1,1,1,1,1]) (by kernel_rfl) fun K16 hK16 => ?_
      have hJ2 : ∀ (x2 : Bool), ref1_ahead_j2 p1 x2 = some r → ∀ fr1 st1, Sub 64 0 [] fr1 st1 [(2, .one (.pv (.rp [[.s (.string p1.name), pi p1.offset, pi p1.summer, pi p1.start.month, pi p1.start.week, pi p1.start.weekday, pi p1.start.minute, pi p1.stop.month, pi p1.stop.week, pi p1.stop.weekday, pi p1.stop.minute]] 0 0))), (5, vi (IntKind.i64.wrap ((60 : Int) * p1.offset))), (9, vb x2)] [] → K16 fr1 st1 := by
        intro x2 h fr1 st1 hS
        unfold ref1_ahead_j2 at h
        refine hK16 _ _ (XW.sub hS ?_)
        refine XW.seq (x := cd Try.f60 [1,1,1,1,1,1,1,0]) (y := cd Try.f60 [1,1,1,1,1,1,1,1]) (by kernel_rfl) fun K22 hK22 => ?_
        refine XW.seq (x := cd Try.f60 [1,1,1,1,1,1,1,0,0]) (y := cd Try.f60 [1,1,1,1,1,1,1,0,1]) (by kernel_rfl) fun K23 hK23 => ?_
        refine XW.reg (by kernel_rfl) ?_
        refine XO.go [] 1 [2,5,57] [] [(2, .one (.pv (.rp [[.s (.string p1.name), pi p1.offset, pi p1.summer, pi p1.start.month, pi p1.start.week, pi p1.start.weekday, pi p1.start.minute, pi p1.stop.month, pi p1.stop.week, pi p1.stop.weekday, pi p1.stop.minute]] 0 0))), (5, vi (IntKind.i64.wrap ((60 : Int) * p1.offset))), (57, vb x2)] [] [] (by kernel_rfl) trivial ?_
        refine XO.done (by kernel_rfl) ?_
        refine hK23 _ _ ?_
        refine XW.cond (x := .tmp 57) (a := cd Try.f60 [1,1,1,1,1,1,1,0,1,0]) (b := cd Try.f60 [1,1,1,1,1,1,1,0,1,1]) (t := x2) (by kernel_rfl) (by kernel_rfl) (fun b24 => ?_) (fun b24 => ?_)
        · have h := ift_t b24 h
          refine XW.seq (x := cd Try.f60 [1,1,1,1,1,1,1,0,1,0,0]) (y := cd Try.f60 [1,1,1,1,1,1,1,0,1,0,1]) (by kernel_rfl) fun K25 hK25 => ?_
          obtain ⟨y5, y26, h⟩ := bnd_some h
          refine XW.reg (by kernel_rfl) ?_
          refine XO.go [] 5 [62] [[.s (.string p1.name), pi p1.offset, pi p1.summer, pi p1.start.month, pi p1.start.week, pi p1.start.weekday, pi p1.start.minute, pi p1.stop.month, pi p1.stop.week, pi p1.stop.weekday, pi p1.stop.minute]] [(62, vi (IntKind.i64.wrap ((IntKind.i64.wrap ((60 : Int) * p1.offset)) + (IntKind.i64.wrap ((60 : Int) * p1.summer)))))] [] [([[.s (.string p1.name), pi p1.offset, pi p1.summer, pi p1.start.month, pi p1.start.week, pi p1.start.weekday, pi p1.start.minute, pi p1.stop.month, pi p1.stop.week, pi p1.stop.weekday, pi p1.stop.minute]] : List (List PV))[0]? = some [.s (.string p1.name), pi p1.offset, pi p1.summer, pi p1.start.month, pi p1.start.week, pi p1.start.weekday, pi p1.start.minute, pi p1.stop.month, pi p1.stop.week, pi p1.stop.weekday, pi p1.stop.minute]] (by kernel_rfl) (⟨rfl, trivial⟩) ?_
          rw [show (IntKind.i64.wrap ((IntKind.i64.wrap ((60 : Int) * p1.offset)) + (IntKind.i64.wrap ((60 : Int) * p1.summer)))) = y5 from Option.some.inj y26]
          refine XO.go [] 1 [4] [] [(4, vi y5)] [] [] (by kernel_rfl) trivial ?_
          refine XO.done (by kernel_rfl) ?_
          refine hK25 _ _ ?_
          refine XW.ret (by kernel_rfl) ?_
          obtain rfl := Option.some.inj h
          exact FinP.fin (.inr rfl) [] [vi y5] [] (by kernel_rfl) trivial (.one (.rfl _ rfl))
        · have h := ift_f b24 h
          refine XW.skip (by kernel_rfl) ?_
          refine hK22 _ _ ?_
          refine XW.seq (x := cd Try.f60 [1,1,1,1,1,1,1,1,0]) (y := cd Try.f60 [1,1,1,1,1,1,1,1,1]) (by kernel_rfl) fun K27 hK27 => ?_
          refine XW.reg (by kernel_rfl) ?_
          refine XO.go [] 2 [4] [] [(4, vi (IntKind.i64.wrap ((60 : Int) * p1.offset)))] [] [] (by kernel_rfl) trivial ?_
          refine XO.done (by kernel_rfl) ?_
          refine hK27 _ _ ?_
          refine XW.ret (by kernel_rfl) ?_
          obtain rfl := Option.some.inj h
          exact FinP.fin (.inr rfl) [] [vi (IntKind.i64.wrap ((60 : Int) * p1.offset))] [] (by kernel_rfl) trivial (.one (.rfl _ rfl))
      refine XW.seq (x := cd Try.f60 [1,1,1,1,1,1,0,0]) (y := cd Try.f60 [1,1,1,1,1,1,0,1]) (by kernel_rfl) fun K17 hK17 => ?_
      obtain ⟨y3, y18, h⟩ := bnd_some h
      refine XW.reg (by kernel_rfl) ?_
      refine XO.go [] 3 [1,2,5,7,8,9,48] [] [(1, vi p2), (2, .one (.pv (.rp [[.s (.string p1.name), pi p1.offset, pi p1.summer, pi p1.start.month, pi p1.start.week, pi p1.start.weekday, pi p1.start.minute, pi p1.stop.month, pi p1.stop.week, pi p1.stop.weekday, pi p1.stop.minute]] 0 0))), (5, vi (IntKind.i64.wrap ((60 : Int) * p1.offset))), (7, vi (IntKind.i64.wrap (r2 - (IntKind.i64.wrap ((60 : Int) * p1.offset))))), (8, vi y1), (9, vb x1), (48, vb (decide (y1 ≤ (IntKind.i64.wrap (r2 - (IntKind.i64.wrap ((60 : Int) * p1.offset)))))))] [] [] (by kernel_rfl) trivial ?_
      rw [show (decide (y1 ≤ (IntKind.i64.wrap (r2 - (IntKind.i64.wrap ((60 : Int) * p1.offset)))))) = y3 from Option.some.inj y18]
      refine XO.done (by kernel_rfl) ?_
      refine hK17 _ _ ?_
      refine XW.cond (x := .tmp 48) (a := cd Try.f60 [1,1,1,1,1,1,0,1,0]) (b := cd Try.f60 [1,1,1,1,1,1,0,1,1]) (t := y3) (by kernel_rfl) (by kernel_rfl) (fun b19 => ?_) (fun b19 => ?_)
      · have h := ift_t b19 h
        rcases Bool.eq_false_or_eq_true (decide (p2 < y1)) with b20 | b20
        · have h := ift_t b20 h
          refine XW.reg (by kernel_rfl) ?_
          refine XO.go [] 4 [1,2,5,7,52] [] [(1, vi p2), (2, .one (.pv (.rp [[.s (.string p1.name), pi p1.offset, pi p1.summer, pi p1.start.month, pi p1.start.week, pi p1.start.weekday, pi p1.start.minute, pi p1.stop.month, pi p1.stop.week, pi p1.stop.weekday, pi p1.stop.minute]] 0 0))), (5, vi (IntKind.i64.wrap ((60 : Int) * p1.offset))), (7, vi (IntKind.i64.wrap (r2 - (IntKind.i64.wrap ((60 : Int) * p1.offset))))), (52, vb (decide (p2 < y1)))] [] [] (by kernel_rfl) trivial ?_
          refine XO.setb 52 true (B := (decide (p2 < y1))) rfl b20 ?_
          refine XO.go [] 5 [2,5,9] [] [(2, .one (.pv (.rp [[.s (.string p1.name), pi p1.offset, pi p1.summer, pi p1.start.month, pi p1.start.week, pi p1.start.weekday, pi p1.start.minute, pi p1.stop.month, pi p1.stop.week, pi p1.stop.weekday, pi p1.stop.minute]] 0 0))), (5, vi (IntKind.i64.wrap ((60 : Int) * p1.offset))), (9, vb true)] [] [] (by kernel_rfl) trivial ?_
          refine XO.done (by kernel_rfl) ?_
          exact hJ2 true h _ _ (Sub.pick [2,5,9] (by kernel_rfl))
        · have h := ift_f b20 h
          obtain ⟨y4, y21, h⟩ := bnd_some h
          refine XW.reg (by kernel_rfl) ?_
          refine XO.go [] 4 [1,2,5,7,52] [] [(1, vi p2), (2, .one (.pv (.rp [[.s (.string p1.name), pi p1.offset, pi p1.summer, pi p1.start.month, pi p1.start.week, pi p1.start.weekday, pi p1.start.minute, pi p1.stop.month, pi p1.stop.week, pi p1.stop.weekday, pi p1.stop.minute]] 0 0))), (5, vi (IntKind.i64.wrap ((60 : Int) * p1.offset))), (7, vi (IntKind.i64.wrap (r2 - (IntKind.i64.wrap ((60 : Int) * p1.offset))))), (52, vb (decide (p2 < y1)))] [] [] (by kernel_rfl) trivial ?_
          refine XO.setb 52 false (B := (decide (p2 < y1))) rfl b20 ?_
          refine XO.go [] 3 [2,5,52,55] [] [(2, .one (.pv (.rp [[.s (.string p1.name), pi p1.offset, pi p1.summer, pi p1.start.month, pi p1.start.week, pi p1.start.weekday, pi p1.start.minute, pi p1.stop.month, pi p1.stop.week, pi p1.stop.weekday, pi p1.stop.minute]] 0 0))), (5, vi (IntKind.i64.wrap ((60 : Int) * p1.offset))), (52, vb false), (55, vb (decide ((IntKind.i64.wrap (r2 - (IntKind.i64.wrap ((60 : Int) * p1.offset)))) ≤ p2)))] [] [] (by kernel_rfl) trivial ?_
          rw [show (decide ((IntKind.i64.wrap (r2 - (IntKind.i64.wrap ((60 : Int) * p1.offset)))) ≤ p2)) = y4 from Option.some.inj y21]
          refine XO.go [] 2 [2,5,9] [] [(2, .one (.pv (.rp [[.s (.string p1.name), pi p1.offset, pi p1.summer, pi p1.start.month, pi p1.start.week, pi p1.start.weekday, pi p1.start.minute, pi p1.stop.month, pi p1.stop.week, pi p1.stop.weekday, pi p1.stop.minute]] 0 0))), (5, vi (IntKind.i64.wrap ((60 : Int) * p1.offset))), (9, vb y4)] [] [] (by kernel_rfl) trivial ?_
          refine XO.done (by kernel_rfl) ?_
          exact hJ2 y4 h _ _ (Sub.pick [2,5,9] (by kernel_rfl))
      · have h := ift_f b19 h
        refine XW.skip (by kernel_rfl) ?_
        exact hJ2 x1 h _ _ (Sub.pick [2,5,9] (by kernel_rfl))
    obtain ⟨y2, y14, h⟩ := bnd_some h
    rcases Bool.eq_false_or_eq_true y2 with b15 | b15
    · have h := ift_t b15 h
      refine XW.reg (by kernel_rfl) ?_
      refine XO.go [] 3 [1,2,5,7,8,40] [] [(1, vi p2), (2, .one (.pv (.rp [[.s (.string p1.name), pi p1.offset, pi p1.summer, pi p1.start.month, pi p1.start.week, pi p1.start.weekday, pi p1.start.minute, pi p1.stop.month, pi p1.stop.week, pi p1.stop.weekday, pi p1.stop.minute]] 0 0))), (5, vi (IntKind.i64.wrap ((60 : Int) * p1.offset))), (7, vi (IntKind.i64.wrap (r2 - (IntKind.i64.wrap ((60 : Int) * p1.offset))))), (8, vi y1), (40, vb (decide ((IntKind.i64.wrap (r2 - (IntKind.i64.wrap ((60 : Int) * p1.offset)))) ≤ p2)))] [] [] (by kernel_rfl) trivial ?_
      rw [show (decide ((IntKind.i64.wrap (r2 - (IntKind.i64.wrap ((60 : Int) * p1.offset)))) ≤ p2)) = y2 from Option.some.inj y14]
      refine XO.go [] 1 [1,2,5,7,8,41] [] [(1, vi p2), (2, .one (.pv (.rp [[.s (.string p1.name), pi p1.offset, pi p1.summer, pi p1.start.month, pi p1.start.week, pi p1.start.weekday, pi p1.start.minute, pi p1.stop.month, pi p1.stop.week, pi p1.stop.weekday, pi p1.stop.minute]] 0 0))), (5, vi (IntKind.i64.wrap ((60 : Int) * p1.offset))), (7, vi (IntKind.i64.wrap (r2 - (IntKind.i64.wrap ((60 : Int) * p1.offset))))), (8, vi y1), (41, vb y2)] [] [] (by kernel_rfl) trivial ?_
      refine XO.setb 41 true (B := y2) rfl b15 ?_
      refine XO.go [] 5 [1,2,5,7,8,9] [] [(1, vi p2), (2, .one (.pv (.rp [[.s (.string p1.name), pi p1.offset, pi p1.summer, pi p1.start.month, pi p1.start.week, pi p1.start.weekday, pi p1.start.minute, pi p1.stop.month, pi p1.stop.week, pi p1.stop.weekday, pi p1.stop.minute]] 0 0))), (5, vi (IntKind.i64.wrap ((60 : Int) * p1.offset))), (7, vi (IntKind.i64.wrap (r2 - (IntKind.i64.wrap ((60 : Int) * p1.offset))))), (8, vi y1), (9, vb (decide (p2 < y1)))] [] [] (by kernel_rfl) trivial ?_
      refine XO.done (by kernel_rfl) ?_
      exact hJ1 (decide (p2 < y1)) h _ _ (Sub.pick [1,2,5,7,8,9] (by kernel_rfl))
    · have h := ift_f b15 h
      refine XW.reg (by kernel_rfl) ?_
      refine XO.go [] 3 [1,2,5,7,8,40] [] [(1, vi p2), (2, .one (.pv (.rp [[.s (.string p1.name), pi p1.offset, pi p1.summer, pi p1.start.month, pi p1.start.week, pi p1.start.weekday, pi p1.start.minute, pi p1.stop.month, pi p1.stop.week, pi p1.stop.weekday, pi p1.stop.minute]] 0 0))), (5, vi (IntKind.i64.wrap ((60 : Int) * p1.offset))), (7, vi (IntKind.i64.wrap (r2 - (IntKind.i64.wrap ((60 : Int) * p1.offset))))), (8, vi y1), (40, vb (decide ((IntKind.i64.wrap (r2 - (IntKind.i64.wrap ((60 : Int) * p1.offset)))) ≤ p2)))] [] [] (by kernel_rfl) trivial ?_
      rw [show (decide ((IntKind.i64.wrap (r2 - (IntKind.i64.wrap ((60 : Int) * p1.offset)))) ≤ p2)) = y2 from Option.some.inj y14]
      refine XO.go [] 1 [1,2,5,7,8,41] [] [(1, vi p2), (2, .one (.pv (.rp [[.s (.string p1.name), pi p1.offset, pi p1.summer, pi p1.start.month, pi p1.start.week, pi p1.start.weekday, pi p1.start.minute, pi p1.stop.month, pi p1.stop.week, pi p1.stop.weekday, pi p1.stop.minute]] 0 0))), (5, vi (IntKind.i64.wrap ((60 : Int) * p1.offset))), (7, vi (IntKind.i64.wrap (r2 - (IntKind.i64.wrap ((60 : Int) * p1.offset))))), (8, vi y1), (41, vb y2)] [] [] (by kernel_rfl) trivial ?_
      refine XO.setb 41 false (B := y2) rfl b15 ?_
      refine XO.go [] 5 [1,2,5,7,8,9] [] [(1, vi p2), (2, .one (.pv (.rp [[.s (.string p1.name), pi p1.offset, pi p1.summer, pi p1.start.month, pi p1.start.week, pi p1.start.weekday, pi p1.start.minute, pi p1.stop.month, pi p1.stop.week, pi p1.stop.weekday, pi p1.stop.minute]] 0 0))), (5, vi (IntKind.i64.wrap ((60 : Int) * p1.offset))), (7, vi (IntKind.i64.wrap (r2 - (IntKind.i64.wrap ((60 : Int) * p1.offset))))), (8, vi y1), (9, vb false)] [] [] (by kernel_rfl) trivial ?_
      refine XO.done (by kernel_rfl) ?_
      exact hJ1 false h _ _ (Sub.pick [1,2,5,7,8,9] (by kernel_rfl))

def ref1_Local (p1 : Int) (p2 : ByteArray) : Option (GCivil × Int) :=
    bnd (ref1_zoneOf p2) fun r1 =>
    ift (!r1.2)
      (some ((GCivil.mk (0 : Int) (0 : Int) (0 : Int) (0 : Int) (0 : Int) (0 : Int)), (4 : Int)))
      (bnd (ref1_within p1 (-62135596800 : Int) (253402300799 : Int)) fun r2 =>
       ift (!r2)
         (some ((GCivil.mk (0 : Int) (0 : Int) (0 : Int) (0 : Int) (0 : Int) (0 : Int)), (3 : Int)))
         (bnd (ref1_ahead r1.1 p1) fun r3 =>
          bnd (ref1_civil (IntKind.i64.wrap (p1 + r3))) fun r4 =>
          some (r4, (0 : Int))))


theorem c_ref1_Local (p1 : Int) (p2 : ByteArray) (r : (GCivil × Int)) (h : ref1_Local p1 p2 = some r) : PC Try.prog 24 [vi p1, vs p2] (.tp [.ag [ci r.1.year, ci r.1.month, ci r.1.day, ci r.1.hour, ci r.1.minute, ci r.1.second], vi r.2]) := by
  unfold ref1_Local at h
  refine PC.of (n := 26) (fn := Try.f24) (c := cd Try.f24 []) (by kernel_rfl) (by kernel_rfl) (by kernel_rfl) (Nat.le_of_ble_eq_true rfl) ?_
  refine XW.seq (x := cd Try.f24 [0]) (y := cd Try.f24 [1]) (by kernel_rfl) fun K1 hK1 => ?_
  refine XW.reg (by kernel_rfl) ?_
  refine XO.go [4, 6] 2 [0,1,4] [] [(0, vi p1), (1, vs p2), (4, .one (.pt 0 0 0 0))] [.box [ci (0 : Int), ci (0 : Int), ci (0 : Int), ci (0 : Int), ci (0 : Int), ci (0 : Int)]] [] (by kernel_rfl) trivial ?_
  refine XO.done (by kernel_rfl) ?_
  refine hK1 _ _ ?_
  refine XW.seq (x := cd Try.f24 [1,0]) (y := cd Try.f24 [1,1]) (by kernel_rfl) fun K2 hK2 => ?_
  obtain ⟨r1, c3, h⟩ := bnd_some h
  refine XW.reg (by kernel_rfl) ?_
  refine XO.go [4, 6] 1 [0,4,9] [] [(0, vi p1), (4, .one (.pt 0 0 0 0)), (9, vs p2)] [.box [ci (0 : Int), ci (0 : Int), ci (0 : Int), ci (0 : Int), ci (0 : Int), ci (0 : Int)]] [] (by kernel_rfl) trivial ?_
  refine XO.cal 57 [vs p2] (.tp [.ag [cst r1.1.name, ci r1.1.offset, ci r1.1.summer, ci r1.1.start.month, ci r1.1.start.week, ci r1.1.start.weekday, ci r1.1.start.minute, ci r1.1.stop.month, ci r1.1.stop.week, ci r1.1.stop.weekday, ci r1.1.stop.minute], vb r1.2]) [(10, .tp [.ag [cst r1.1.name, ci r1.1.offset, ci r1.1.summer, ci r1.1.start.month, ci r1.1.start.week, ci r1.1.start.weekday, ci r1.1.start.minute, ci r1.1.stop.month, ci r1.1.stop.week, ci r1.1.stop.weekday, ci r1.1.stop.minute], vb r1.2]), (0, vi p1), (4, .one (.pt 0 0 0 0)), (9, vs p2)] (by kernel_rfl) (c_ref1_zoneOf _ _ c3) rfl rfl (by kernel_rfl) ?_
  refine XO.go [4, 6] 6 [0,4,6,7] [] [(0, vi p1), (4, .one (.pt 0 0 0 0)), (6, .one (.pt 1 0 0 0)), (7, vb r1.2)] [.box [ci (0 : Int), ci (0 : Int), ci (0 : Int), ci (0 : Int), ci (0 : Int), ci (0 : Int)], .box [cst r1.1.name, ci r1.1.offset, ci r1.1.summer, ci r1.1.start.month, ci r1.1.start.week, ci r1.1.start.weekday, ci r1.1.start.minute, ci r1.1.stop.month, ci r1.1.stop.week, ci r1.1.stop.weekday, ci r1.1.stop.minute]] [] (by kernel_rfl) trivial ?_
  refine XO.done (by kernel_rfl) ?_
  refine hK2 _ _ ?_
  refine XW.seq (x := cd Try.f24 [1,1,0]) (y := cd Try.f24 [1,1,1]) (by kernel_rfl) fun K4 hK4 => ?_
  refine XW.seq (x := cd Try.f24 [1,1,0,0]) (y := cd Try.f24 [1,1,0,1]) (by kernel_rfl) fun K5 hK5 => ?_
  refine XW.reg (by kernel_rfl) ?_
  refine XO.go [4, 6] 2 [0,4,6,14] [] [(0, vi p1), (4, .one (.pt 0 0 0 0)), (6, .one (.pt 1 0 0 0)), (14, vb (!r1.2))] [.box [ci (0 : Int), ci (0 : Int), ci (0 : Int), ci (0 : Int), ci (0 : Int), ci (0 : Int)], .box [cst r1.1.name, ci r1.1.offset, ci r1.1.summer, ci r1.1.start.month, ci r1.1.start.week, ci r1.1.start.weekday, ci r1.1.start.minute, ci r1.1.stop.month, ci r1.1.stop.week, ci r1.1.stop.weekday, ci r1.1.stop.minute]] [] (by kernel_rfl) trivial ?_
  refine XO.done (by kernel_rfl) ?_
  refine hK5 _ _ ?_
  refine XW.cond (x := .tmp 14) (a := cd Try.f24 [1,1,0,1,0]) (b := cd Try.f24 [1,1,0,1,1]) (t := (!r1.2)) (by kernel_rfl) (by kernel_rfl) (fun b6 => ?_) (fun b6 => ?_)
  · have h := ift_t b6 h
    refine XW.seq (x := cd Try.f24 [1,1,0,1,0,0]) (y := cd Try.f24 [1,1,0,1,0,1]) (by kernel_rfl) fun K7 hK7 => ?_
    refine XW.reg (by kernel_rfl) ?_
    refine XO.go [4, 6] 3 [4,5] [] [(4, .one (.pt 0 0 0 0)), (5, vi (4 : Int))] [.box [ci (0 : Int), ci (0 : Int), ci (0 : Int), ci (0 : Int), ci (0 : Int), ci (0 : Int)], .box [cst r1.1.name, ci r1.1.offset, ci r1.1.summer, ci r1.1.start.month, ci r1.1.start.week, ci r1.1.start.weekday, ci r1.1.start.minute, ci r1.1.stop.month, ci r1.1.stop.week, ci r1.1.stop.weekday, ci r1.1.stop.minute]] [] (by kernel_rfl) trivial ?_
    refine XO.done (by kernel_rfl) ?_
    refine hK7 _ _ ?_
    refine XW.ret (by kernel_rfl) ?_
    obtain rfl := Option.some.inj h
    exact FinP.fin (.inr rfl) [] [.ag [ci (0 : Int), ci (0 : Int), ci (0 : Int), ci (0 : Int), ci (0 : Int), ci (0 : Int)], vi (4 : Int)] [] (by kernel_rfl) trivial (.tpc (.ag (.cons (.rfl _ rfl) (.cons (.rfl _ rfl) (.cons (.rfl _ rfl) (.cons (.rfl _ rfl) (.cons (.rfl _ rfl) (.cons (.rfl _ rfl) .nil))))))) (.tpc (.one (.rfl _ rfl)) (.tp0)))
  · have h := ift_f b6 h
    refine XW.skip (by kernel_rfl) ?_
    refine hK4 _ _ ?_
    refine XW.seq (x := cd Try.f24 [1,1,1,0]) (y := cd Try.f24 [1,1,1,1]) (by kernel_rfl) fun K8 hK8 => ?_
    refine XW.seq (x := cd Try.f24 [1,1,1,0,0]) (y := cd Try.f24 [1,1,1,0,1]) (by kernel_rfl) fun K9 hK9 => ?_
    obtain ⟨r2, c10, h⟩ := bnd_some h
    refine XW.reg (by kernel_rfl) ?_
    refine XO.go [4, 6] 1 [0,4,6,16] [] [(0, vi p1), (4, .one (.pt 0 0 0 0)), (6, .one (.pt 1 0 0 0)), (16, vi p1)] [.box [ci (0 : Int), ci (0 : Int), ci (0 : Int), ci (0 : Int), ci (0 : Int), ci (0 : Int)], .box [cst r1.1.name, ci r1.1.offset, ci r1.1.summer, ci r1.1.start.month, ci r1.1.start.week, ci r1.1.start.weekday, ci r1.1.start.minute, ci r1.1.stop.month, ci r1.1.stop.week, ci r1.1.stop.weekday, ci r1.1.stop.minute]] [] (by kernel_rfl) trivial ?_
    refine XO.cal 58 [vi p1, vi (-62135596800 : Int), vi (253402300799 : Int)] (vb r2) [(17, vb r2), (0, vi p1), (4, .one (.pt 0 0 0 0)), (6, .one (.pt 1 0 0 0)), (16, vi p1)] (by kernel_rfl) (c_ref1_within _ _ _ _ c10) rfl rfl (by kernel_rfl) ?_
    refine XO.go [4, 6] 1 [0,4,6,18] [] [(0, vi p1), (4, .one (.pt 0 0 0 0)), (6, .one (.pt 1 0 0 0)), (18, vb (!r2))] [.box [ci (0 : Int), ci (0 : Int), ci (0 : Int), ci (0 : Int), ci (0 : Int), ci (0 : Int)], .box [cst r1.1.name, ci r1.1.offset, ci r1.1.summer, ci r1.1.start.month, ci r1.1.start.week, ci r1.1.start.weekday, ci r1.1.start.minute, ci r1.1.stop.month, ci r1.1.stop.week, ci r1.1.stop.weekday, ci r1.1.stop.minute]] [] (by kernel_rfl) trivial ?_
    refine XO.done (by kernel_rfl) ?_
    refine hK9 _ _ ?_
    refine XW.cond (x := .tmp 18) (a := cd Try.f24 [1,1,1,0,1,0]) (b := cd Try.f24 [1,1,1,0,1,1]) (t := (!r2)) (by kernel_rfl) (by kernel_rfl) (fun b11 => ?_) (fun b11 => ?_)
    · have h := ift_t b11 h
      refine XW.seq (x := cd Try.f24 [1,1,1,0,1,0,0]) (y := cd Try.f24 [1,1,1,0,1,0,1]) (by kernel_rfl) fun K12 hK12 => ?_
      refine XW.reg (by kernel_rfl) ?_
      refine XO.go [4, 6] 3 [4,5] [] [(4, .one (.pt 0 0 0 0)), (5, vi (3 : Int))] [.box [ci (0 : Int), ci (0 : Int), ci (0 : Int), ci (0 : Int), ci (0 : Int), ci (0 : Int)], .box [cst r1.1.name, ci r1.1.offset, ci r1.1.summer, ci r1.1.start.month, ci r1.1.start.week, ci r1.1.start.weekday, ci r1.1.start.minute, ci r1.1.stop.month, ci r1.1.stop.week, ci r1.1.stop.weekday, ci r1.1.stop.minute]] [] (by kernel_rfl) trivial ?_
      refine XO.done (by kernel_rfl) ?_
      refine hK12 _ _ ?_
      refine XW.ret (by kernel_rfl) ?_
      obtain rfl := Option.some.inj h
      exact FinP.fin (.inr rfl) [] [.ag [ci (0 : Int), ci (0 : Int), ci (0 : Int), ci (0 : Int), ci (0 : Int), ci (0 : Int)], vi (3 : Int)] [] (by kernel_rfl) trivial (.tpc (.ag (.cons (.rfl _ rfl) (.cons (.rfl _ rfl) (.cons (.rfl _ rfl) (.cons (.rfl _ rfl) (.cons (.rfl _ rfl) (.cons (.rfl _ rfl) .nil))))))) (.tpc (.one (.rfl _ rfl)) (.tp0)))
    · have h := ift_f b11 h
      refine XW.skip (by kernel_rfl) ?_
      refine hK8 _ _ ?_
      refine XW.seq (x := cd Try.f24 [1,1,1,1,0]) (y := cd Try.f24 [1,1,1,1,1]) (by kernel_rfl) fun K13 hK13 => ?_
      obtain ⟨r3, c14, h⟩ := bnd_some h
      obtain ⟨r4, c15, h⟩ := bnd_some h
      refine XW.reg (by kernel_rfl) ?_
      refine XO.go [4, 6] 3 [4,20,21,22] [] [(4, .one (.pt 0 0 0 0)), (20, vi p1), (21, .ag [cst r1.1.name, ci r1.1.offset, ci r1.1.summer, ci r1.1.start.month, ci r1.1.start.week, ci r1.1.start.weekday, ci r1.1.start.minute, ci r1.1.stop.month, ci r1.1.stop.week, ci r1.1.stop.weekday, ci r1.1.stop.minute]), (22, vi p1)] [.box [ci (0 : Int), ci (0 : Int), ci (0 : Int), ci (0 : Int), ci (0 : Int), ci (0 : Int)], .box [cst r1.1.name, ci r1.1.offset, ci r1.1.summer, ci r1.1.start.month, ci r1.1.start.week, ci r1.1.start.weekday, ci r1.1.start.minute, ci r1.1.stop.month, ci r1.1.stop.week, ci r1.1.stop.weekday, ci r1.1.stop.minute]] [] (by kernel_rfl) trivial ?_
      refine XO.cal 60 [.ag [cst r1.1.name, ci r1.1.offset, ci r1.1.summer, ci r1.1.start.month, ci r1.1.start.week, ci r1.1.start.weekday, ci r1.1.start.minute, ci r1.1.stop.month, ci r1.1.stop.week, ci r1.1.stop.weekday, ci r1.1.stop.minute], vi p1] (vi r3) [(23, vi r3), (4, .one (.pt 0 0 0 0)), (20, vi p1), (21, .ag [cst r1.1.name, ci r1.1.offset, ci r1.1.summer, ci r1.1.start.month, ci r1.1.start.week, ci r1.1.start.weekday, ci r1.1.start.minute, ci r1.1.stop.month, ci r1.1.stop.week, ci r1.1.stop.weekday, ci r1.1.stop.minute]), (22, vi p1)] (by kernel_rfl) (c_ref1_ahead _ _ _ c14) rfl rfl (by kernel_rfl) ?_
      refine XO.go [4, 6] 1 [4,24] [] [(4, .one (.pt 0 0 0 0)), (24, vi (IntKind.i64.wrap (p1 + r3)))] [.box [ci (0 : Int), ci (0 : Int), ci (0 : Int), ci (0 : Int), ci (0 : Int), ci (0 : Int)], .box [cst r1.1.name, ci r1.1.offset, ci r1.1.summer, ci r1.1.start.month, ci r1.1.start.week, ci r1.1.start.weekday, ci r1.1.start.minute, ci r1.1.stop.month, ci r1.1.stop.week, ci r1.1.stop.weekday, ci r1.1.stop.minute]] [] (by kernel_rfl) trivial ?_
      refine XO.cal 59 [vi (IntKind.i64.wrap (p1 + r3))] (.ag [ci r4.year, ci r4.month, ci r4.day, ci r4.hour, ci r4.minute, ci r4.second]) [(25, .ag [ci r4.year, ci r4.month, ci r4.day, ci r4.hour, ci r4.minute, ci r4.second]), (4, .one (.pt 0 0 0 0)), (24, vi (IntKind.i64.wrap (p1 + r3)))] (by kernel_rfl) (c_ref1_civil _ _ c15) rfl rfl (by kernel_rfl) ?_
      refine XO.go [4, 6] 2 [4,5] [] [(4, .one (.pt 0 0 0 0)), (5, vi (0 : Int))] [.box [ci r4.year, ci r4.month, ci r4.day, ci r4.hour, ci r4.minute, ci r4.second], .box [cst r1.1.name, ci r1.1.offset, ci r1.1.summer, ci r1.1.start.month, ci r1.1.start.week, ci r1.1.start.weekday, ci r1.1.start.minute, ci r1.1.stop.month, ci r1.1.stop.week, ci r1.1.stop.weekday, ci r1.1.stop.minute]] [] (by kernel_rfl) trivial ?_
      refine XO.done (by kernel_rfl) ?_
      refine hK13 _ _ ?_
      refine XW.ret (by kernel_rfl) ?_
      obtain rfl := Option.some.inj h
      exact FinP.fin (.inr rfl) [] [.ag [ci r4.year, ci r4.month, ci r4.day, ci r4.hour, ci r4.minute, ci r4.second], vi (0 : Int)] [] (by kernel_rfl) trivial (.tpc (.ag (.cons (.rfl _ rfl) (.cons (.rfl _ rfl) (.cons (.rfl _ rfl) (.cons (.rfl _ rfl) (.cons (.rfl _ rfl) (.cons (.rfl _ rfl) .nil))))))) (.tpc (.one (.rfl _ rfl)) (.tp0)))

def ref1_isCivil_j1 (x1 : Bool) : Option Bool :=
    some x1

def ref1_isCivil (p1 : GCivil) : Option Bool :=
    bnd (ref1_within p1.year (1 : Int) (9999 : Int)) fun r1 =>
    ift r1
      (bnd (ref1_within p1.month (1 : Int) (12 : Int)) fun r2 =>
       ift r2
         (bnd (ref1_MonthDays p1.year p1.month) fun r3 =>
          bnd (ref1_within p1.day (1 : Int) r3) fun r4 =>
          ift r4
            (bnd (ref1_within p1.hour (0 : Int) (23 : Int)) fun r5 =>
             ift r5
               (bnd (ref1_within p1.minute (0 : Int) (59 : Int)) fun r6 =>
                ift r6
                  (bnd (ref1_within p1.second (0 : Int) (59 : Int)) fun r7 =>
                   ref1_isCivil_j1 r7)
                  (ref1_isCivil_j1 false))
               (ref1_isCivil_j1 false))
            (ref1_isCivil_j1 false))
         (ref1_isCivil_j1 false))
      (ref1_isCivil_j1 false)


theorem c_ref1_isCivil (p1 : GCivil) (r : Bool) (h : ref1_isCivil p1 = some r) : PC Try.prog 61 [.ag [ci p1.year, ci p1.month, ci p1.day, ci p1.hour, ci p1.minute, ci p1.second]] (vb r) := by
  unfold ref1_isCivil at h
  refine PC.of (n := 36) (fn := Try.f61) (c := cd Try.f61 []) (by kernel_rfl) (by kernel_rfl) (by kernel_rfl) (Nat.le_of_ble_eq_true rfl) ?_
  refine XW.seq (x := cd Try.f61 [0]) (y := cd Try.f61 [1]) (by kernel_rfl) fun K1 hK1 => ?_
  refine XW.reg (by kernel_rfl) ?_
  refine XO.go [] 2 [1] [] [(1, .one (.pv (.rp [[pi p1.year, pi p1.month, pi p1.day, pi p1.hour, pi p1.minute, pi p1.second]] 0 0)))] [] [] (by kernel_rfl) trivial ?_
  refine XO.done (by kernel_rfl) ?_
  refine hK1 _ _ ?_
  refine XW.seq (x := cd Try.f61 [1,0]) (y := cd Try.f61 [1,1]) (by kernel_rfl) fun K2 hK2 => ?_
  have hJ1 : ∀ (x1 : Bool), ref1_isCivil_j1 x1 = some r → ∀ fr1 st1, Sub 36 0 [] fr1 st1 [(2, vb x1)] [] → K2 fr1 st1 := by
    intro x1 h fr1 st1 hS
    unfold ref1_isCivil_j1 at h
    refine hK2 _ _ (XW.sub hS ?_)
    refine XW.ret (by kernel_rfl) ?_
    obtain rfl := Option.some.inj h
    exact FinP.fin (.inr rfl) [] [vb x1] [] (by kernel_rfl) trivial (.one (.rfl _ rfl))
  obtain ⟨r1, c3, h⟩ := bnd_some h
  rcases Bool.eq_false_or_eq_true r1 with b4 | b4
  · have h := ift_t b4 h
    obtain ⟨r2, c5, h⟩ := bnd_some h
    rcases Bool.eq_false_or_eq_true r2 with b6 | b6
    · have h := ift_t b6 h
      obtain ⟨r3, c7, h⟩ := bnd_some h
      obtain ⟨r4, c8, h⟩ := bnd_some h
      rcases Bool.eq_false_or_eq_true r4 with b9 | b9
      · have h := ift_t b9 h
        obtain ⟨r5, c10, h⟩ := bnd_some h
        rcases Bool.eq_false_or_eq_true r5 with b11 | b11
        · have h := ift_t b11 h
          obtain ⟨r6, c12, h⟩ := bnd_some h
          rcases Bool.eq_false_or_eq_true r6 with b13 | b13
          · have h := ift_t b13 h
            obtain ⟨r7, c14, h⟩ := bnd_some h
            refine XW.drwS 16 [(18, vi r3), (17, vi p1.month), (16, .one (.pv (.rp [[pi p1.year, pi p1.month, pi p1.day, pi p1.hour, pi p1.minute, pi p1.second]] 0 1))), (15, vi p1.year), (14, .one (.pv (.rp [[pi p1.year, pi p1.month, pi p1.day, pi p1.hour, pi p1.minute, pi p1.second]] 0 0))), (13, vi p1.day), (12, .one (.pv (.rp [[pi p1.year, pi p1.month, pi p1.day, pi p1.hour, pi p1.minute, pi p1.second]] 0 2))), (11, vb true), (10, vb r2), (9, vb r2), (8, vi p1.month), (7, .one (.pv (.rp [[pi p1.year, pi p1.month, pi p1.day, pi p1.hour, pi p1.minute, pi p1.second]] 0 1))), (6, vb true), (5, vb r1), (4, vi p1.year), (3, .one (.pv (.rp [[pi p1.year, pi p1.month, pi p1.day, pi p1.hour, pi p1.minute, pi p1.second]] 0 0))), (1, .one (.pv (.rp [[pi p1.year, pi p1.month, pi p1.day, pi p1.hour, pi p1.minute, pi p1.second]] 0 0)))] (by kernel_rfl) (by kernel_rfl) ?_ ?_
            · refine DX.go 2 [[pi p1.year, pi p1.month, pi p1.day, pi p1.hour, pi p1.minute, pi p1.second]] [(4, vi p1.year), (3, .one (.pv (.rp [[pi p1.year, pi p1.month, pi p1.day, pi p1.hour, pi p1.minute, pi p1.second]] 0 0))), (1, .one (.pv (.rp [[pi p1.year, pi p1.month, pi p1.day, pi p1.hour, pi p1.minute, pi p1.second]] 0 0)))] [([[pi p1.year, pi p1.month, pi p1.day, pi p1.hour, pi p1.minute, pi p1.second]] : List (List PV))[0]? = some [pi p1.year, pi p1.month, pi p1.day, pi p1.hour, pi p1.minute, pi p1.second]] (by kernel_rfl) (⟨rfl, trivial⟩) ?_
              refine DX.cal 58 [vi p1.year, vi (1 : Int), vi (9999 : Int)] (vb r1) [(5, vb r1), (4, vi p1.year), (3, .one (.pv (.rp [[pi p1.year, pi p1.month, pi p1.day, pi p1.hour, pi p1.minute, pi p1.second]] 0 0))), (1, .one (.pv (.rp [[pi p1.year, pi p1.month, pi p1.day, pi p1.hour, pi p1.minute, pi p1.second]] 0 0)))] (by kernel_rfl) (c_ref1_within _ _ _ _ c3) rfl rfl (by kernel_rfl) ?_
              refine DX.go 1 [] [(6, vb r1), (5, vb r1), (4, vi p1.year), (3, .one (.pv (.rp [[pi p1.year, pi p1.month, pi p1.day, pi p1.hour, pi p1.minute, pi p1.second]] 0 0))), (1, .one (.pv (.rp [[pi p1.year, pi p1.month, pi p1.day, pi p1.hour, pi p1.minute, pi p1.second]] 0 0)))] [] (by kernel_rfl) trivial ?_
              refine DX.eq (fr1 := [(6, vb true), (5, vb r1), (4, vi p1.year), (3, .one (.pv (.rp [[pi p1.year, pi p1.month, pi p1.day, pi p1.hour, pi p1.minute, pi p1.second]] 0 0))), (1, .one (.pv (.rp [[pi p1.year, pi p1.month, pi p1.day, pi p1.hour, pi p1.minute, pi p1.second]] 0 0)))]) (by rw [b4]) ?_
              refine DX.go 2 [[pi p1.year, pi p1.month, pi p1.day, pi p1.hour, pi p1.minute, pi p1.second]] [(8, vi p1.month), (7, .one (.pv (.rp [[pi p1.year, pi p1.month, pi p1.day, pi p1.hour, pi p1.minute, pi p1.second]] 0 1))), (6, vb true), (5, vb r1), (4, vi p1.year), (3, .one (.pv (.rp [[pi p1.year, pi p1.month, pi p1.day, pi p1.hour, pi p1.minute, pi p1.second]] 0 0))), (1, .one (.pv (.rp [[pi p1.year, pi p1.month, pi p1.day, pi p1.hour, pi p1.minute, pi p1.second]] 0 0)))] [([[pi p1.year, pi p1.month, pi p1.day, pi p1.hour, pi p1.minute, pi p1.second]] : List (List PV))[0]? = some [pi p1.year, pi p1.month, pi p1.day, pi p1.hour, pi p1.minute, pi p1.second]] (by kernel_rfl) (⟨rfl, trivial⟩) ?_
              refine DX.cal 58 [vi p1.month, vi (1 : Int), vi (12 : Int)] (vb r2) [(9, vb r2), (8, vi p1.month), (7, .one (.pv (.rp [[pi p1.year, pi p1.month, pi p1.day, pi p1.hour, pi p1.minute, pi p1.second]] 0 1))), (6, vb true), (5, vb r1), (4, vi p1.year), (3, .one (.pv (.rp [[pi p1.year, pi p1.month, pi p1.day, pi p1.hour, pi p1.minute, pi p1.second]] 0 0))), (1, .one (.pv (.rp [[pi p1.year, pi p1.month, pi p1.day, pi p1.hour, pi p1.minute, pi p1.second]] 0 0)))] (by kernel_rfl) (c_ref1_within _ _ _ _ c5) rfl rfl (by kernel_rfl) ?_
              refine DX.go 2 [] [(11, vb r2), (10, vb r2), (9, vb r2), (8, vi p1.month), (7, .one (.pv (.rp [[pi p1.year, pi p1.month, pi p1.day, pi p1.hour, pi p1.minute, pi p1.second]] 0 1))), (6, vb true), (5, vb r1), (4, vi p1.year), (3, .one (.pv (.rp [[pi p1.year, pi p1.month, pi p1.day, pi p1.hour, pi p1.minute, pi p1.second]] 0 0))), (1, .one (.pv (.rp [[pi p1.year, pi p1.month, pi p1.day, pi p1.hour, pi p1.minute, pi p1.second]] 0 0)))] [] (by kernel_rfl) trivial ?_
              refine DX.eq (fr1 := [(11, vb true), (10, vb r2), (9, vb r2), (8, vi p1.month), (7, .one (.pv (.rp [[pi p1.year, pi p1.month, pi p1.day, pi p1.hour, pi p1.minute, pi p1.second]] 0 1))), (6, vb true), (5, vb r1), (4, vi p1.year), (3, .one (.pv (.rp [[pi p1.year, pi p1.month, pi p1.day, pi p1.hour, pi p1.minute, pi p1.second]] 0 0))), (1, .one (.pv (.rp [[pi p1.year, pi p1.month, pi p1.day, pi p1.hour, pi p1.minute, pi p1.second]] 0 0)))]) (by rw [b6]) ?_
              refine DX.go 6 [[pi p1.year, pi p1.month, pi p1.day, pi p1.hour, pi p1.minute, pi p1.second], [pi p1.year, pi p1.month, pi p1.day, pi p1.hour, pi p1.minute, pi p1.second], [pi p1.year, pi p1.month, pi p1.day, pi p1.hour, pi p1.minute, pi p1.second]] [(17, vi p1.month), (16, .one (.pv (.rp [[pi p1.year, pi p1.month, pi p1.day, pi p1.hour, pi p1.minute, pi p1.second]] 0 1))), (15, vi p1.year), (14, .one (.pv (.rp [[pi p1.year, pi p1.month, pi p1.day, pi p1.hour, pi p1.minute, pi p1.second]] 0 0))), (13, vi p1.day), (12, .one (.pv (.rp [[pi p1.year, pi p1.month, pi p1.day, pi p1.hour, pi p1.minute, pi p1.second]] 0 2))), (11, vb true), (10, vb r2), (9, vb r2), (8, vi p1.month), (7, .one (.pv (.rp [[pi p1.year, pi p1.month, pi p1.day, pi p1.hour, pi p1.minute, pi p1.second]] 0 1))), (6, vb true), (5, vb r1), (4, vi p1.year), (3, .one (.pv (.rp [[pi p1.year, pi p1.month, pi p1.day, pi p1.hour, pi p1.minute, pi p1.second]] 0 0))), (1, .one (.pv (.rp [[pi p1.year, pi p1.month, pi p1.day, pi p1.hour, pi p1.minute, pi p1.second]] 0 0)))] [([[pi p1.year, pi p1.month, pi p1.day, pi p1.hour, pi p1.minute, pi p1.second]] : List (List PV))[0]? = some [pi p1.year, pi p1.month, pi p1.day, pi p1.hour, pi p1.minute, pi p1.second], ([[pi p1.year, pi p1.month, pi p1.day, pi p1.hour, pi p1.minute, pi p1.second]] : List (List PV))[0]? = some [pi p1.year, pi p1.month, pi p1.day, pi p1.hour, pi p1.minute, pi p1.second], ([[pi p1.year, pi p1.month, pi p1.day, pi p1.hour, pi p1.minute, pi p1.second]] : List (List PV))[0]? = some [pi p1.year, pi p1.month, pi p1.day, pi p1.hour, pi p1.minute, pi p1.second]] (by kernel_rfl) (⟨rfl, rfl, rfl, trivial⟩) ?_
              refine DX.cal 69 [vi p1.year, vi p1.month] (vi r3) [(18, vi r3), (17, vi p1.month), (16, .one (.pv (.rp [[pi p1.year, pi p1.month, pi p1.day, pi p1.hour, pi p1.minute, pi p1.second]] 0 1))), (15, vi p1.year), (14, .one (.pv (.rp [[pi p1.year, pi p1.month, pi p1.day, pi p1.hour, pi p1.minute, pi p1.second]] 0 0))), (13, vi p1.day), (12, .one (.pv (.rp [[pi p1.year, pi p1.month, pi p1.day, pi p1.hour, pi p1.minute, pi p1.second]] 0 2))), (11, vb true), (10, vb r2), (9, vb r2), (8, vi p1.month), (7, .one (.pv (.rp [[pi p1.year, pi p1.month, pi p1.day, pi p1.hour, pi p1.minute, pi p1.second]] 0 1))), (6, vb true), (5, vb r1), (4, vi p1.year), (3, .one (.pv (.rp [[pi p1.year, pi p1.month, pi p1.day, pi p1.hour, pi p1.minute, pi p1.second]] 0 0))), (1, .one (.pv (.rp [[pi p1.year, pi p1.month, pi p1.day, pi p1.hour, pi p1.minute, pi p1.second]] 0 0)))] (by kernel_rfl) (c_ref1_MonthDays _ _ _ c7) rfl rfl (by kernel_rfl) ?_
              exact DX.done (by kernel_rfl)
            refine XO.cal 58 [vi p1.day, vi (1 : Int), vi r3] (vb r4) [(19, vb r4), (18, vi r3), (17, vi p1.month), (16, .one (.pv (.rp [[pi p1.year, pi p1.month, pi p1.day, pi p1.hour, pi p1.minute, pi p1.second]] 0 1))), (15, vi p1.year), (14, .one (.pv (.rp [[pi p1.year, pi p1.month, pi p1.day, pi p1.hour, pi p1.minute, pi p1.second]] 0 0))), (13, vi p1.day), (12, .one (.pv (.rp [[pi p1.year, pi p1.month, pi p1.day, pi p1.hour, pi p1.minute, pi p1.second]] 0 2))), (11, vb true), (10, vb r2), (9, vb r2), (8, vi p1.month), (7, .one (.pv (.rp [[pi p1.year, pi p1.month, pi p1.day, pi p1.hour, pi p1.minute, pi p1.second]] 0 1))), (6, vb true), (5, vb r1), (4, vi p1.year), (3, .one (.pv (.rp [[pi p1.year, pi p1.month, pi p1.day, pi p1.hour, pi p1.minute, pi p1.second]] 0 0))), (1, .one (.pv (.rp [[pi p1.year, pi p1.month, pi p1.day, pi p1.hour, pi p1.minute, pi p1.second]] 0 0)))] (by kernel_rfl) (c_ref1_within _ _ _ _ c8) rfl rfl (by kernel_rfl) ?_
            refine XO.go [] 2 [1,21] [] [(1, .one (.pv (.rp [[pi p1.year, pi p1.month, pi p1.day, pi p1.hour, pi p1.minute, pi p1.second]] 0 0))), (21, vb r4)] [] [] (by kernel_rfl) trivial ?_
            refine XO.setb 21 true (B := r4) rfl b9 ?_
            refine XO.go [] 2 [1,21,23] [[pi p1.year, pi p1.month, pi p1.day, pi p1.hour, pi p1.minute, pi p1.second]] [(1, .one (.pv (.rp [[pi p1.year, pi p1.month, pi p1.day, pi p1.hour, pi p1.minute, pi p1.second]] 0 0))), (21, vb true), (23, vi p1.hour)] [] [([[pi p1.year, pi p1.month, pi p1.day, pi p1.hour, pi p1.minute, pi p1.second]] : List (List PV))[0]? = some [pi p1.year, pi p1.month, pi p1.day, pi p1.hour, pi p1.minute, pi p1.second]] (by kernel_rfl) (⟨rfl, trivial⟩) ?_
            refine XO.cal 58 [vi p1.hour, vi (0 : Int), vi (23 : Int)] (vb r5) [(24, vb r5), (1, .one (.pv (.rp [[pi p1.year, pi p1.month, pi p1.day, pi p1.hour, pi p1.minute, pi p1.second]] 0 0))), (21, vb true), (23, vi p1.hour)] (by kernel_rfl) (c_ref1_within _ _ _ _ c10) rfl rfl (by kernel_rfl) ?_
            refine XO.go [] 2 [1,26] [] [(1, .one (.pv (.rp [[pi p1.year, pi p1.month, pi p1.day, pi p1.hour, pi p1.minute, pi p1.second]] 0 0))), (26, vb r5)] [] [] (by kernel_rfl) trivial ?_
            refine XO.setb 26 true (B := r5) rfl b11 ?_
            refine XO.go [] 2 [1,26,28] [[pi p1.year, pi p1.month, pi p1.day, pi p1.hour, pi p1.minute, pi p1.second]] [(1, .one (.pv (.rp [[pi p1.year, pi p1.month, pi p1.day, pi p1.hour, pi p1.minute, pi p1.second]] 0 0))), (26, vb true), (28, vi p1.minute)] [] [([[pi p1.year, pi p1.month, pi p1.day, pi p1.hour, pi p1.minute, pi p1.second]] : List (List PV))[0]? = some [pi p1.year, pi p1.month, pi p1.day, pi p1.hour, pi p1.minute, pi p1.second]] (by kernel_rfl) (⟨rfl, trivial⟩) ?_
            refine XO.cal 58 [vi p1.minute, vi (0 : Int), vi (59 : Int)] (vb r6) [(29, vb r6), (1, .one (.pv (.rp [[pi p1.year, pi p1.month, pi p1.day, pi p1.hour, pi p1.minute, pi p1.second]] 0 0))), (26, vb true), (28, vi p1.minute)] (by kernel_rfl) (c_ref1_within _ _ _ _ c12) rfl rfl (by kernel_rfl) ?_
            refine XO.go [] 2 [1,31] [] [(1, .one (.pv (.rp [[pi p1.year, pi p1.month, pi p1.day, pi p1.hour, pi p1.minute, pi p1.second]] 0 0))), (31, vb r6)] [] [] (by kernel_rfl) trivial ?_
            refine XO.setb 31 true (B := r6) rfl b13 ?_
            refine XO.go [] 2 [31,33] [[pi p1.year, pi p1.month, pi p1.day, pi p1.hour, pi p1.minute, pi p1.second]] [(31, vb true), (33, vi p1.second)] [] [([[pi p1.year, pi p1.month, pi p1.day, pi p1.hour, pi p1.minute, pi p1.second]] : List (List PV))[0]? = some [pi p1.year, pi p1.month, pi p1.day, pi p1.hour, pi p1.minute, pi p1.second]] (by kernel_rfl) (⟨rfl, trivial⟩) ?_
            refine XO.cal 58 [vi p1.second, vi (0 : Int), vi (59 : Int)] (vb r7) [(34, vb r7), (31, vb true), (33, vi p1.second)] (by kernel_rfl) (c_ref1_within _ _ _ _ c14) rfl rfl (by kernel_rfl) ?_
            refine XO.go [] 2 [2] [] [(2, vb r7)] [] [] (by kernel_rfl) trivial ?_
            refine XO.done (by kernel_rfl) ?_
            exact hJ1 r7 h _ _ (Sub.pick [2] (by kernel_rfl))
          · have h := ift_f b13 h
            refine XW.drwS 16 [(18, vi r3), (17, vi p1.month), (16, .one (.pv (.rp [[pi p1.year, pi p1.month, pi p1.day, pi p1.hour, pi p1.minute, pi p1.second]] 0 1))), (15, vi p1.year), (14, .one (.pv (.rp [[pi p1.year, pi p1.month, pi p1.day, pi p1.hour, pi p1.minute, pi p1.second]] 0 0))), (13, vi p1.day), (12, .one (.pv (.rp [[pi p1.year, pi p1.month, pi p1.day, pi p1.hour, pi p1.minute, pi p1.second]] 0 2))), (11, vb true), (10, vb r2), (9, vb r2), (8, vi p1.month), (7, .one (.pv (.rp [[pi p1.year, pi p1.month, pi p1.day, pi p1.hour, pi p1.minute, pi p1.second]] 0 1))), (6, vb true), (5, vb r1), (4, vi p1.year), (3, .one (.pv (.rp [[pi p1.year, pi p1.month, pi p1.day, pi p1.hour, pi p1.minute, pi p1.second]] 0 0))), (1, .one (.pv (.rp [[pi p1.year, pi p1.month, pi p1.day, pi p1.hour, pi p1.minute, pi p1.second]] 0 0)))] (by kernel_rfl) (by kernel_rfl) ?_ ?_
            · refine DX.go 2 [[pi p1.year, pi p1.month, pi p1.day, pi p1.hour, pi p1.minute, pi p1.second]] [(4, vi p1.year), (3, .one (.pv (.rp [[pi p1.year, pi p1.month, pi p1.day, pi p1.hour, pi p1.minute, pi p1.second]] 0 0))), (1, .one (.pv (.rp [[pi p1.year, pi p1.month, pi p1.day, pi p1.hour, pi p1.minute, pi p1.second]] 0 0)))] [([[pi p1.year, pi p1.month, pi p1.day, pi p1.hour, pi p1.minute, pi p1.second]] : List (List PV))[0]? = some [pi p1.year, pi p1.month, pi p1.day, pi p1.hour, pi p1.minute, pi p1.second]] (by kernel_rfl) (⟨rfl, trivial⟩) ?_
              refine DX.cal 58 [vi p1.year, vi (1 : Int), vi (9999 : Int)] (vb r1) [(5, vb r1), (4, vi p1.year), (3, .one (.pv (.rp [[pi p1.year, pi p1.month, pi p1.day, pi p1.hour, pi p1.minute, pi p1.second]] 0 0))), (1, .one (.pv (.rp [[pi p1.year, pi p1.month, pi p1.day, pi p1.hour, pi p1.minute, pi p1.second]] 0 0)))] (by kernel_rfl) (c_ref1_within _ _ _ _ c3) rfl rfl (by kernel_rfl) ?_
              refine DX.go 1 [] [(6, vb r1), (5, vb r1), (4, vi p1.year), (3, .one (.pv (.rp [[pi p1.year, pi p1.month, pi p1.day, pi p1.hour, pi p1.minute, pi p1.second]] 0 0))), (1, .one (.pv (.rp [[pi p1.year, pi p1.month, pi p1.day, pi p1.hour, pi p1.minute, pi p1.second]] 0 0)))] [] (by kernel_rfl) trivial ?_
              refine DX.eq (fr1 := [(6, vb true), (5, vb r1), (4, vi p1.year), (3, .one (.pv (.rp [[pi p1.year, pi p1.month, pi p1.day, pi p1.hour, pi p1.minute, pi p1.second]] 0 0))), (1, .one (.pv (.rp [[pi p1.year, pi p1.month, pi p1.day, pi p1.hour, pi p1.minute, pi p1.second]] 0 0)))]) (by rw [b4]) ?_
              refine DX.go 2 [[pi p1.year, pi p1.month, pi p1.day, pi p1.hour, pi p1.minute, pi p1.second]] [(8, vi p1.month), (7, .one (.pv (.rp [[pi p1.year, pi p1.month, pi p1.day, pi p1.hour, pi p1.minute, pi p1.second]] 0 1))), (6, vb true), (5, vb r1), (4, vi p1.year), (3, .one (.pv (.rp [[pi p1.year, pi p1.month, pi p1.day, pi p1.hour, pi p1.minute, pi p1.second]] 0 0))), (1, .one (.pv (.rp [[pi p1.year, pi p1.month, pi p1.day, pi p1.hour, pi p1.minute, pi p1.second]] 0 0)))] [([[pi p1.year, pi p1.month, pi p1.day, pi p1.hour, pi p1.minute, pi p1.second]] : List (List PV))[0]? = some [pi p1.year, pi p1.month, pi p1.day, pi p1.hour, pi p1.minute, pi p1.second]] (by kernel_rfl) (⟨rfl, trivial⟩) ?_
              refine DX.cal 58 [vi p1.month, vi (1 : Int), vi (12 : Int)] (vb r2) [(9, vb r2), (8, vi p1.month), (7, .one (.pv (.rp [[pi p1.year, pi p1.month, pi p1.day, pi p1.hour, pi p1.minute, pi p1.second]] 0 1))), (6, vb true), (5, vb r1), (4, vi p1.year), (3, .one (.pv (.rp [[pi p1.year, pi p1.month, pi p1.day, pi p1.hour, pi p1.minute, pi p1.second]] 0 0))), (1, .one (.pv (.rp [[pi p1.year, pi p1.month, pi p1.day, pi p1.hour, pi p1.minute, pi p1.second]] 0 0)))] (by kernel_rfl) (c_ref1_within _ _ _ _ c5) rfl rfl (by kernel_rfl) ?_
              refine DX.go 2 [] [(11, vb r2), (10, vb r2), (9, vb r2), (8, vi p1.month), (7, .one (.pv (.rp [[pi p1.year, pi p1.month, pi p1.day, pi p1.hour, pi p1.minute, pi p1.second]] 0 1))), (6, vb true), (5, vb r1), (4, vi p1.year), (3, .one (.pv (.rp [[pi p1.year, pi p1.month, pi p1.day, pi p1.hour, pi p1.minute, pi p1.second]] 0 0))), (1, .one (.pv (.rp [[pi p1.year, pi p1.month, pi p1.day, pi p1.hour, pi p1.minute, pi p1.second]] 0 0)))] [] (by kernel_rfl) trivial ?_
              refine DX.eq (fr1 := [(11, vb true), (10, vb r2), (9, vb r2), (8, vi p1.month), (7, .one (.pv (.rp [[pi p1.year, pi p1.month, pi p1.day, pi p1.hour, pi p1.minute, pi p1.second]] 0 1))), (6, vb true), (5, vb r1), (4, vi p1.year), (3, .one (.pv (.rp [[pi p1.year, pi p1.month, pi p1.day, pi p1.hour, pi p1.minute, pi p1.second]] 0 0))), (1, .one (.pv (.rp [[pi p1.year, pi p1.month, pi p1.day, pi p1.hour, pi p1.minute, pi p1.second]] 0 0)))]) (by rw [b6]) ?_
              refine DX.go 6 [[pi p1.year, pi p1.month, pi p1.day, pi p1.hour, pi p1.minute, pi p1.second], [pi p1.year, pi p1.month, pi p1.day, pi p1.hour, pi p1.minute, pi p1.second], [pi p1.year, pi p1.month, pi p1.day, pi p1.hour, pi p1.minute, pi p1.second]] [(17, vi p1.month), (16, .one (.pv (.rp [[pi p1.year, pi p1.month, pi p1.day, pi p1.hour, pi p1.minute, pi p1.second]] 0 1))), (15, vi p1.year), (14, .one (.pv (.rp [[pi p1.year, pi p1.month, pi p1.day, pi p1.hour, pi p1.minute, pi p1.second]] 0 0))), (13, vi p1.day), (12, .one (.pv (.rp [[pi p1.year, pi p1.month, pi p1.day, pi p1.hour, pi p1.minute, pi p1.second]] 0 2))), (11, vb true), (10, vb r2), (9, vb r2), (8, vi p1.month), (7, .one (.pv (.rp [[pi p1.year, pi p1.month, pi p1.day, pi p1.hour, pi p1.minute, pi p1.second]] 0 1))), (6, vb true), (5, vb r1), (4, vi p1.year), (3, .one (.pv (.rp [[pi p1.year, pi p1.month, pi p1.day, pi p1.hour, pi p1.minute, pi p1.second]] 0 0))), (1, .one (.pv (.rp [[pi p1.year, pi p1.month, pi p1.day, pi p1.hour, pi p1.minute, pi p1.second]] 0 0)))] [([[pi p1.year, pi p1.month, pi p1.day, pi p1.hour, pi p1.minute, pi p1.second]] : List (List PV))[0]? = some [pi p1.year, pi p1.month, pi p1.day, pi p1.hour, pi p1.minute, pi p1.second], ([[pi p1.year, pi p1.month, pi p1.day, pi p1.hour, pi p1.minute, pi p1.second]] : List (List PV))[0]? = some [pi p1.year, pi p1.month, pi p1.day, pi p1.hour, pi p1.minute, pi p1.second], ([[pi p1.year, pi p1.month, pi p1.day, pi p1.hour, pi p1.minute, pi p1.second]] : List (List PV))[0]? = some [pi p1.year, pi p1.month, pi p1.day, pi p1.hour, pi p1.minute, pi p1.second]] (by kernel_rfl) (⟨rfl, rfl, rfl, trivial⟩) ?_
              refine DX.cal 69 [vi p1.year, vi p1.month] (vi r3) [(18, vi r3), (17, vi p1.month), (16, .one (.pv (.rp [[pi p1.year, pi p1.month, pi p1.day, pi p1.hour, pi p1.minute, pi p1.second]] 0 1))), (15, vi p1.year), (14, .one (.pv (.rp [[pi p1.year, pi p1.month, pi p1.day, pi p1.hour, pi p1.minute, pi p1.second]] 0 0))), (13, vi p1.day), (12, .one (.pv (.rp [[pi p1.year, pi p1.month, pi p1.day, pi p1.hour, pi p1.minute, pi p1.second]] 0 2))), (11, vb true), (10, vb r2), (9, vb r2), (8, vi p1.month), (7, .one (.pv (.rp [[pi p1.year, pi p1.month, pi p1.day, pi p1.hour, pi p1.minute, pi p1.second]] 0 1))), (6, vb true), (5, vb r1), (4, vi p1.year), (3, .one (.pv (.rp [[pi p1.year, pi p1.month, pi p1.day, pi p1.hour, pi p1.minute, pi p1.second]] 0 0))), (1, .one (.pv (.rp [[pi p1.year, pi p1.month, pi p1.day, pi p1.hour, pi p1.minute, pi p1.second]] 0 0)))] (by kernel_rfl) (c_ref1_MonthDays _ _ _ c7) rfl rfl (by kernel_rfl) ?_
              exact DX.done (by kernel_rfl)
            refine XO.cal 58 [vi p1.day, vi (1 : Int), vi r3] (vb r4) [(19, vb r4), (18, vi r3), (17, vi p1.month), (16, .one (.pv (.rp [[pi p1.year, pi p1.month, pi p1.day, pi p1.hour, pi p1.minute, pi p1.second]] 0 1))), (15, vi p1.year), (14, .one (.pv (.rp [[pi p1.year, pi p1.month, pi p1.day, pi p1.hour, pi p1.minute, pi p1.second]] 0 0))), (13, vi p1.day), (12, .one (.pv (.rp [[pi p1.year, pi p1.month, pi p1.day, pi p1.hour, pi p1.minute, pi p1.second]] 0 2))), (11, vb true), (10, vb r2), (9, vb r2), (8, vi p1.month), (7, .one (.pv (.rp [[pi p1.year, pi p1.month, pi p1.day, pi p1.hour, pi p1.minute, pi p1.second]] 0 1))), (6, vb true), (5, vb r1), (4, vi p1.year), (3, .one (.pv (.rp [[pi p1.year, pi p1.month, pi p1.day, pi p1.hour, pi p1.minute, pi p1.second]] 0 0))), (1, .one (.pv (.rp [[pi p1.year, pi p1.month, pi p1.day, pi p1.hour, pi p1.minute, pi p1.second]] 0 0)))] (by kernel_rfl) (c_ref1_within _ _ _ _ c8) rfl rfl (by kernel_rfl) ?_
            refine XO.go [] 2 [1,21] [] [(1, .one (.pv (.rp [[pi p1.year, pi p1.month, pi p1.day, pi p1.hour, pi p1.minute, pi p1.second]] 0 0))), (21, vb r4)] [] [] (by kernel_rfl) trivial ?_
            refine XO.setb 21 true (B := r4) rfl b9 ?_
            refine XO.go [] 2 [1,21,23] [[pi p1.year, pi p1.month, pi p1.day, pi p1.hour, pi p1.minute, pi p1.second]] [(1, .one (.pv (.rp [[pi p1.year, pi p1.month, pi p1.day, pi p1.hour, pi p1.minute, pi p1.second]] 0 0))), (21, vb true), (23, vi p1.hour)] [] [([[pi p1.year, pi p1.month, pi p1.day, pi p1.hour, pi p1.minute, pi p1.second]] : List (List PV))[0]? = some [pi p1.year, pi p1.month, pi p1.day, pi p1.hour, pi p1.minute, pi p1.second]] (by kernel_rfl) (⟨rfl, trivial⟩) ?_
            refine XO.cal 58 [vi p1.hour, vi (0 : Int), vi (23 : Int)] (vb r5) [(24, vb r5), (1, .one (.pv (.rp [[pi p1.year, pi p1.month, pi p1.day, pi p1.hour, pi p1.minute, pi p1.second]] 0 0))), (21, vb true), (23, vi p1.hour)] (by kernel_rfl) (c_ref1_within _ _ _ _ c10) rfl rfl (by kernel_rfl) ?_
            refine XO.go [] 2 [1,26] [] [(1, .one (.pv (.rp [[pi p1.year, pi p1.month, pi p1.day, pi p1.hour, pi p1.minute, pi p1.second]] 0 0))), (26, vb r5)] [] [] (by kernel_rfl) trivial ?_
            refine XO.setb 26 true (B := r5) rfl b11 ?_
            refine XO.go [] 2 [1,26,28] [[pi p1.year, pi p1.month, pi p1.day, pi p1.hour, pi p1.minute, pi p1.second]] [(1, .one (.pv (.rp [[pi p1.year, pi p1.month, pi p1.day, pi p1.hour, pi p1.minute, pi p1.second]] 0 0))), (26, vb true), (28, vi p1.minute)] [] [([[pi p1.year, pi p1.month, pi p1.day, pi p1.hour, pi p1.minute, pi p1.second]] : List (List PV))[0]? = some [pi p1.year, pi p1.month, pi p1.day, pi p1.hour, pi p1.minute, pi p1.second]] (by kernel_rfl) (⟨rfl, trivial⟩) ?_
            refine XO.cal 58 [vi p1.minute, vi (0 : Int), vi (59 : Int)] (vb r6) [(29, vb r6), (1, .one (.pv (.rp [[pi p1.year, pi p1.month, pi p1.day, pi p1.hour, pi p1.minute, pi p1.second]] 0 0))), (26, vb true), (28, vi p1.minute)] (by kernel_rfl) (c_ref1_within _ _ _ _ c12) rfl rfl (by kernel_rfl) ?_
            refine XO.go [] 2 [1,31] [] [(1, .one (.pv (.rp [[pi p1.year, pi p1.month, pi p1.day, pi p1.hour, pi p1.minute, pi p1.second]] 0 0))), (31, vb r6)] [] [] (by kernel_rfl) trivial ?_
            refine XO.setb 31 false (B := r6) rfl b13 ?_
            refine XO.go [] 5 [2] [] [(2, vb false)] [] [] (by kernel_rfl) trivial ?_
            refine XO.done (by kernel_rfl) ?_
            exact hJ1 false h _ _ (Sub.pick [2] (by kernel_rfl))
        · have h := ift_f b11 h
          refine XW.drwS 16 [(18, vi r3), (17, vi p1.month), (16, .one (.pv (.rp [[pi p1.year, pi p1.month, pi p1.day, pi p1.hour, pi p1.minute, pi p1.second]] 0 1))), (15, vi p1.year), (14, .one (.pv (.rp [[pi p1.year, pi p1.month, pi p1.day, pi p1.hour, pi p1.minute, pi p1.second]] 0 0))), (13, vi p1.day), (12, .one (.pv (.rp [[pi p1.year, pi p1.month, pi p1.day, pi p1.hour, pi p1.minute, pi p1.second]] 0 2))), (11, vb true), (10, vb r2), (9, vb r2), (8, vi p1.month), (7, .one (.pv (.rp [[pi p1.year, pi p1.month, pi p1.day, pi p1.hour, pi p1.minute, pi p1.second]] 0 1))), (6, vb true), (5, vb r1), (4, vi p1.year), (3, .one (.pv (.rp [[pi p1.year, pi p1.month, pi p1.day, pi p1.hour, pi p1.minute, pi p1.second]] 0 0))), (1, .one (.pv (.rp [[pi p1.year, pi p1.month, pi p1.day, pi p1.hour, pi p1.minute, pi p1.second]] 0 0)))] (by kernel_rfl) (by kernel_rfl) ?_ ?_
          · refine DX.go 2 [[pi p1.year, pi p1.month, pi p1.day, pi p1.hour, pi p1.minute, pi p1.second]] [(4, vi p1.year), (3, .one (.pv (.rp [[pi p1.year, pi p1.month, pi p1.day, pi p1.hour, pi p1.minute, pi p1.second]] 0 0))), (1, .one (.pv (.rp [[pi p1.year, pi p1.month, pi p1.day, pi p1.hour, pi p1.minute, pi p1.second]] 0 0)))] [([[pi p1.year, pi p1.month, pi p1.day, pi p1.hour, pi p1.minute, pi p1.second]] : List (List PV))[0]? = some [pi p1.year, pi p1.month, pi p1.day, pi p1.hour, pi p1.minute, pi p1.second]] (by kernel_rfl) (⟨rfl, trivial⟩) ?_
            refine DX.cal 58 [vi p1.year, vi (1 : Int), vi (9999 : Int)] (vb r1) [(5, vb r1), (4, vi p1.year), (3, .one (.pv (.rp [[pi p1.year, pi p1.month, pi p1.day, pi p1.hour, pi p1.minute, pi p1.second]] 0 0))), (1, .one (.pv (.rp [[pi p1.year, pi p1.month, pi p1.day, pi p1.hour, pi p1.minute, pi p1.second]] 0 0)))] (by kernel_rfl) (c_ref1_within _ _ _ _ c3) rfl rfl (by kernel_rfl) ?_
            refine DX.go 1 [] [(6, vb r1), (5, vb r1), (4, vi p1.year), (3, .one (.pv (.rp [[pi p1.year, pi p1.month, pi p1.day, pi p1.hour, pi p1.minute, pi p1.second]] 0 0))), (1, .one (.pv (.rp [[pi p1.year, pi p1.month, pi p1.day, pi p1.hour, pi p1.minute, pi p1.second]] 0 0)))] [] (by kernel_rfl) trivial ?_
            refine DX.eq (fr1 := [(6, vb true), (5, vb r1), (4, vi p1.year), (3, .one (.pv (.rp [[pi p1.year, pi p1.month, pi p1.day, pi p1.hour, pi p1.minute, pi p1.second]] 0 0))), (1, .one (.pv (.rp [[pi p1.year, pi p1.month, pi p1.day, pi p1.hour, pi p1.minute, pi p1.second]] 0 0)))]) (by rw [b4]) ?_
            refine DX.go 2 [[pi p1.year, pi p1.month, pi p1.day, pi p1.hour, pi p1.minute, pi p1.second]] [(8, vi p1.month), (7, .one (.pv (.rp [[pi p1.year, pi p1.month, pi p1.day, pi p1.hour, pi p1.minute, pi p1.second]] 0 1))), (6, vb true), (5, vb r1), (4, vi p1.year), (3, .one (.pv (.rp [[pi p1.year, pi p1.month, pi p1.day, pi p1.hour, pi p1.minute, pi p1.second]] 0 0))), (1, .one (.pv (.rp [[pi p1.year, pi p1.month, pi p1.day, pi p1.hour, pi p1.minute, pi p1.second]] 0 0)))] [([[pi p1.year, pi p1.month, pi p1.day, pi p1.hour, pi p1.minute, pi p1.second]] : List (List PV))[0]? = some [pi p1.year, pi p1.month, pi p1.day, pi p1.hour, pi p1.minute, pi p1.second]] (by kernel_rfl) (⟨rfl, trivial⟩) ?_
            refine DX.cal 58 [vi p1.month, vi (1 : Int), vi (12 : Int)] (vb r2) [(9, vb r2), (8, vi p1.month), (7, .one (.pv (.rp [[pi p1.year, pi p1.month, pi p1.day, pi p1.hour, pi p1.minute, pi p1.second]] 0 1))), (6, vb true), (5, vb r1), (4, vi p1.year), (3, .one (.pv (.rp [[pi p1.year, pi p1.month, pi p1.day, pi p1.hour, pi p1.minute, pi p1.second]] 0 0))), (1, .one (.pv (.rp [[pi p1.year, pi p1.month, pi p1.day, pi p1.hour, pi p1.minute, pi p1.second]] 0 0)))] (by kernel_rfl) (c_ref1_within _ _ _ _ c5) rfl rfl (by kernel_rfl) ?_
            refine DX.go 2 [] [(11, vb r2), (10, vb r2), (9, vb r2), (8, vi p1.month), (7, .one (.pv (.rp [[pi p1.year, pi p1.month, pi p1.day, pi p1.hour, pi p1.minute, pi p1.second]] 0 1))), (6, vb true), (5, vb r1), (4, vi p1.year), (3, .one (.pv (.rp [[pi p1.year, pi p1.month, pi p1.day, pi p1.hour, pi p1.minute, pi p1.second]] 0 0))), (1, .one (.pv (.rp [[pi p1.year, pi p1.month, pi p1.day, pi p1.hour, pi p1.minute, pi p1.second]] 0 0)))] [] (by kernel_rfl) trivial ?_
            refine DX.eq (fr1 := [(11, vb true), (10, vb r2), (9, vb r2), (8, vi p1.month), (7, .one (.pv (.rp [[pi p1.year, pi p1.month, pi p1.day, pi p1.hour, pi p1.minute, pi p1.second]] 0 1))), (6, vb true), (5, vb r1), (4, vi p1.year), (3, .one (.pv (.rp [[pi p1.year, pi p1.month, pi p1.day, pi p1.hour, pi p1.minute, pi p1.second]] 0 0))), (1, .one (.pv (.rp [[pi p1.year, pi p1.month, pi p1.day, pi p1.hour, pi p1.minute, pi p1.second]] 0 0)))]) (by rw [b6]) ?_
            refine DX.go 6 [[pi p1.year, pi p1.month, pi p1.day, pi p1.hour, pi p1.minute, pi p1.second], [pi p1.year, pi p1.month, pi p1.day, pi p1.hour, pi p1.minute, pi p1.second], [pi p1.year, pi p1.month, pi p1.day, pi p1.hour, pi p1.minute, pi p1.second]] [(17, vi p1.month), (16, .one (.pv (.rp [[pi p1.year, pi p1.month, pi p1.day, pi p1.hour, pi p1.minute, pi p1.second]] 0 1))), (15, vi p1.year), (14, .one (.pv (.rp [[pi p1.year, pi p1.month, pi p1.day, pi p1.hour, pi p1.minute, pi p1.second]] 0 0))), (13, vi p1.day), (12, .one (.pv (.rp [[pi p1.year, pi p1.month, pi p1.day, pi p1.hour, pi p1.minute, pi p1.second]] 0 2))), (11, vb true), (10, vb r2), (9, vb r2), (8, vi p1.month), (7, .one (.pv (.rp [[pi p1.year, pi p1.month, pi p1.day, pi p1.hour, pi p1.minute, pi p1.second]] 0 1))), (6, vb true), (5, vb r1), (4, vi p1.year), (3, .one (.pv (.rp [[pi p1.year, pi p1.month, pi p1.day, pi p1.hour, pi p1.minute, pi p1.second]] 0 0))), (1, .one (.pv (.rp [[pi p1.year, pi p1.month, pi p1.day, pi p1.hour, pi p1.minute, pi p1.second]] 0 0)))] [([[pi p1.year, pi p1.month, pi p1.day, pi p1.hour, pi p1.minute, pi p1.second]] : List (List PV))[0]? = some [pi p1.year, pi p1.month, pi p1.day, pi p1.hour, pi p1.minute, pi p1.second], ([[pi p1.year, pi p1.month, pi p1.day, pi p1.hour, pi p1.minute, pi p1.second]] : List (List PV))[0]? = some [pi p1.year, pi p1.month, pi p1.day, pi p1.hour, pi p1.minute, pi p1.second], ([[pi p1.year, pi p1.month, pi p1.day, pi p1.hour, pi p1.minute, pi p1.second]] : List (List PV))[0]? = some [pi p1.year, pi p1.month, pi p1.day, pi p1.hour, pi p1.minute, pi p1.second]] (by kernel_rfl) (⟨rfl, rfl, rfl, trivial⟩) ?_
            refine DX.cal 69 [vi p1.year, vi p1.month] (vi r3) [(18, vi r3), (17, vi p1.month), (16, .one (.pv (.rp [[pi p1.year, pi p1.month, pi p1.day, pi p1.hour, pi p1.minute, pi p1.second]] 0 1))), (15, vi p1.year), (14, .one (.pv (.rp [[pi p1.year, pi p1.month, pi p1.day, pi p1.hour, pi p1.minute, pi p1.second]] 0 0))), (13, vi p1.day), (12, .one (.pv (.rp [[pi p1.year, pi p1.month, pi p1.day, pi p1.hour, pi p1.minute, pi p1.second]] 0 2))), (11, vb true), (10, vb r2), (9, vb r2), (8, vi p1.month), (7, .one (.pv (.rp [[pi p1.year, pi p1.month, pi p1.day, pi p1.hour, pi p1.minute, pi p1.second]] 0 1))), (6, vb true), (5, vb r1), (4, vi p1.year), (3, .one (.pv (.rp [[pi p1.year, pi p1.month, pi p1.day, pi p1.hour, pi p1.minute, pi p1.second]] 0 0))), (1, .one (.pv (.rp [[pi p1.year, pi p1.month, pi p1.day, pi p1.hour, pi p1.minute, pi p1.second]] 0 0)))] (by kernel_rfl) (c_ref1_MonthDays _ _ _ c7) rfl rfl (by kernel_rfl) ?_
            exact DX.done (by kernel_rfl)
          refine XO.cal 58 [vi p1.day, vi (1 : Int), vi r3] (vb r4) [(19, vb r4), (18, vi r3), (17, vi p1.month), (16, .one (.pv (.rp [[pi p1.year, pi p1.month, pi p1.day, pi p1.hour, pi p1.minute, pi p1.second]] 0 1))), (15, vi p1.year), (14, .one (.pv (.rp [[pi p1.year, pi p1.month, pi p1.day, pi p1.hour, pi p1.minute, pi p1.second]] 0 0))), (13, vi p1.day), (12, .one (.pv (.rp [[pi p1.year, pi p1.month, pi p1.day, pi p1.hour, pi p1.minute, pi p1.second]] 0 2))), (11, vb true), (10, vb r2), (9, vb r2), (8, vi p1.month), (7, .one (.pv (.rp [[pi p1.year, pi p1.month, pi p1.day, pi p1.hour, pi p1.minute, pi p1.second]] 0 1))), (6, vb true), (5, vb r1), (4, vi p1.year), (3, .one (.pv (.rp [[pi p1.year, pi p1.month, pi p1.day, pi p1.hour, pi p1.minute, pi p1.second]] 0 0))), (1, .one (.pv (.rp [[pi p1.year, pi p1.month, pi p1.day, pi p1.hour, pi p1.minute, pi p1.second]] 0 0)))] (by kernel_rfl) (c_ref1_within _ _ _ _ c8) rfl rfl (by kernel_rfl) ?_
          refine XO.go [] 2 [1,21] [] [(1, .one (.pv (.rp [[pi p1.year, pi p1.month, pi p1.day, pi p1.hour, pi p1.minute, pi p1.second]] 0 0))), (21, vb r4)] [] [] (by kernel_rfl) trivial ?_
          refine XO.setb 21 true (B := r4) rfl b9 ?_
          refine XO.go [] 2 [1,21,23] [[pi p1.year, pi p1.month, pi p1.day, pi p1.hour, pi p1.minute, pi p1.second]] [(1, .one (.pv (.rp [[pi p1.year, pi p1.month, pi p1.day, pi p1.hour, pi p1.minute, pi p1.second]] 0 0))), (21, vb true), (23, vi p1.hour)] [] [([[pi p1.year, pi p1.month, pi p1.day, pi p1.hour, pi p1.minute, pi p1.second]] : List (List PV))[0]? = some [pi p1.year, pi p1.month, pi p1.day, pi p1.hour, pi p1.minute, pi p1.second]] (by kernel_rfl) (⟨rfl, trivial⟩) ?_
          refine XO.cal 58 [vi p1.hour, vi (0 : Int), vi (23 : Int)] (vb r5) [(24, vb r5), (1, .one (.pv (.rp [[pi p1.year, pi p1.month, pi p1.day, pi p1.hour, pi p1.minute, pi p1.second]] 0 0))), (21, vb true), (23, vi p1.hour)] (by kernel_rfl) (c_ref1_within _ _ _ _ c10) rfl rfl (by kernel_rfl) ?_
          refine XO.go [] 2 [1,26] [] [(1, .one (.pv (.rp [[pi p1.year, pi p1.month, pi p1.day, pi p1.hour, pi p1.minute, pi p1.second]] 0 0))), (26, vb r5)] [] [] (by kernel_rfl) trivial ?_
          refine XO.setb 26 false (B := r5) rfl b11 ?_
          refine XO.go [] 10 [2] [] [(2, vb false)] [] [] (by kernel_rfl) trivial ?_
          refine XO.done (by kernel_rfl) ?_
          exact hJ1 false h _ _ (Sub.pick [2] (by kernel_rfl))
      · have h := ift_f b9 h
        refine XW.drwS 16 [(18, vi r3), (17, vi p1.month), (16, .one (.pv (.rp [[pi p1.year, pi p1.month, pi p1.day, pi p1.hour, pi p1.minute, pi p1.second]] 0 1))), (15, vi p1.year), (14, .one (.pv (.rp [[pi p1.year, pi p1.month, pi p1.day, pi p1.hour, pi p1.minute, pi p1.second]] 0 0))), (13, vi p1.day), (12, .one (.pv (.rp [[pi p1.year, pi p1.month, pi p1.day, pi p1.hour, pi p1.minute, pi p1.second]] 0 2))), (11, vb true), (10, vb r2), (9, vb r2), (8, vi p1.month), (7, .one (.pv (.rp [[pi p1.year, pi p1.month, pi p1.day, pi p1.hour, pi p1.minute, pi p1.second]] 0 1))), (6, vb true), (5, vb r1), (4, vi p1.year), (3, .one (.pv (.rp [[pi p1.year, pi p1.month, pi p1.day, pi p1.hour, pi p1.minute, pi p1.second]] 0 0))), (1, .one (.pv (.rp [[pi p1.year, pi p1.month, pi p1.day, pi p1.hour, pi p1.minute, pi p1.second]] 0 0)))] (by kernel_rfl) (by kernel_rfl) ?_ ?_
        · refine DX.go 2 [[pi p1.year, pi p1.month, pi p1.day, pi p1.hour, pi p1.minute, pi p1.second]] [(4, vi p1.year), (3, .one (.pv (.rp [[pi p1.year, pi p1.month, pi p1.day, pi p1.hour, pi p1.minute, pi p1.second]] 0 0))), (1, .one (.pv (.rp [[pi p1.year, pi p1.month, pi p1.day, pi p1.hour, pi p1.minute, pi p1.second]] 0 0)))] [([[pi p1.year, pi p1.month, pi p1.day, pi p1.hour, pi p1.minute, pi p1.second]] : List (List PV))[0]? = some [pi p1.year, pi p1.month, pi p1.day, pi p1.hour, pi p1.minute, pi p1.second]] (by kernel_rfl) (⟨rfl, trivial⟩) ?_
          refine DX.cal 58 [vi p1.year, vi (1 : Int), vi (9999 : Int)] (vb r1) [(5, vb r1), (4, vi p1.year), (3, .one (.pv (.rp [[pi p1.year, pi p1.month, pi p1.day, pi p1.hour, pi p1.minute, pi p1.second]] 0 0))), (1, .one (.pv (.rp [[pi p1.year, pi p1.month, pi p1.day, pi p1.hour, pi p1.minute, pi p1.second]] 0 0)))] (by kernel_rfl) (c_ref1_within _ _ _ _ c3) rfl rfl (by kernel_rfl) ?_
          refine DX.go 1 [] [(6, vb r1), (5, vb r1), (4, vi p1.year), (3, .one (.pv (.rp [[pi p1.year, pi p1.month, pi p1.day, pi p1.hour, pi p1.minute, pi p1.second]] 0 0))), (1, .one (.pv (.rp [[pi p1.year, pi p1.month, pi p1.day, pi p1.hour, pi p1.minute, pi p1.second]] 0 0)))] [] (by kernel_rfl) trivial ?_
          refine DX.eq (fr1 := [(6, vb true), (5, vb r1), (4, vi p1.year), (3, .one (.pv (.rp [[pi p1.year, pi p1.month, pi p1.day, pi p1.hour, pi p1.minute, pi p1.second]] 0 0))), (1, .one (.pv (.rp [[pi p1.year, pi p1.month, pi p1.day, pi p1.hour, pi p1.minute, pi p1.second]] 0 0)))]) (by rw [b4]) ?_
          refine DX.go 2 [[pi p1.year, pi p1.month, pi p1.day, pi p1.hour, pi p1.minute, pi p1.second]] [(8, vi p1.month), (7, .one (.pv (.rp [[pi p1.year, pi p1.month, pi p1.day, pi p1.hour, pi p1.minute, pi p1.second]] 0 1))), (6, vb true), (5, vb r1), (4, vi p1.year), (3, .one (.pv (.rp [[pi p1.year, pi p1.month, pi p1.day, pi p1.hour, pi p1.minute, pi p1.second]] 0 0))), (1, .one (.pv (.rp [[pi p1.year, pi p1.month, pi p1.day, pi p1.hour, pi p1.minute, pi p1.second]] 0 0)))] [([[pi p1.year, pi p1.month, pi p1.day, pi p1.hour, pi p1.minute, pi p1.second]] : List (List PV))[0]? = some [pi p1.year, pi p1.month, pi p1.day, pi p1.hour, pi p1.minute, pi p1.second]] (by kernel_rfl) (⟨rfl, trivial⟩) ?_
          refine DX.cal 58 [vi p1.month, vi (1 : Int), vi (12 : Int)] (vb r2) [(9, vb r2), (8, vi p1.month), (7, .one (.pv (.rp [[pi p1.year, pi p1.month, pi p1.day, pi p1.hour, pi p1.minute, pi p1.second]] 0 1))), (6, vb true), (5, vb r1), (4, vi p1.year), (3, .one (.pv (.rp [[pi p1.year, pi p1.month, pi p1.day, pi p1.hour, pi p1.minute, pi p1.second]] 0 0))), (1, .one (.pv (.rp [[pi p1.year, pi p1.month, pi p1.day, pi p1.hour, pi p1.minute, pi p1.second]] 0 0)))] (by kernel_rfl) (c_ref1_within _ _ _ _ c5) rfl rfl (by kernel_rfl) ?_
          refine DX.go 2 [] [(11, vb r2), (10, vb r2), (9, vb r2), (8, vi p1.month), (7, .one (.pv (.rp [[pi p1.year, pi p1.month, pi p1.day, pi p1.hour, pi p1.minute, pi p1.second]] 0 1))), (6, vb true), (5, vb r1), (4, vi p1.year), (3, .one (.pv (.rp [[pi p1.year, pi p1.month, pi p1.day, pi p1.hour, pi p1.minute, pi p1.second]] 0 0))), (1, .one (.pv (.rp [[pi p1.year, pi p1.month, pi p1.day, pi p1.hour, pi p1.minute, pi p1.second]] 0 0)))] [] (by kernel_rfl) trivial ?_
          refine DX.eq (fr1 := [(11, vb true), (10, vb r2), (9, vb r2), (8, vi p1.month), (7, .one (.pv (.rp [[pi p1.year, pi p1.month, pi p1.day, pi p1.hour, pi p1.minute, pi p1.second]] 0 1))), (6, vb true), (5, vb r1), (4, vi p1.year), (3, .one (.pv (.rp [[pi p1.year, pi p1.month, pi p1.day, pi p1.hour, pi p1.minute, pi p1.second]] 0 0))), (1, .one (.pv (.rp [[pi p1.year, pi p1.month, pi p1.day, pi p1.hour, pi p1.minute, pi p1.second]] 0 0)))]) (by rw [b6]) ?_
          refine DX.go 6 [[pi p1.year, pi p1.month, pi p1.day, pi p1.hour, pi p1.minute, pi p1.second], [pi p1.year, pi p1.month, pi p1.day, pi p1.hour, pi p1.minute, pi p1.second], [pi p1.year, pi p1.month, pi p1.day, pi p1.hour, pi p1.minute, pi p1.second]] [(17, vi p1.month), (16, .one (.pv (.rp [[pi p1.year, pi p1.month, pi p1.day, pi p1.hour, pi p1.minute, pi p1.second]] 0 1))), (15, vi p1.year), (14, .one (.pv (.rp [[pi p1.year, pi p1.month, pi p1.day, pi p1.hour, pi p1.minute, pi p1.second]] 0 0))), (13, vi p1.day), (12, .one (.pv (.rp [[pi p1.year, pi p1.month, pi p1.day, pi p1.hour, pi p1.minute, pi p1.second]] 0 2))), (11, vb true), (10, vb r2), (9, vb r2), (8, vi p1.month), (7, .one (.pv (.rp [[pi p1.year, pi p1.month, pi p1.day, pi p1.hour, pi p1.minute, pi p1.second]] 0 1))), (6, vb true), (5, vb r1), (4, vi p1.year), (3, .one (.pv (.rp [[pi p1.year, pi p1.month, pi p1.day, pi p1.hour, pi p1.minute, pi p1.second]] 0 0))), (1, .one (.pv (.rp [[pi p1.year, pi p1.month, pi p1.day, pi p1.hour, pi p1.minute, pi p1.second]] 0 0)))] [([[pi p1.year, pi p1.month, pi p1.day, pi p1.hour, pi p1.minute, pi p1.second]] : List (List PV))[0]? = some [pi p1.year, pi p1.month, pi p1.day, pi p1.hour, pi p1.minute, pi p1.second], ([[pi p1.year, pi p1.month, pi p1.day, pi p1.hour, pi p1.minute, pi p1.second]] : List (List PV))[0]? = some [pi p1.year, pi p1.month, pi p1.day, pi p1.hour, pi p1.minute, pi p1.second], ([[pi p1.year, pi p1.month, pi p1.day, pi p1.hour, pi p1.minute, pi p1.second]] : List (List PV))[0]? = some [pi p1.year, pi p1.month, pi p1.day, pi p1.hour, pi p1.minute, pi p1.second]] (by kernel_rfl) (⟨rfl, rfl, rfl, trivial⟩) ?_
          refine DX.cal 69 [vi p1.year, vi p1.month] (vi r3) [(18, vi r3), (17, vi p1.month), (16, .one (.pv (.rp [[pi p1.year, pi p1.month, pi p1.day, pi p1.hour, pi p1.minute, pi p1.second]] 0 1))), (15, vi p1.year), (14, .one (.pv (.rp [[pi p1.year, pi p1.month, pi p1.day, pi p1.hour, pi p1.minute, pi p1.second]] 0 0))), (13, vi p1.day), (12, .one (.pv (.rp [[pi p1.year, pi p1.month, pi p1.day, pi p1.hour, pi p1.minute, pi p1.second]] 0 2))), (11, vb true), (10, vb r2), (9, vb r2), (8, vi p1.month), (7, .one (.pv (.rp [[pi p1.year, pi p1.month, pi p1.day, pi p1.hour, pi p1.minute, pi p1.second]] 0 1))), (6, vb true), (5, vb r1), (4, vi p1.year), (3, .one (.pv (.rp [[pi p1.year, pi p1.month, pi p1.day, pi p1.hour, pi p1.minute, pi p1.second]] 0 0))), (1, .one (.pv (.rp [[pi p1.year, pi p1.month, pi p1.day, pi p1.hour, pi p1.minute, pi p1.second]] 0 0)))] (by kernel_rfl) (c_ref1_MonthDays _ _ _ c7) rfl rfl (by kernel_rfl) ?_
          exact DX.done (by kernel_rfl)
        refine XO.cal 58 [vi p1.day, vi (1 : Int), vi r3] (vb r4) [(19, vb r4), (18, vi r3), (17, vi p1.month), (16, .one (.pv (.rp [[pi p1.year, pi p1.month, pi p1.day, pi p1.hour, pi p1.minute, pi p1.second]] 0 1))), (15, vi p1.year), (14, .one (.pv (.rp [[pi p1.year, pi p1.month, pi p1.day, pi p1.hour, pi p1.minute, pi p1.second]] 0 0))), (13, vi p1.day), (12, .one (.pv (.rp [[pi p1.year, pi p1.month, pi p1.day, pi p1.hour, pi p1.minute, pi p1.second]] 0 2))), (11, vb true), (10, vb r2), (9, vb r2), (8, vi p1.month), (7, .one (.pv (.rp [[pi p1.year, pi p1.month, pi p1.day, pi p1.hour, pi p1.minute, pi p1.second]] 0 1))), (6, vb true), (5, vb r1), (4, vi p1.year), (3, .one (.pv (.rp [[pi p1.year, pi p1.month, pi p1.day, pi p1.hour, pi p1.minute, pi p1.second]] 0 0))), (1, .one (.pv (.rp [[pi p1.year, pi p1.month, pi p1.day, pi p1.hour, pi p1.minute, pi p1.second]] 0 0)))] (by kernel_rfl) (c_ref1_within _ _ _ _ c8) rfl rfl (by kernel_rfl) ?_
        refine XO.go [] 2 [1,21] [] [(1, .one (.pv (.rp [[pi p1.year, pi p1.month, pi p1.day, pi p1.hour, pi p1.minute, pi p1.second]] 0 0))), (21, vb r4)] [] [] (by kernel_rfl) trivial ?_
        refine XO.setb 21 false (B := r4) rfl b9 ?_
        refine XO.go [] 15 [2] [] [(2, vb false)] [] [] (by kernel_rfl) trivial ?_
        refine XO.done (by kernel_rfl) ?_
        exact hJ1 false h _ _ (Sub.pick [2] (by kernel_rfl))
    · have h := ift_f b6 h
      refine XW.drwS 16 [(18, .tp []), (17, .tp []), (16, .tp []), (15, .tp []), (14, .tp []), (13, .tp []), (12, .tp []), (11, vb false), (10, vb r2), (9, vb r2), (8, vi p1.month), (7, .one (.pv (.rp [[pi p1.year, pi p1.month, pi p1.day, pi p1.hour, pi p1.minute, pi p1.second]] 0 1))), (6, vb true), (5, vb r1), (4, vi p1.year), (3, .one (.pv (.rp [[pi p1.year, pi p1.month, pi p1.day, pi p1.hour, pi p1.minute, pi p1.second]] 0 0))), (1, .one (.pv (.rp [[pi p1.year, pi p1.month, pi p1.day, pi p1.hour, pi p1.minute, pi p1.second]] 0 0)))] (by kernel_rfl) (by kernel_rfl) ?_ ?_
      · refine DX.go 2 [[pi p1.year, pi p1.month, pi p1.day, pi p1.hour, pi p1.minute, pi p1.second]] [(4, vi p1.year), (3, .one (.pv (.rp [[pi p1.year, pi p1.month, pi p1.day, pi p1.hour, pi p1.minute, pi p1.second]] 0 0))), (1, .one (.pv (.rp [[pi p1.year, pi p1.month, pi p1.day, pi p1.hour, pi p1.minute, pi p1.second]] 0 0)))] [([[pi p1.year, pi p1.month, pi p1.day, pi p1.hour, pi p1.minute, pi p1.second]] : List (List PV))[0]? = some [pi p1.year, pi p1.month, pi p1.day, pi p1.hour, pi p1.minute, pi p1.second]] (by kernel_rfl) (⟨rfl, trivial⟩) ?_
        refine DX.cal 58 [vi p1.year, vi (1 : Int), vi (9999 : Int)] (vb r1) [(5, vb r1), (4, vi p1.year), (3, .one (.pv (.rp [[pi p1.year, pi p1.month, pi p1.day, pi p1.hour, pi p1.minute, pi p1.second]] 0 0))), (1, .one (.pv (.rp [[pi p1.year, pi p1.month, pi p1.day, pi p1.hour, pi p1.minute, pi p1.second]] 0 0)))] (by kernel_rfl) (c_ref1_within _ _ _ _ c3) rfl rfl (by kernel_rfl) ?_
        refine DX.go 1 [] [(6, vb r1), (5, vb r1), (4, vi p1.year), (3, .one (.pv (.rp [[pi p1.year, pi p1.month, pi p1.day, pi p1.hour, pi p1.minute, pi p1.second]] 0 0))), (1, .one (.pv (.rp [[pi p1.year, pi p1.month, pi p1.day, pi p1.hour, pi p1.minute, pi p1.second]] 0 0)))] [] (by kernel_rfl) trivial ?_
        refine DX.eq (fr1 := [(6, vb true), (5, vb r1), (4, vi p1.year), (3, .one (.pv (.rp [[pi p1.year, pi p1.month, pi p1.day, pi p1.hour, pi p1.minute, pi p1.second]] 0 0))), (1, .one (.pv (.rp [[pi p1.year, pi p1.month, pi p1.day, pi p1.hour, pi p1.minute, pi p1.second]] 0 0)))]) (by rw [b4]) ?_
        refine DX.go 2 [[pi p1.year, pi p1.month, pi p1.day, pi p1.hour, pi p1.minute, pi p1.second]] [(8, vi p1.month), (7, .one (.pv (.rp [[pi p1.year, pi p1.month, pi p1.day, pi p1.hour, pi p1.minute, pi p1.second]] 0 1))), (6, vb true), (5, vb r1), (4, vi p1.year), (3, .one (.pv (.rp [[pi p1.year, pi p1.month, pi p1.day, pi p1.hour, pi p1.minute, pi p1.second]] 0 0))), (1, .one (.pv (.rp [[pi p1.year, pi p1.month, pi p1.day, pi p1.hour, pi p1.minute, pi p1.second]] 0 0)))] [([[pi p1.year, pi p1.month, pi p1.day, pi p1.hour, pi p1.minute, pi p1.second]] : List (List PV))[0]? = some [pi p1.year, pi p1.month, pi p1.day, pi p1.hour, pi p1.minute, pi p1.second]] (by kernel_rfl) (⟨rfl, trivial⟩) ?_
        refine DX.cal 58 [vi p1.month, vi (1 : Int), vi (12 : Int)] (vb r2) [(9, vb r2), (8, vi p1.month), (7, .one (.pv (.rp [[pi p1.year, pi p1.month, pi p1.day, pi p1.hour, pi p1.minute, pi p1.second]] 0 1))), (6, vb true), (5, vb r1), (4, vi p1.year), (3, .one (.pv (.rp [[pi p1.year, pi p1.month, pi p1.day, pi p1.hour, pi p1.minute, pi p1.second]] 0 0))), (1, .one (.pv (.rp [[pi p1.year, pi p1.month, pi p1.day, pi p1.hour, pi p1.minute, pi p1.second]] 0 0)))] (by kernel_rfl) (c_ref1_within _ _ _ _ c5) rfl rfl (by kernel_rfl) ?_
        refine DX.go 2 [] [(11, vb r2), (10, vb r2), (9, vb r2), (8, vi p1.month), (7, .one (.pv (.rp [[pi p1.year, pi p1.month, pi p1.day, pi p1.hour, pi p1.minute, pi p1.second]] 0 1))), (6, vb true), (5, vb r1), (4, vi p1.year), (3, .one (.pv (.rp [[pi p1.year, pi p1.month, pi p1.day, pi p1.hour, pi p1.minute, pi p1.second]] 0 0))), (1, .one (.pv (.rp [[pi p1.year, pi p1.month, pi p1.day, pi p1.hour, pi p1.minute, pi p1.second]] 0 0)))] [] (by kernel_rfl) trivial ?_
        refine DX.eq (fr1 := [(11, vb false), (10, vb r2), (9, vb r2), (8, vi p1.month), (7, .one (.pv (.rp [[pi p1.year, pi p1.month, pi p1.day, pi p1.hour, pi p1.minute, pi p1.second]] 0 1))), (6, vb true), (5, vb r1), (4, vi p1.year), (3, .one (.pv (.rp [[pi p1.year, pi p1.month, pi p1.day, pi p1.hour, pi p1.minute, pi p1.second]] 0 0))), (1, .one (.pv (.rp [[pi p1.year, pi p1.month, pi p1.day, pi p1.hour, pi p1.minute, pi p1.second]] 0 0)))]) (by rw [b6]) ?_
        refine DX.go 7 [] [(18, .tp []), (17, .tp []), (16, .tp []), (15, .tp []), (14, .tp []), (13, .tp []), (12, .tp []), (11, vb false), (10, vb r2), (9, vb r2), (8, vi p1.month), (7, .one (.pv (.rp [[pi p1.year, pi p1.month, pi p1.day, pi p1.hour, pi p1.minute, pi p1.second]] 0 1))), (6, vb true), (5, vb r1), (4, vi p1.year), (3, .one (.pv (.rp [[pi p1.year, pi p1.month, pi p1.day, pi p1.hour, pi p1.minute, pi p1.second]] 0 0))), (1, .one (.pv (.rp [[pi p1.year, pi p1.month, pi p1.day, pi p1.hour, pi p1.minute, pi p1.second]] 0 0)))] [] (by kernel_rfl) trivial ?_
        exact DX.done (by kernel_rfl)
      refine XO.go [] 18 [2] [] [(2, vb false)] [] [] (by kernel_rfl) trivial ?_
      refine XO.done (by kernel_rfl) ?_
      exact hJ1 false h _ _ (Sub.pick [2] (by kernel_rfl))
  · have h := ift_f b4 h
    refine XW.drwS 16 [(18, .tp []), (17, .tp []), (16, .tp []), (15, .tp []), (14, .tp []), (13, .tp []), (12, .tp []), (11, vb false), (10, vb false), (9, .tp []), (8, .tp []), (7, .tp []), (6, vb false), (5, vb r1), (4, vi p1.year), (3, .one (.pv (.rp [[pi p1.year, pi p1.month, pi p1.day, pi p1.hour, pi p1.minute, pi p1.second]] 0 0))), (1, .one (.pv (.rp [[pi p1.year, pi p1.month, pi p1.day, pi p1.hour, pi p1.minute, pi p1.second]] 0 0)))] (by kernel_rfl) (by kernel_rfl) ?_ ?_
    · refine DX.go 2 [[pi p1.year, pi p1.month, pi p1.day, pi p1.hour, pi p1.minute, pi p1.second]] [(4, vi p1.year), (3, .one (.pv (.rp [[pi p1.year, pi p1.month, pi p1.day, pi p1.hour, pi p1.minute, pi p1.second]] 0 0))), (1, .one (.pv (.rp [[pi p1.year, pi p1.month, pi p1.day, pi p1.hour, pi p1.minute, pi p1.second]] 0 0)))] [([[pi p1.year, pi p1.month, pi p1.day, pi p1.hour, pi p1.minute, pi p1.second]] : List (List PV))[0]? = some [pi p1.year, pi p1.month, pi p1.day, pi p1.hour, pi p1.minute, pi p1.second]] (by kernel_rfl) (⟨rfl, trivial⟩) ?_
      refine DX.cal 58 [vi p1.year, vi (1 : Int), vi (9999 : Int)] (vb r1) [(5, vb r1), (4, vi p1.year), (3, .one (.pv (.rp [[pi p1.year, pi p1.month, pi p1.day, pi p1.hour, pi p1.minute, pi p1.second]] 0 0))), (1, .one (.pv (.rp [[pi p1.year, pi p1.month, pi p1.day, pi p1.hour, pi p1.minute, pi p1.second]] 0 0)))] (by kernel_rfl) (c_ref1_within _ _ _ _ c3) rfl rfl (by kernel_rfl) ?_
      refine DX.go 1 [] [(6, vb r1), (5, vb r1), (4, vi p1.year), (3, .one (.pv (.rp [[pi p1.year, pi p1.month, pi p1.day, pi p1.hour, pi p1.minute, pi p1.second]] 0 0))), (1, .one (.pv (.rp [[pi p1.year, pi p1.month, pi p1.day, pi p1.hour, pi p1.minute, pi p1.second]] 0 0)))] [] (by kernel_rfl) trivial ?_
      refine DX.eq (fr1 := [(6, vb false), (5, vb r1), (4, vi p1.year), (3, .one (.pv (.rp [[pi p1.year, pi p1.month, pi p1.day, pi p1.hour, pi p1.minute, pi p1.second]] 0 0))), (1, .one (.pv (.rp [[pi p1.year, pi p1.month, pi p1.day, pi p1.hour, pi p1.minute, pi p1.second]] 0 0)))]) (by rw [b4]) ?_
      refine DX.go 12 [] [(18, .tp []), (17, .tp []), (16, .tp []), (15, .tp []), (14, .tp []), (13, .tp []), (12, .tp []), (11, vb false), (10, vb false), (9, .tp []), (8, .tp []), (7, .tp []), (6, vb false), (5, vb r1), (4, vi p1.year), (3, .one (.pv (.rp [[pi p1.year, pi p1.month, pi p1.day, pi p1.hour, pi p1.minute, pi p1.second]] 0 0))), (1, .one (.pv (.rp [[pi p1.year, pi p1.month, pi p1.day, pi p1.hour, pi p1.minute, pi p1.second]] 0 0)))] [] (by kernel_rfl) trivial ?_
      exact DX.done (by kernel_rfl)
    refine XO.go [] 18 [2] [] [(2, vb false)] [] [] (by kernel_rfl) trivial ?_
    refine XO.done (by kernel_rfl) ?_
    exact hJ1 false h _ _ (Sub.pick [2] (by kernel_rfl))

def ref1_seconds (p1 : GCivil) : Option Int :=
    bnd (ref1_Days p1.year p1.month p1.day) fun r1 =>
    bnd (some (IntKind.i64.wrap ((IntKind.i64.wrap ((86400 : Int) * r1)) + (IntKind.i64.wrap ((3600 : Int) * p1.hour))))) fun y1 =>
    bnd (some (IntKind.i64.wrap ((IntKind.i64.wrap (y1 + (IntKind.i64.wrap ((60 : Int) * p1.minute)))) + p1.second))) fun y2 =>
    some y2


theorem c_ref1_seconds (p1 : GCivil) (r : Int) (h : ref1_seconds p1 = some r) : PC Try.prog 62 [.ag [ci p1.year, ci p1.month, ci p1.day, ci p1.hour, ci p1.minute, ci p1.second]] (vi r) := by
  unfold ref1_seconds at h
  refine PC.of (n := 22) (fn := Try.f62) (c := cd Try.f62 []) (by kernel_rfl) (by kernel_rfl) (by kernel_rfl) (Nat.le_of_ble_eq_true rfl) ?_
  refine XW.seq (x := cd Try.f62 [0]) (y := cd Try.f62 [1]) (by kernel_rfl) fun K1 hK1 => ?_
  refine XW.reg (by kernel_rfl) ?_
  refine XO.go [] 2 [1] [] [(1, .one (.pv (.rp [[pi p1.year, pi p1.month, pi p1.day, pi p1.hour, pi p1.minute, pi p1.second]] 0 0)))] [] [] (by kernel_rfl) trivial ?_
  refine XO.done (by kernel_rfl) ?_
  refine hK1 _ _ ?_
  refine XW.seq (x := cd Try.f62 [1,0]) (y := cd Try.f62 [1,1]) (by kernel_rfl) fun K2 hK2 => ?_
  obtain ⟨r1, c3, h⟩ := bnd_some h
  obtain ⟨y1, y4, h⟩ := bnd_some h
  obtain ⟨y2, y5, h⟩ := bnd_some h
  refine XW.drwS 18 [(20, vi p1.second), (19, .one (.pv (.rp [[pi p1.year, pi p1.month, pi p1.day, pi p1.hour, pi p1.minute, pi p1.second]] 0 5))), (18, vi (IntKind.i64.wrap (y1 + (IntKind.i64.wrap ((60 : Int) * p1.minute))))), (17, vi (IntKind.i64.wrap ((60 : Int) * p1.minute))), (16, vi p1.minute), (15, .one (.pv (.rp [[pi p1.year, pi p1.month, pi p1.day, pi p1.hour, pi p1.minute, pi p1.second]] 0 4))), (14, vi y1), (13, vi (IntKind.i64.wrap ((3600 : Int) * p1.hour))), (12, vi p1.hour), (11, .one (.pv (.rp [[pi p1.year, pi p1.month, pi p1.day, pi p1.hour, pi p1.minute, pi p1.second]] 0 3))), (10, vi (IntKind.i64.wrap ((86400 : Int) * r1))), (9, vi r1), (8, vi p1.day), (7, .one (.pv (.rp [[pi p1.year, pi p1.month, pi p1.day, pi p1.hour, pi p1.minute, pi p1.second]] 0 2))), (6, vi p1.month), (5, .one (.pv (.rp [[pi p1.year, pi p1.month, pi p1.day, pi p1.hour, pi p1.minute, pi p1.second]] 0 1))), (4, vi p1.year), (3, .one (.pv (.rp [[pi p1.year, pi p1.month, pi p1.day, pi p1.hour, pi p1.minute, pi p1.second]] 0 0))), (1, .one (.pv (.rp [[pi p1.year, pi p1.month, pi p1.day, pi p1.hour, pi p1.minute, pi p1.second]] 0 0)))] (by kernel_rfl) (by kernel_rfl) ?_ ?_
  · refine DX.go 6 [[pi p1.year, pi p1.month, pi p1.day, pi p1.hour, pi p1.minute, pi p1.second], [pi p1.year, pi p1.month, pi p1.day, pi p1.hour, pi p1.minute, pi p1.second], [pi p1.year, pi p1.month, pi p1.day, pi p1.hour, pi p1.minute, pi p1.second]] [(8, vi p1.day), (7, .one (.pv (.rp [[pi p1.year, pi p1.month, pi p1.day, pi p1.hour, pi p1.minute, pi p1.second]] 0 2))), (6, vi p1.month), (5, .one (.pv (.rp [[pi p1.year, pi p1.month, pi p1.day, pi p1.hour, pi p1.minute, pi p1.second]] 0 1))), (4, vi p1.year), (3, .one (.pv (.rp [[pi p1.year, pi p1.month, pi p1.day, pi p1.hour, pi p1.minute, pi p1.second]] 0 0))), (1, .one (.pv (.rp [[pi p1.year, pi p1.month, pi p1.day, pi p1.hour, pi p1.minute, pi p1.second]] 0 0)))] [([[pi p1.year, pi p1.month, pi p1.day, pi p1.hour, pi p1.minute, pi p1.second]] : List (List PV))[0]? = some [pi p1.year, pi p1.month, pi p1.day, pi p1.hour, pi p1.minute, pi p1.second], ([[pi p1.year, pi p1.month, pi p1.day, pi p1.hour, pi p1.minute, pi p1.second]] : List (List PV))[0]? = some [pi p1.year, pi p1.month, pi p1.day, pi p1.hour, pi p1.minute, pi p1.second], ([[pi p1.year, pi p1.month, pi p1.day, pi p1.hour, pi p1.minute, pi p1.second]] : List (List PV))[0]? = some [pi p1.year, pi p1.month, pi p1.day, pi p1.hour, pi p1.minute, pi p1.second]] (by kernel_rfl) (⟨rfl, rfl, rfl, trivial⟩) ?_
    refine DX.cal 63 [vi p1.year, vi p1.month, vi p1.day] (vi r1) [(9, vi r1), (8, vi p1.day), (7, .one (.pv (.rp [[pi p1.year, pi p1.month, pi p1.day, pi p1.hour, pi p1.minute, pi p1.second]] 0 2))), (6, vi p1.month), (5, .one (.pv (.rp [[pi p1.year, pi p1.month, pi p1.day, pi p1.hour, pi p1.minute, pi p1.second]] 0 1))), (4, vi p1.year), (3, .one (.pv (.rp [[pi p1.year, pi p1.month, pi p1.day, pi p1.hour, pi p1.minute, pi p1.second]] 0 0))), (1, .one (.pv (.rp [[pi p1.year, pi p1.month, pi p1.day, pi p1.hour, pi p1.minute, pi p1.second]] 0 0)))] (by kernel_rfl) (c_ref1_Days _ _ _ _ c3) rfl rfl (by kernel_rfl) ?_
    refine DX.go 5 [[pi p1.year, pi p1.month, pi p1.day, pi p1.hour, pi p1.minute, pi p1.second]] [(14, vi (IntKind.i64.wrap ((IntKind.i64.wrap ((86400 : Int) * r1)) + (IntKind.i64.wrap ((3600 : Int) * p1.hour))))), (13, vi (IntKind.i64.wrap ((3600 : Int) * p1.hour))), (12, vi p1.hour), (11, .one (.pv (.rp [[pi p1.year, pi p1.month, pi p1.day, pi p1.hour, pi p1.minute, pi p1.second]] 0 3))), (10, vi (IntKind.i64.wrap ((86400 : Int) * r1))), (9, vi r1), (8, vi p1.day), (7, .one (.pv (.rp [[pi p1.year, pi p1.month, pi p1.day, pi p1.hour, pi p1.minute, pi p1.second]] 0 2))), (6, vi p1.month), (5, .one (.pv (.rp [[pi p1.year, pi p1.month, pi p1.day, pi p1.hour, pi p1.minute, pi p1.second]] 0 1))), (4, vi p1.year), (3, .one (.pv (.rp [[pi p1.year, pi p1.month, pi p1.day, pi p1.hour, pi p1.minute, pi p1.second]] 0 0))), (1, .one (.pv (.rp [[pi p1.year, pi p1.month, pi p1.day, pi p1.hour, pi p1.minute, pi p1.second]] 0 0)))] [([[pi p1.year, pi p1.month, pi p1.day, pi p1.hour, pi p1.minute, pi p1.second]] : List (List PV))[0]? = some [pi p1.year, pi p1.month, pi p1.day, pi p1.hour, pi p1.minute, pi p1.second]] (by kernel_rfl) (⟨rfl, trivial⟩) ?_
    rw [show (IntKind.i64.wrap ((IntKind.i64.wrap ((86400 : Int) * r1)) + (IntKind.i64.wrap ((3600 : Int) * p1.hour)))) = y1 from Option.some.inj y4]
    refine DX.go 6 [[pi p1.year, pi p1.month, pi p1.day, pi p1.hour, pi p1.minute, pi p1.second], [pi p1.year, pi p1.month, pi p1.day, pi p1.hour, pi p1.minute, pi p1.second]] [(20, vi p1.second), (19, .one (.pv (.rp [[pi p1.year, pi p1.month, pi p1.day, pi p1.hour, pi p1.minute, pi p1.second]] 0 5))), (18, vi (IntKind.i64.wrap (y1 + (IntKind.i64.wrap ((60 : Int) * p1.minute))))), (17, vi (IntKind.i64.wrap ((60 : Int) * p1.minute))), (16, vi p1.minute), (15, .one (.pv (.rp [[pi p1.year, pi p1.month, pi p1.day, pi p1.hour, pi p1.minute, pi p1.second]] 0 4))), (14, vi y1), (13, vi (IntKind.i64.wrap ((3600 : Int) * p1.hour))), (12, vi p1.hour), (11, .one (.pv (.rp [[pi p1.year, pi p1.month, pi p1.day, pi p1.hour, pi p1.minute, pi p1.second]] 0 3))), (10, vi (IntKind.i64.wrap ((86400 : Int) * r1))), (9, vi r1), (8, vi p1.day), (7, .one (.pv (.rp [[pi p1.year, pi p1.month, pi p1.day, pi p1.hour, pi p1.minute, pi p1.second]] 0 2))), (6, vi p1.month), (5, .one (.pv (.rp [[pi p1.year, pi p1.month, pi p1.day, pi p1.hour, pi p1.minute, pi p1.second]] 0 1))), (4, vi p1.year), (3, .one (.pv (.rp [[pi p1.year, pi p1.month, pi p1.day, pi p1.hour, pi p1.minute, pi p1.second]] 0 0))), (1, .one (.pv (.rp [[pi p1.year, pi p1.month, pi p1.day, pi p1.hour, pi p1.minute, pi p1.second]] 0 0)))] [([[pi p1.year, pi p1.month, pi p1.day, pi p1.hour, pi p1.minute, pi p1.second]] : List (List PV))[0]? = some [pi p1.year, pi p1.month, pi p1.day, pi p1.hour, pi p1.minute, pi p1.second], ([[pi p1.year, pi p1.month, pi p1.day, pi p1.hour, pi p1.minute, pi p1.second]] : List (List PV))[0]? = some [pi p1.year, pi p1.month, pi p1.day, pi p1.hour, pi p1.minute, pi p1.second]] (by kernel_rfl) (⟨rfl, rfl, trivial⟩) ?_
    exact DX.done (by kernel_rfl)
  refine XO.go [] 1 [21] [] [(21, vi (IntKind.i64.wrap ((IntKind.i64.wrap (y1 + (IntKind.i64.wrap ((60 : Int) * p1.minute)))) + p1.second)))] [] [] (by kernel_rfl) trivial ?_
  rw [show (IntKind.i64.wrap ((IntKind.i64.wrap (y1 + (IntKind.i64.wrap ((60 : Int) * p1.minute)))) + p1.second)) = y2 from Option.some.inj y5]
  refine XO.go [] 1 [2] [] [(2, vi y2)] [] [] (by kernel_rfl) trivial ?_
  refine XO.done (by kernel_rfl) ?_
  refine hK2 _ _ ?_
  refine XW.ret (by kernel_rfl) ?_
  obtain rfl := Option.some.inj h
  exact FinP.fin (.inr rfl) [] [vi y2] [] (by kernel_rfl) trivial (.one (.rfl _ rfl))

def ref1_Instant_j1 (x1 : Int) : Option (Int × Int) :=
    bnd (ref1_within x1 (-62135596800 : Int) (253402300799 : Int)) fun r5 =>
    ift (!r5)
      (some ((0 : Int), (3 : Int)))
      (some (x1, (0 : Int)))

def ref1_Instant (p1 : GCivil) (p2 : ByteArray) : Option (Int × Int) :=
    bnd (ref1_zoneOf p2) fun r1 =>
    ift (!r1.2)
      (some ((0 : Int), (4 : Int)))
      (bnd (ref1_isCivil p1) fun r2 =>
       ift (!r2)
         (some ((0 : Int), (3 : Int)))
         (bnd (ref1_seconds p1) fun r3 =>
          bnd (some (IntKind.i64.wrap (r3 - (IntKind.i64.wrap ((60 : Int) * r1.1.offset))))) fun y1 =>
          bnd (some (IntKind.i64.wrap (y1 - (IntKind.i64.wrap ((60 : Int) * r1.1.summer))))) fun y2 =>
          bnd (ref1_ahead r1.1 y2) fun r4 =>
          bnd (some (IntKind.i64.wrap ((60 : Int) * (IntKind.i64.wrap (r1.1.offset + r1.1.summer))))) fun y3 =>
          ift (r4 == y3)
            (ref1_Instant_j1 y2)
            (ref1_Instant_j1 y1)))


theorem c_ref1_Instant (p1 : GCivil) (p2 : ByteArray) (r : (Int × Int)) (h : ref1_Instant p1 p2 = some r) : PC Try.prog 25 [.ag [ci p1.year, ci p1.month, ci p1.day, ci p1.hour, ci p1.minute, ci p1.second], vs p2] (.tp [vi r.1, vi r.2]) := by
  unfold ref1_Instant at h
  refine PC.of (n := 48) (fn := Try.f25) (c := cd Try.f25 []) (by kernel_rfl) (by kernel_rfl) (by kernel_rfl) (Nat.le_of_ble_eq_true rfl) ?_
  refine XW.seq (x := cd Try.f25 [0]) (y := cd Try.f25 [1]) (by kernel_rfl) fun K1 hK1 => ?_
  refine XW.reg (by kernel_rfl) ?_
  refine XO.go [6] 3 [1,2] [] [(1, vs p2), (2, .one (.pv (.rp [[pi p1.year, pi p1.month, pi p1.day, pi p1.hour, pi p1.minute, pi p1.second]] 0 0)))] [] [] (by kernel_rfl) trivial ?_
  refine XO.done (by kernel_rfl) ?_
  refine hK1 _ _ ?_
  refine XW.seq (x := cd Try.f25 [1,0]) (y := cd Try.f25 [1,1]) (by kernel_rfl) fun K2 hK2 => ?_
  obtain ⟨r1, c3, h⟩ := bnd_some h
  refine XW.reg (by kernel_rfl) ?_
  refine XO.go [6] 1 [2,12] [] [(2, .one (.pv (.rp [[pi p1.year, pi p1.month, pi p1.day, pi p1.hour, pi p1.minute, pi p1.second]] 0 0))), (12, vs p2)] [] [] (by kernel_rfl) trivial ?_
  refine XO.cal 57 [vs p2] (.tp [.ag [cst r1.1.name, ci r1.1.offset, ci r1.1.summer, ci r1.1.start.month, ci r1.1.start.week, ci r1.1.start.weekday, ci r1.1.start.minute, ci r1.1.stop.month, ci r1.1.stop.week, ci r1.1.stop.weekday, ci r1.1.stop.minute], vb r1.2]) [(13, .tp [.ag [cst r1.1.name, ci r1.1.offset, ci r1.1.summer, ci r1.1.start.month, ci r1.1.start.week, ci r1.1.start.weekday, ci r1.1.start.minute, ci r1.1.stop.month, ci r1.1.stop.week, ci r1.1.stop.weekday, ci r1.1.stop.minute], vb r1.2]), (2, .one (.pv (.rp [[pi p1.year, pi p1.month, pi p1.day, pi p1.hour, pi p1.minute, pi p1.second]] 0 0))), (12, vs p2)] (by kernel_rfl) (c_ref1_zoneOf _ _ c3) rfl rfl (by kernel_rfl) ?_
  refine XO.go [6] 6 [2,6,7] [] [(2, .one (.pv (.rp [[pi p1.year, pi p1.month, pi p1.day, pi p1.hour, pi p1.minute, pi p1.second]] 0 0))), (6, .one (.pt 0 0 0 0)), (7, vb r1.2)] [.box [cst r1.1.name, ci r1.1.offset, ci r1.1.summer, ci r1.1.start.month, ci r1.1.start.week, ci r1.1.start.weekday, ci r1.1.start.minute, ci r1.1.stop.month, ci r1.1.stop.week, ci r1.1.stop.weekday, ci r1.1.stop.minute]] [] (by kernel_rfl) trivial ?_
  refine XO.done (by kernel_rfl) ?_
  refine hK2 _ _ ?_
  refine XW.seq (x := cd Try.f25 [1,1,0]) (y := cd Try.f25 [1,1,1]) (by kernel_rfl) fun K4 hK4 => ?_
  refine XW.seq (x := cd Try.f25 [1,1,0,0]) (y := cd Try.f25 [1,1,0,1]) (by kernel_rfl) fun K5 hK5 => ?_
  refine XW.reg (by kernel_rfl) ?_
  refine XO.go [6] 2 [2,6,17] [] [(2, .one (.pv (.rp [[pi p1.year, pi p1.month, pi p1.day, pi p1.hour, pi p1.minute, pi p1.second]] 0 0))), (6, .one (.pt 0 0 0 0)), (17, vb (!r1.2))] [.box [cst r1.1.name, ci r1.1.offset, ci r1.1.summer, ci r1.1.start.month, ci r1.1.start.week, ci r1.1.start.weekday, ci r1.1.start.minute, ci r1.1.stop.month, ci r1.1.stop.week, ci r1.1.stop.weekday, ci r1.1.stop.minute]] [] (by kernel_rfl) trivial ?_
  refine XO.done (by kernel_rfl) ?_
  refine hK5 _ _ ?_
  refine XW.cond (x := .tmp 17) (a := cd Try.f25 [1,1,0,1,0]) (b := cd Try.f25 [1,1,0,1,1]) (t := (!r1.2)) (by kernel_rfl) (by kernel_rfl) (fun b6 => ?_) (fun b6 => ?_)
  · have h := ift_t b6 h
    refine XW.seq (x := cd Try.f25 [1,1,0,1,0,0]) (y := cd Try.f25 [1,1,0,1,0,1]) (by kernel_rfl) fun K7 hK7 => ?_
    refine XW.reg (by kernel_rfl) ?_
    refine XO.go [6] 2 [4,5] [] [(4, vi (0 : Int)), (5, vi (4 : Int))] [.box [cst r1.1.name, ci r1.1.offset, ci r1.1.summer, ci r1.1.start.month, ci r1.1.start.week, ci r1.1.start.weekday, ci r1.1.start.minute, ci r1.1.stop.month, ci r1.1.stop.week, ci r1.1.stop.weekday, ci r1.1.stop.minute]] [] (by kernel_rfl) trivial ?_
    refine XO.done (by kernel_rfl) ?_
    refine hK7 _ _ ?_
    refine XW.ret (by kernel_rfl) ?_
    obtain rfl := Option.some.inj h
    exact FinP.fin (.inr rfl) [] [vi (0 : Int), vi (4 : Int)] [] (by kernel_rfl) trivial (.tpc (.one (.rfl _ rfl)) (.tpc (.one (.rfl _ rfl)) (.tp0)))
  · have h := ift_f b6 h
    refine XW.skip (by kernel_rfl) ?_
    refine hK4 _ _ ?_
    refine XW.seq (x := cd Try.f25 [1,1,1,0]) (y := cd Try.f25 [1,1,1,1]) (by kernel_rfl) fun K8 hK8 => ?_
    refine XW.seq (x := cd Try.f25 [1,1,1,0,0]) (y := cd Try.f25 [1,1,1,0,1]) (by kernel_rfl) fun K9 hK9 => ?_
    obtain ⟨r2, c10, h⟩ := bnd_some h
    refine XW.reg (by kernel_rfl) ?_
    refine XO.go [6] 1 [2,6,18] [[pi p1.year, pi p1.month, pi p1.day, pi p1.hour, pi p1.minute, pi p1.second]] [(2, .one (.pv (.rp [[pi p1.year, pi p1.month, pi p1.day, pi p1.hour, pi p1.minute, pi p1.second]] 0 0))), (6, .one (.pt 0 0 0 0)), (18, .ag [ci p1.year, ci p1.month, ci p1.day, ci p1.hour, ci p1.minute, ci p1.second])] [.box [cst r1.1.name, ci r1.1.offset, ci r1.1.summer, ci r1.1.start.month, ci r1.1.start.week, ci r1.1.start.weekday, ci r1.1.start.minute, ci r1.1.stop.month, ci r1.1.stop.week, ci r1.1.stop.weekday, ci r1.1.stop.minute]] [([[pi p1.year, pi p1.month, pi p1.day, pi p1.hour, pi p1.minute, pi p1.second]] : List (List PV))[0]? = some [pi p1.year, pi p1.month, pi p1.day, pi p1.hour, pi p1.minute, pi p1.second]] (by kernel_rfl) (⟨rfl, trivial⟩) ?_
    refine XO.cal 61 [.ag [ci p1.year, ci p1.month, ci p1.day, ci p1.hour, ci p1.minute, ci p1.second]] (vb r2) [(19, vb r2), (2, .one (.pv (.rp [[pi p1.year, pi p1.month, pi p1.day, pi p1.hour, pi p1.minute, pi p1.second]] 0 0))), (6, .one (.pt 0 0 0 0)), (18, .ag [ci p1.year, ci p1.month, ci p1.day, ci p1.hour, ci p1.minute, ci p1.second])] (by kernel_rfl) (c_ref1_isCivil _ _ c10) rfl rfl (by kernel_rfl) ?_
    refine XO.go [6] 1 [2,6,20] [] [(2, .one (.pv (.rp [[pi p1.year, pi p1.month, pi p1.day, pi p1.hour, pi p1.minute, pi p1.second]] 0 0))), (6, .one (.pt 0 0 0 0)), (20, vb (!r2))] [.box [cst r1.1.name, ci r1.1.offset, ci r1.1.summer, ci r1.1.start.month, ci r1.1.start.week, ci r1.1.start.weekday, ci r1.1.start.minute, ci r1.1.stop.month, ci r1.1.stop.week, ci r1.1.stop.weekday, ci r1.1.stop.minute]] [] (by kernel_rfl) trivial ?_
    refine XO.done (by kernel_rfl) ?_
    refine hK9 _ _ ?_
    refine XW.cond (x := .tmp 20) (a := cd Try.f25 [1,1,1,0,1,0]) (b := cd Try.f25 [1,1,1,0,1,1]) (t := (!r2)) (by kernel_rfl) (by kernel_rfl) (fun b11 => ?_) (fun b11 => ?_)
    · have h := ift_t b11 h
      refine XW.seq (x := cd Try.f25 [1,1,1,0,1,0,0]) (y := cd Try.f25 [1,1,1,0,1,0,1]) (by kernel_rfl) fun K12 hK12 => ?_
      refine XW.reg (by kernel_rfl) ?_
      refine XO.go [6] 2 [4,5] [] [(4, vi (0 : Int)), (5, vi (3 : Int))] [.box [cst r1.1.name, ci r1.1.offset, ci r1.1.summer, ci r1.1.start.month, ci r1.1.start.week, ci r1.1.start.weekday, ci r1.1.start.minute, ci r1.1.stop.month, ci r1.1.stop.week, ci r1.1.stop.weekday, ci r1.1.stop.minute]] [] (by kernel_rfl) trivial ?_
      refine XO.done (by kernel_rfl) ?_
      refine hK12 _ _ ?_
      refine XW.ret (by kernel_rfl) ?_
      obtain rfl := Option.some.inj h
      exact FinP.fin (.inr rfl) [] [vi (0 : Int), vi (3 : Int)] [] (by kernel_rfl) trivial (.tpc (.one (.rfl _ rfl)) (.tpc (.one (.rfl _ rfl)) (.tp0)))
    · have h := ift_f b11 h
      refine XW.skip (by kernel_rfl) ?_
      refine hK8 _ _ ?_
      refine XW.seq (x := cd Try.f25 [1,1,1,1,0]) (y := cd Try.f25 [1,1,1,1,1]) (by kernel_rfl) fun K13 hK13 => ?_
      obtain ⟨r3, c14, h⟩ := bnd_some h
      refine XW.reg (by kernel_rfl) ?_
      refine XO.go [6] 1 [6,21] [[pi p1.year, pi p1.month, pi p1.day, pi p1.hour, pi p1.minute, pi p1.second]] [(6, .one (.pt 0 0 0 0)), (21, .ag [ci p1.year, ci p1.month, ci p1.day, ci p1.hour, ci p1.minute, ci p1.second])] [.box [cst r1.1.name, ci r1.1.offset, ci r1.1.summer, ci r1.1.start.month, ci r1.1.start.week, ci r1.1.start.weekday, ci r1.1.start.minute, ci r1.1.stop.month, ci r1.1.stop.week, ci r1.1.stop.weekday, ci r1.1.stop.minute]] [([[pi p1.year, pi p1.month, pi p1.day, pi p1.hour, pi p1.minute, pi p1.second]] : List (List PV))[0]? = some [pi p1.year, pi p1.month, pi p1.day, pi p1.hour, pi p1.minute, pi p1.second]] (by kernel_rfl) (⟨rfl, trivial⟩) ?_
      refine XO.cal 62 [.ag [ci p1.year, ci p1.month, ci p1.day, ci p1.hour, ci p1.minute, ci p1.second]] (vi r3) [(22, vi r3), (6, .one (.pt 0 0 0 0)), (21, .ag [ci p1.year, ci p1.month, ci p1.day, ci p1.hour, ci p1.minute, ci p1.second])] (by kernel_rfl) (c_ref1_seconds _ _ c14) rfl rfl (by kernel_rfl) ?_
      refine XO.go [6] 1 [6,8] [] [(6, .one (.pt 0 0 0 0)), (8, vi r3)] [.box [cst r1.1.name, ci r1.1.offset, ci r1.1.summer, ci r1.1.start.month, ci r1.1.start.week, ci r1.1.start.weekday, ci r1.1.start.minute, ci r1.1.stop.month, ci r1.1.stop.week, ci r1.1.stop.weekday, ci r1.1.stop.minute]] [] (by kernel_rfl) trivial ?_
      refine XO.done (by kernel_rfl) ?_
      refine hK13 _ _ ?_
      refine XW.seq (x := cd Try.f25 [1,1,1,1,1,0]) (y := cd Try.f25 [1,1,1,1,1,1]) (by kernel_rfl) fun K15 hK15 => ?_
      obtain ⟨y1, y16, h⟩ := bnd_some h
      refine XW.reg (by kernel_rfl) ?_
      refine XO.go [6] 5 [6,27] [] [(6, .one (.pt 0 0 0 0)), (27, vi (IntKind.i64.wrap (r3 - (IntKind.i64.wrap ((60 : Int) * r1.1.offset)))))] [.box [cst r1.1.name, ci r1.1.offset, ci r1.1.summer, ci r1.1.start.month, ci r1.1.start.week, ci r1.1.start.weekday, ci r1.1.start.minute, ci r1.1.stop.month, ci r1.1.stop.week, ci r1.1.stop.weekday, ci r1.1.stop.minute]] [] (by kernel_rfl) trivial ?_
      rw [show (IntKind.i64.wrap (r3 - (IntKind.i64.wrap ((60 : Int) * r1.1.offset)))) = y1 from Option.some.inj y16]
      refine XO.go [6] 1 [6,9] [] [(6, .one (.pt 0 0 0 0)), (9, vi y1)] [.box [cst r1.1.name, ci r1.1.offset, ci r1.1.summer, ci r1.1.start.month, ci r1.1.start.week, ci r1.1.start.weekday, ci r1.1.start.minute, ci r1.1.stop.month, ci r1.1.stop.week, ci r1.1.stop.weekday, ci r1.1.stop.minute]] [] (by kernel_rfl) trivial ?_
      refine XO.done (by kernel_rfl) ?_
      refine hK15 _ _ ?_
      refine XW.seq (x := cd Try.f25 [1,1,1,1,1,1,0]) (y := cd Try.f25 [1,1,1,1,1,1,1]) (by kernel_rfl) fun K17 hK17 => ?_
      obtain ⟨y2, y18, h⟩ := bnd_some h
      refine XW.reg (by kernel_rfl) ?_
      refine XO.go [6] 5 [6,9,32] [] [(6, .one (.pt 0 0 0 0)), (9, vi y1), (32, vi (IntKind.i64.wrap (y1 - (IntKind.i64.wrap ((60 : Int) * r1.1.summer)))))] [.box [cst r1.1.name, ci r1.1.offset, ci r1.1.summer, ci r1.1.start.month, ci r1.1.start.week, ci r1.1.start.weekday, ci r1.1.start.minute, ci r1.1.stop.month, ci r1.1.stop.week, ci r1.1.stop.weekday, ci r1.1.stop.minute]] [] (by kernel_rfl) trivial ?_
      rw [show (IntKind.i64.wrap (y1 - (IntKind.i64.wrap ((60 : Int) * r1.1.summer)))) = y2 from Option.some.inj y18]
      refine XO.go [6] 1 [6,9,10] [] [(6, .one (.pt 0 0 0 0)), (9, vi y1), (10, vi y2)] [.box [cst r1.1.name, ci r1.1.offset, ci r1.1.summer, ci r1.1.start.month, ci r1.1.start.week, ci r1.1.start.weekday, ci r1.1.start.minute, ci r1.1.stop.month, ci r1.1.stop.week, ci r1.1.stop.weekday, ci r1.1.stop.minute]] [] (by kernel_rfl) trivial ?_
      refine XO.done (by kernel_rfl) ?_
      refine hK17 _ _ ?_
      refine XW.seq (x := cd Try.f25 [1,1,1,1,1,1,1,0]) (y := cd Try.f25 [1,1,1,1,1,1,1,1]) (by kernel_rfl) fun K19 hK19 => ?_
      have hJ1 : ∀ (x1 : Int), ref1_Instant_j1 x1 = some r → ∀ fr1 st1, Sub 48 0 [] fr1 st1 [(9, vi x1)] [.box [cst r1.1.name, ci r1.1.offset, ci r1.1.summer, ci r1.1.start.month, ci r1.1.start.week, ci r1.1.start.weekday, ci r1.1.start.minute, ci r1.1.stop.month, ci r1.1.stop.week, ci r1.1.stop.weekday, ci r1.1.stop.minute]] → K19 fr1 st1 := by
        intro x1 h fr1 st1 hS
        unfold ref1_Instant_j1 at h
        refine hK19 _ _ (XW.sub hS ?_)
        refine XW.seq (x := cd Try.f25 [1,1,1,1,1,1,1,1,0]) (y := cd Try.f25 [1,1,1,1,1,1,1,1,1]) (by kernel_rfl) fun K24 hK24 => ?_
        refine XW.seq (x := cd Try.f25 [1,1,1,1,1,1,1,1,0,0]) (y := cd Try.f25 [1,1,1,1,1,1,1,1,0,1]) (by kernel_rfl) fun K25 hK25 => ?_
        obtain ⟨r5, c26, h⟩ := bnd_some h
        refine XW.reg (by kernel_rfl) ?_
        refine XO.go [6] 1 [9,44] [] [(9, vi x1), (44, vi x1)] [.box [cst r1.1.name, ci r1.1.offset, ci r1.1.summer, ci r1.1.start.month, ci r1.1.start.week, ci r1.1.start.weekday, ci r1.1.start.minute, ci r1.1.stop.month, ci r1.1.stop.week, ci r1.1.stop.weekday, ci r1.1.stop.minute]] [] (by kernel_rfl) trivial ?_
        refine XO.cal 58 [vi x1, vi (-62135596800 : Int), vi (253402300799 : Int)] (vb r5) [(45, vb r5), (9, vi x1), (44, vi x1)] (by kernel_rfl) (c_ref1_within _ _ _ _ c26) rfl rfl (by kernel_rfl) ?_
        refine XO.go [6] 1 [9,46] [] [(9, vi x1), (46, vb (!r5))] [.box [cst r1.1.name, ci r1.1.offset, ci r1.1.summer, ci r1.1.start.month, ci r1.1.start.week, ci r1.1.start.weekday, ci r1.1.start.minute, ci r1.1.stop.month, ci r1.1.stop.week, ci r1.1.stop.weekday, ci r1.1.stop.minute]] [] (by kernel_rfl) trivial ?_
        refine XO.done (by kernel_rfl) ?_
        refine hK25 _ _ ?_
        refine XW.cond (x := .tmp 46) (a := cd Try.f25 [1,1,1,1,1,1,1,1,0,1,0]) (b := cd Try.f25 [1,1,1,1,1,1,1,1,0,1,1]) (t := (!r5)) (by kernel_rfl) (by kernel_rfl) (fun b27 => ?_) (fun b27 => ?_)
        · have h := ift_t b27 h
          refine XW.seq (x := cd Try.f25 [1,1,1,1,1,1,1,1,0,1,0,0]) (y := cd Try.f25 [1,1,1,1,1,1,1,1,0,1,0,1]) (by kernel_rfl) fun K28 hK28 => ?_
          refine XW.reg (by kernel_rfl) ?_
          refine XO.go [6] 2 [4,5] [] [(4, vi (0 : Int)), (5, vi (3 : Int))] [.box [cst r1.1.name, ci r1.1.offset, ci r1.1.summer, ci r1.1.start.month, ci r1.1.start.week, ci r1.1.start.weekday, ci r1.1.start.minute, ci r1.1.stop.month, ci r1.1.stop.week, ci r1.1.stop.weekday, ci r1.1.stop.minute]] [] (by kernel_rfl) trivial ?_
          refine XO.done (by kernel_rfl) ?_
          refine hK28 _ _ ?_
          refine XW.ret (by kernel_rfl) ?_
          obtain rfl := Option.some.inj h
          exact FinP.fin (.inr rfl) [] [vi (0 : Int), vi (3 : Int)] [] (by kernel_rfl) trivial (.tpc (.one (.rfl _ rfl)) (.tpc (.one (.rfl _ rfl)) (.tp0)))
        · have h := ift_f b27 h
          refine XW.skip (by kernel_rfl) ?_
          refine hK24 _ _ ?_
          refine XW.seq (x := cd Try.f25 [1,1,1,1,1,1,1,1,1,0]) (y := cd Try.f25 [1,1,1,1,1,1,1,1,1,1]) (by kernel_rfl) fun K29 hK29 => ?_
          refine XW.reg (by kernel_rfl) ?_
          refine XO.go [6] 3 [4,5] [] [(4, vi x1), (5, vi (0 : Int))] [.box [cst r1.1.name, ci r1.1.offset, ci r1.1.summer, ci r1.1.start.month, ci r1.1.start.week, ci r1.1.start.weekday, ci r1.1.start.minute, ci r1.1.stop.month, ci r1.1.stop.week, ci r1.1.stop.weekday, ci r1.1.stop.minute]] [] (by kernel_rfl) trivial ?_
          refine XO.done (by kernel_rfl) ?_
          refine hK29 _ _ ?_
          refine XW.ret (by kernel_rfl) ?_
          obtain rfl := Option.some.inj h
          exact FinP.fin (.inr rfl) [] [vi x1, vi (0 : Int)] [] (by kernel_rfl) trivial (.tpc (.one (.rfl _ rfl)) (.tpc (.one (.rfl _ rfl)) (.tp0)))
      refine XW.seq (x := cd Try.f25 [1,1,1,1,1,1,1,0,0]) (y := cd Try.f25 [1,1,1,1,1,1,1,0,1]) (by kernel_rfl) fun K20 hK20 => ?_
      obtain ⟨r4, c21, h⟩ := bnd_some h
      obtain ⟨y3, y22, h⟩ := bnd_some h
      refine XW.drwS 9 [(41, vi y3), (40, vi (IntKind.i64.wrap (r1.1.offset + r1.1.summer))), (39, vi r1.1.summer), (38, .one (.pt 0 0 0 2)), (37, vi r1.1.offset), (36, .one (.pt 0 0 0 1)), (35, vi r4), (34, vi y2), (33, .ag [cst r1.1.name, ci r1.1.offset, ci r1.1.summer, ci r1.1.start.month, ci r1.1.start.week, ci r1.1.start.weekday, ci r1.1.start.minute, ci r1.1.stop.month, ci r1.1.stop.week, ci r1.1.stop.weekday, ci r1.1.stop.minute]), (6, .one (.pt 0 0 0 0)), (9, vi y1), (10, vi y2)] (by kernel_rfl) (by kernel_rfl) ?_ ?_
      · refine DX.go 2 [] [(34, vi y2), (33, .ag [cst r1.1.name, ci r1.1.offset, ci r1.1.summer, ci r1.1.start.month, ci r1.1.start.week, ci r1.1.start.weekday, ci r1.1.start.minute, ci r1.1.stop.month, ci r1.1.stop.week, ci r1.1.stop.weekday, ci r1.1.stop.minute]), (6, .one (.pt 0 0 0 0)), (9, vi y1), (10, vi y2)] [] (by kernel_rfl) trivial ?_
        refine DX.cal 60 [.ag [cst r1.1.name, ci r1.1.offset, ci r1.1.summer, ci r1.1.start.month, ci r1.1.start.week, ci r1.1.start.weekday, ci r1.1.start.minute, ci r1.1.stop.month, ci r1.1.stop.week, ci r1.1.stop.weekday, ci r1.1.stop.minute], vi y2] (vi r4) [(35, vi r4), (34, vi y2), (33, .ag [cst r1.1.name, ci r1.1.offset, ci r1.1.summer, ci r1.1.start.month, ci r1.1.start.week, ci r1.1.start.weekday, ci r1.1.start.minute, ci r1.1.stop.month, ci r1.1.stop.week, ci r1.1.stop.weekday, ci r1.1.stop.minute]), (6, .one (.pt 0 0 0 0)), (9, vi y1), (10, vi y2)] (by kernel_rfl) (c_ref1_ahead _ _ _ c21) rfl rfl (by kernel_rfl) ?_
        refine DX.go 6 [] [(41, vi (IntKind.i64.wrap ((60 : Int) * (IntKind.i64.wrap (r1.1.offset + r1.1.summer))))), (40, vi (IntKind.i64.wrap (r1.1.offset + r1.1.summer))), (39, vi r1.1.summer), (38, .one (.pt 0 0 0 2)), (37, vi r1.1.offset), (36, .one (.pt 0 0 0 1)), (35, vi r4), (34, vi y2), (33, .ag [cst r1.1.name, ci r1.1.offset, ci r1.1.summer, ci r1.1.start.month, ci r1.1.start.week, ci r1.1.start.weekday, ci r1.1.start.minute, ci r1.1.stop.month, ci r1.1.stop.week, ci r1.1.stop.weekday, ci r1.1.stop.minute]), (6, .one (.pt 0 0 0 0)), (9, vi y1), (10, vi y2)] [] (by kernel_rfl) trivial ?_
        rw [show (IntKind.i64.wrap ((60 : Int) * (IntKind.i64.wrap (r1.1.offset + r1.1.summer)))) = y3 from Option.some.inj y22]
        exact DX.done (by kernel_rfl)
      refine XO.go [6] 1 [9,10,42] [] [(9, vi y1), (10, vi y2), (42, vb (r4 == y3))] [.box [cst r1.1.name, ci r1.1.offset, ci r1.1.summer, ci r1.1.start.month, ci r1.1.start.week, ci r1.1.start.weekday, ci r1.1.start.minute, ci r1.1.stop.month, ci r1.1.stop.week, ci r1.1.stop.weekday, ci r1.1.stop.minute]] [] (by kernel_rfl) trivial ?_
      refine XO.done (by kernel_rfl) ?_
      refine hK20 _ _ ?_
      refine XW.cond (x := .tmp 42) (a := cd Try.f25 [1,1,1,1,1,1,1,0,1,0]) (b := cd Try.f25 [1,1,1,1,1,1,1,0,1,1]) (t := (r4 == y3)) (by kernel_rfl) (by kernel_rfl) (fun b23 => ?_) (fun b23 => ?_)
      · have h := ift_t b23 h
        refine XW.reg (by kernel_rfl) ?_
        refine XO.go [6] 2 [9] [] [(9, vi y2)] [.box [cst r1.1.name, ci r1.1.offset, ci r1.1.summer, ci r1.1.start.month, ci r1.1.start.week, ci r1.1.start.weekday, ci r1.1.start.minute, ci r1.1.stop.month, ci r1.1.stop.week, ci r1.1.stop.weekday, ci r1.1.stop.minute]] [] (by kernel_rfl) trivial ?_
        refine XO.done (by kernel_rfl) ?_
        exact hJ1 y2 h _ _ (Sub.pick [9] (by kernel_rfl))
      · have h := ift_f b23 h
        refine XW.skip (by kernel_rfl) ?_
        exact hJ1 y1 h _ _ (Sub.pick [9] (by kernel_rfl))

def value_Part (p1 : Int) (p2 : Int) (p3 : ByteArray) : Option (Int × Int) :=
    bnd (value_Local p1 p3) fun r1 =>
    ift (r1.2 != (0 : Int))
      (some ((0 : Int), r1.2))
      (bnd (value_days r1.1.year r1.1.month r1.1.day) fun r2 =>
       ift (p2 == (1 : Int))
         (some (r1.1.year, (0 : Int)))
         (ift (p2 == (2 : Int))
            (some (r1.1.month, (0 : Int)))
            (ift (p2 == (3 : Int))
               (some (r1.1.day, (0 : Int)))
               (ift (p2 == (4 : Int))
                  (some (r1.1.hour, (0 : Int)))
                  (ift (p2 == (5 : Int))
                     (some (r1.1.minute, (0 : Int)))
                     (ift (p2 == (6 : Int))
                        (some (r1.1.second, (0 : Int)))
                        (ift (p2 == (7 : Int))
                           (bnd (value_weekday r2) fun r3 =>
                            some (r3, (0 : Int)))
                           (ift (p2 == (8 : Int))
                              (bnd (value_days r1.1.year (1 : Int) (1 : Int)) fun r4 =>
                               some ((IntKind.i64.wrap ((IntKind.i64.wrap (r2 - r4)) + (1 : Int))), (0 : Int)))
                              (some ((0 : Int), (3 : Int)))))))))))


theorem c_value_Part (p1 : Int) (p2 : Int) (p3 : ByteArray) (r : (Int × Int)) (h : value_Part p1 p2 p3 = some r) : PC Try.prog 26 [vi p1, vi p2, vs p3] (.tp [vi r.1, vi r.2]) := by
  unfold value_Part at h
  refine PC.of (n := 64) (fn := Try.f26) (c := cd Try.f26 []) (by kernel_rfl) (by kernel_rfl) (by kernel_rfl) (Nat.le_of_ble_eq_true rfl) ?_
  refine XW.seq (x := cd Try.f26 [0]) (y := cd Try.f26 [1]) (by kernel_rfl) fun K1 hK1 => ?_
  refine XW.reg (by kernel_rfl) ?_
  refine XO.go [8] 2 [0,1,2] [] [(0, vi p1), (1, vi p2), (2, vs p3)] [] [] (by kernel_rfl) trivial ?_
  refine XO.done (by kernel_rfl) ?_
  refine hK1 _ _ ?_
  refine XW.seq (x := cd Try.f26 [1,0]) (y := cd Try.f26 [1,1]) (by kernel_rfl) fun K2 hK2 => ?_
  obtain ⟨r1, c3, h⟩ := bnd_some h
  refine XW.reg (by kernel_rfl) ?_
  refine XO.go [8] 2 [1,12,13] [] [(1, vi p2), (12, vi p1), (13, vs p3)] [] [] (by kernel_rfl) trivial ?_
  refine XO.cal 18 [vi p1, vs p3] (.tp [.ag [ci r1.1.year, ci r1.1.month, ci r1.1.day, ci r1.1.hour, ci r1.1.minute, ci r1.1.second], vi r1.2]) [(14, .tp [.ag [ci r1.1.year, ci r1.1.month, ci r1.1.day, ci r1.1.hour, ci r1.1.minute, ci r1.1.second], vi r1.2]), (1, vi p2), (12, vi p1), (13, vs p3)] (by kernel_rfl) (c_value_Local _ _ _ c3) rfl rfl (by kernel_rfl) ?_
  refine XO.go [8] 6 [1,8,9] [] [(1, vi p2), (8, .one (.pt 0 0 0 0)), (9, vi r1.2)] [.box [ci r1.1.year, ci r1.1.month, ci r1.1.day, ci r1.1.hour, ci r1.1.minute, ci r1.1.second]] [] (by kernel_rfl) trivial ?_
  refine XO.done (by kernel_rfl) ?_
  refine hK2 _ _ ?_
  refine XW.seq (x := cd Try.f26 [1,1,0]) (y := cd Try.f26 [1,1,1]) (by kernel_rfl) fun K4 hK4 => ?_
  refine XW.seq (x := cd Try.f26 [1,1,0,0]) (y := cd Try.f26 [1,1,0,1]) (by kernel_rfl) fun K5 hK5 => ?_
  refine XW.reg (by kernel_rfl) ?_
  refine XO.go [8] 2 [1,8,9,18] [] [(1, vi p2), (8, .one (.pt 0 0 0 0)), (9, vi r1.2), (18, vb (r1.2 != (0 : Int)))] [.box [ci r1.1.year, ci r1.1.month, ci r1.1.day, ci r1.1.hour, ci r1.1.minute, ci r1.1.second]] [] (by kernel_rfl) trivial ?_
  refine XO.done (by kernel_rfl) ?_
  refine hK5 _ _ ?_
  refine XW.cond (x := .tmp 18) (a := cd Try.f26 [1,1,0,1,0]) (b := cd Try.f26 [1,1,0,1,1]) (t := (r1.2 != (0 : Int))) (by kernel_rfl) (by kernel_rfl) (fun b6 => ?_) (fun b6 => ?_)
  · have h := ift_t b6 h
    refine XW.seq (x := cd Try.f26 [1,1,0,1,0,0]) (y := cd Try.f26 [1,1,0,1,0,1]) (by kernel_rfl) fun K7 hK7 => ?_
    refine XW.reg (by kernel_rfl) ?_
    refine XO.go [8] 3 [6,7] [] [(6, vi (0 : Int)), (7, vi r1.2)] [.box [ci r1.1.year, ci r1.1.month, ci r1.1.day, ci r1.1.hour, ci r1.1.minute, ci r1.1.second]] [] (by kernel_rfl) trivial ?_
    refine XO.done (by kernel_rfl) ?_
    refine hK7 _ _ ?_
    refine XW.ret (by kernel_rfl) ?_
    obtain rfl := Option.some.inj h
    exact FinP.fin (.inr rfl) [] [vi (0 : Int), vi r1.2] [] (by kernel_rfl) trivial (.tpc (.one (.rfl _ rfl)) (.tpc (.one (.rfl _ rfl)) (.tp0)))
  · have h := ift_f b6 h
    refine XW.skip (by kernel_rfl) ?_
    refine hK4 _ _ ?_
    refine XW.seq (x := cd Try.f26 [1,1,1,0]) (y := cd Try.f26 [1,1,1,1]) (by kernel_rfl) fun K8 hK8 => ?_
    obtain ⟨r2, c9, h⟩ := bnd_some h
    refine XW.reg (by kernel_rfl) ?_
    refine XO.go [8] 6 [1,8,21,23,25] [] [(1, vi p2), (8, .one (.pt 0 0 0 0)), (21, vi r1.1.year), (23, vi r1.1.month), (25, vi r1.1.day)] [.box [ci r1.1.year, ci r1.1.month, ci r1.1.day, ci r1.1.hour, ci r1.1.minute, ci r1.1.second]] [] (by kernel_rfl) trivial ?_
    refine XO.cal 47 [vi r1.1.year, vi r1.1.month, vi r1.1.day] (vi r2) [(26, vi r2), (1, vi p2), (8, .one (.pt 0 0 0 0)), (21, vi r1.1.year), (23, vi r1.1.month), (25, vi r1.1.day)] (by kernel_rfl) (c_value_days _ _ _ _ c9) rfl rfl (by kernel_rfl) ?_
    refine XO.go [8] 1 [1,8,10] [] [(1, vi p2), (8, .one (.pt 0 0 0 0)), (10, vi r2)] [.box [ci r1.1.year, ci r1.1.month, ci r1.1.day, ci r1.1.hour, ci r1.1.minute, ci r1.1.second]] [] (by kernel_rfl) trivial ?_
    refine XO.done (by kernel_rfl) ?_
    refine hK8 _ _ ?_
    refine XW.seq (x := cd Try.f26 [1,1,1,1,0]) (y := cd Try.f26 [1,1,1,1,1]) (by kernel_rfl) fun K10 hK10 => ?_
    refine XW.seq (x := cd Try.f26 [1,1,1,1,0,0]) (y := cd Try.f26 [1,1,1,1,0,1]) (by kernel_rfl) fun K11 hK11 => ?_
    refine XW.reg (by kernel_rfl) ?_
    refine XO.go [8] 1 [8,10,27] [] [(8, .one (.pt 0 0 0 0)), (10, vi r2), (27, vi p2)] [.box [ci r1.1.year, ci r1.1.month, ci r1.1.day, ci r1.1.hour, ci r1.1.minute, ci r1.1.second]] [] (by kernel_rfl) trivial ?_
    refine XO.done (by kernel_rfl) ?_
    refine hK11 _ _ ?_
    refine XW.block (id := 0) (x := cd Try.f26 [1,1,1,1,0,1,0]) (by kernel_rfl) ?_
    refine XW.seq (x := cd Try.f26 [1,1,1,1,0,1,0,0]) (y := cd Try.f26 [1,1,1,1,0,1,0,1]) (by kernel_rfl) fun K12 hK12 => ?_
    refine XW.reg (by kernel_rfl) ?_
    refine XO.go [8] 2 [8,10,27,28] [] [(8, .one (.pt 0 0 0 0)), (10, vi r2), (27, vi p2), (28, vb (p2 == (1 : Int)))] [.box [ci r1.1.year, ci r1.1.month, ci r1.1.day, ci r1.1.hour, ci r1.1.minute, ci r1.1.second]] [] (by kernel_rfl) trivial ?_
    refine XO.done (by kernel_rfl) ?_
    refine hK12 _ _ ?_
    refine XW.cond (x := .tmp 28) (a := cd Try.f26 [1,1,1,1,0,1,0,1,0]) (b := cd Try.f26 [1,1,1,1,0,1,0,1,1]) (t := (p2 == (1 : Int))) (by kernel_rfl) (by kernel_rfl) (fun b13 => ?_) (fun b13 => ?_)
    · have h := ift_t b13 h
      refine XW.seq (x := cd Try.f26 [1,1,1,1,0,1,0,1,0,0]) (y := cd Try.f26 [1,1,1,1,0,1,0,1,0,1]) (by kernel_rfl) fun K14 hK14 => ?_
      refine XW.reg (by kernel_rfl) ?_
      refine XO.go [8] 4 [6,7] [] [(6, vi r1.1.year), (7, vi (0 : Int))] [.box [ci r1.1.year, ci r1.1.month, ci r1.1.day, ci r1.1.hour, ci r1.1.minute, ci r1.1.second]] [] (by kernel_rfl) trivial ?_
      refine XO.done (by kernel_rfl) ?_
      refine hK14 _ _ ?_
      refine XW.ret (by kernel_rfl) ?_
      obtain rfl := Option.some.inj h
      exact FinP.fin (.inr rfl) [] [vi r1.1.year, vi (0 : Int)] [] (by kernel_rfl) trivial (.tpc (.one (.rfl _ rfl)) (.tpc (.one (.rfl _ rfl)) (.tp0)))
    · have h := ift_f b13 h
      refine XW.seq (x := cd Try.f26 [1,1,1,1,0,1,0,1,1,0]) (y := cd Try.f26 [1,1,1,1,0,1,0,1,1,1]) (by kernel_rfl) fun K15 hK15 => ?_
      refine XW.reg (by kernel_rfl) ?_
      refine XO.go [8] 2 [8,10,27,32] [] [(8, .one (.pt 0 0 0 0)), (10, vi r2), (27, vi p2), (32, vb (p2 == (2 : Int)))] [.box [ci r1.1.year, ci r1.1.month, ci r1.1.day, ci r1.1.hour, ci r1.1.minute, ci r1.1.second]] [] (by kernel_rfl) trivial ?_
      refine XO.done (by kernel_rfl) ?_
      refine hK15 _ _ ?_
      refine XW.cond (x := .tmp 32) (a := cd Try.f26 [1,1,1,1,0,1,0,1,1,1,0]) (b := cd Try.f26 [1,1,1,1,0,1,0,1,1,1,1]) (t := (p2 == (2 : Int))) (by kernel_rfl) (by kernel_rfl) (fun b16 => ?_) (fun b16 => ?_)
      · have h := ift_t b16 h
        refine XW.seq (x := cd Try.f26 [1,1,1,1,0,1,0,1,1,1,0,0]) (y := cd Try.f26 [1,1,1,1,0,1,0,1,1,1,0,1]) (by kernel_rfl) fun K17 hK17 => ?_
        refine XW.reg (by kernel_rfl) ?_
        refine XO.go [8] 4 [6,7] [] [(6, vi r1.1.month), (7, vi (0 : Int))] [.box [ci r1.1.year, ci r1.1.month, ci r1.1.day, ci r1.1.hour, ci r1.1.minute, ci r1.1.second]] [] (by kernel_rfl) trivial ?_
        refine XO.done (by kernel_rfl) ?_
        refine hK17 _ _ ?_
        refine XW.ret (by kernel_rfl) ?_
        obtain rfl := Option.some.inj h
        exact FinP.fin (.inr rfl) [] [vi r1.1.month, vi (0 : Int)] [] (by kernel_rfl) trivial (.tpc (.one (.rfl _ rfl)) (.tpc (.one (.rfl _ rfl)) (.tp0)))
      · have h := ift_f b16 h
        refine XW.seq (x := cd Try.f26 [1,1,1,1,0,1,0,1,1,1,1,0]) (y := cd Try.f26 [1,1,1,1,0,1,0,1,1,1,1,1]) (by kernel_rfl) fun K18 hK18 => ?_
        refine XW.reg (by kernel_rfl) ?_
        refine XO.go [8] 2 [8,10,27,36] [] [(8, .one (.pt 0 0 0 0)), (10, vi r2), (27, vi p2), (36, vb (p2 == (3 : Int)))] [.box [ci r1.1.year, ci r1.1.month, ci r1.1.day, ci r1.1.hour, ci r1.1.minute, ci r1.1.second]] [] (by kernel_rfl) trivial ?_
        refine XO.done (by kernel_rfl) ?_
        refine hK18 _ _ ?_
        refine XW.cond (x := .tmp 36) (a := cd Try.f26 [1,1,1,1,0,1,0,1,1,1,1,1,0]) (b := cd Try.f26 [1,1,1,1,0,1,0,1,1,1,1,1,1]) (t := (p2 == (3 : Int))) (by kernel_rfl) (by kernel_rfl) (fun b19 => ?_) (fun b19 => ?_)
        · have h := ift_t b19 h
          refine XW.seq (x := cd Try.f26 [1,1,1,1,0,1,0,1,1,1,1,1,0,0]) (y := cd Try.f26 [1,1,1,1,0,1,0,1,1,1,1,1,0,1]) (by kernel_rfl) fun K20 hK20 => ?_
          refine XW.reg (by kernel_rfl) ?_
          refine XO.go [8] 4 [6,7] [] [(6, vi r1.1.day), (7, vi (0 : Int))] [.box [ci r1.1.year, ci r1.1.month, ci r1.1.day, ci r1.1.hour, ci r1.1.minute, ci r1.1.second]] [] (by kernel_rfl) trivial ?_
          refine XO.done (by kernel_rfl) ?_
          refine hK20 _ _ ?_
          refine XW.ret (by kernel_rfl) ?_
          obtain rfl := Option.some.inj h
          exact FinP.fin (.inr rfl) [] [vi r1.1.day, vi (0 : Int)] [] (by kernel_rfl) trivial (.tpc (.one (.rfl _ rfl)) (.tpc (.one (.rfl _ rfl)) (.tp0)))
        · have h := ift_f b19 h
          refine XW.seq (x := cd Try.f26 [1,1,1,1,0,1,0,1,1,1,1,1,1,0]) (y := cd Try.f26 [1,1,1,1,0,1,0,1,1,1,1,1,1,1]) (by kernel_rfl) fun K21 hK21 => ?_
          refine XW.reg (by kernel_rfl) ?_
          refine XO.go [8] 2 [8,10,27,40] [] [(8, .one (.pt 0 0 0 0)), (10, vi r2), (27, vi p2), (40, vb (p2 == (4 : Int)))] [.box [ci r1.1.year, ci r1.1.month, ci r1.1.day, ci r1.1.hour, ci r1.1.minute, ci r1.1.second]] [] (by kernel_rfl) trivial ?_
          refine XO.done (by kernel_rfl) ?_
          refine hK21 _ _ ?_
          refine XW.cond (x := .tmp 40) (a := cd Try.f26 [1,1,1,1,0,1,0,1,1,1,1,1,1,1,0]) (b := cd Try.f26 [1,1,1,1,0,1,0,1,1,1,1,1,1,1,1]) (t := (p2 == (4 : Int))) (by kernel_rfl) (by kernel_rfl) (fun b22 => ?_) (fun b22 => ?_)
          · have h := ift_t b22 h
            refine XW.seq (x := cd Try.f26 [1,1,1,1,0,1,0,1,1,1,1,1,1,1,0,0]) (y := cd Try.f26 [1,1,1,1,0,1,0,1,1,1,1,1,1,1,0,1]) (by kernel_rfl) fun K23 hK23 => ?_
            refine XW.reg (by kernel_rfl) ?_
            refine XO.go [8] 4 [6,7] [] [(6, vi r1.1.hour), (7, vi (0 : Int))] [.box [ci r1.1.year, ci r1.1.month, ci r1.1.day, ci r1.1.hour, ci r1.1.minute, ci r1.1.second]] [] (by kernel_rfl) trivial ?_
            refine XO.done (by kernel_rfl) ?_
            refine hK23 _ _ ?_
            refine XW.ret (by kernel_rfl) ?_
            obtain rfl := Option.some.inj h
            exact FinP.fin (.inr rfl) [] [vi r1.1.hour, vi (0 : Int)] [] (by kernel_rfl) trivial (.tpc (.one (.rfl _ rfl)) (.tpc (.one (.rfl _ rfl)) (.tp0)))
          · have h := ift_f b22 h
            refine XW.seq (x := cd Try.f26 [1,1,1,1,0,1,0,1,1,1,1,1,1,1,1,0]) (y := cd Try.f26 [1,1,1,1,0,1,0,1,1,1,1,1,1,1,1,1]) (by kernel_rfl) fun K24 hK24 => ?_
            refine XW.reg (by kernel_rfl) ?_
            refine XO.go [8] 2 [8,10,27,44] [] [(8, .one (.pt 0 0 0 0)), (10, vi r2), (27, vi p2), (44, vb (p2 == (5 : Int)))] [.box [ci r1.1.year, ci r1.1.month, ci r1.1.day, ci r1.1.hour, ci r1.1.minute, ci r1.1.second]] [] (by kernel_rfl) trivial ?_
            refine XO.done (by kernel_rfl) ?_
            refine hK24 _ _ ?_
            refine XW.cond (x := .tmp 44) (a := cd Try.f26 [1,1,1,1,0,1,0,1,1,1,1,1,1,1,1,1,0]) (b := cd Try.f26 [1,1,1,1,0,1,0,1,1,1,1,1,1,1,1,1,1]) (t := (p2 == (5 : Int))) (by kernel_rfl) (by kernel_rfl) (fun b25 => ?_) (fun b25 => ?_)
            · have h := ift_t b25 h
              refine XW.seq (x := cd Try.f26 [1,1,1,1,0,1,0,1,1,1,1,1,1,1,1,1,0,0]) (y := cd Try.f26 [1,1,1,1,0,1,0,1,1,1,1,1,1,1,1,1,0,1]) (by kernel_rfl) fun K26 hK26 => ?_
              refine XW.reg (by kernel_rfl) ?_
              refine XO.go [8] 4 [6,7] [] [(6, vi r1.1.minute), (7, vi (0 : Int))] [.box [ci r1.1.year, ci r1.1.month, ci r1.1.day, ci r1.1.hour, ci r1.1.minute, ci r1.1.second]] [] (by kernel_rfl) trivial ?_
              refine XO.done (by kernel_rfl) ?_
              refine hK26 _ _ ?_
              refine XW.ret (by kernel_rfl) ?_
              obtain rfl := Option.some.inj h
              exact FinP.fin (.inr rfl) [] [vi r1.1.minute, vi (0 : Int)] [] (by kernel_rfl) trivial (.tpc (.one (.rfl _ rfl)) (.tpc (.one (.rfl _ rfl)) (.tp0)))
            · have h := ift_f b25 h
              refine XW.seq (x := cd Try.f26 [1,1,1,1,0,1,0,1,1,1,1,1,1,1,1,1,1,0]) (y := cd Try.f26 [1,1,1,1,0,1,0,1,1,1,1,1,1,1,1,1,1,1]) (by kernel_rfl) fun K27 hK27 => ?_
              refine XW.reg (by kernel_rfl) ?_
              refine XO.go [8] 2 [8,10,27,48] [] [(8, .one (.pt 0 0 0 0)), (10, vi r2), (27, vi p2), (48, vb (p2 == (6 : Int)))] [.box [ci r1.1.year, ci r1.1.month, ci r1.1.day, ci r1.1.hour, ci r1.1.minute, ci r1.1.second]] [] (by kernel_rfl) trivial ?_
              refine XO.done (by kernel_rfl) ?_
              refine hK27 _ _ ?_
              refine XW.cond (x := .tmp 48) (a := cd Try.f26 [1,1,1,1,0,1,0,1,1,1,1,1,1,1,1,1,1,1,0]) (b := cd Try.f26 [1,1,1,1,0,1,0,1,1,1,1,1,1,1,1,1,1,1,1]) (t := (p2 == (6 : Int))) (by kernel_rfl) (by kernel_rfl) (fun b28 => ?_) (fun b28 => ?_)
              · have h := ift_t b28 h
                refine XW.seq (x := cd Try.f26 [1,1,1,1,0,1,0,1,1,1,1,1,1,1,1,1,1,1,0,0]) (y := cd Try.f26 [1,1,1,1,0,1,0,1,1,1,1,1,1,1,1,1,1,1,0,1]) (by kernel_rfl) fun K29 hK29 => ?_
                refine XW.reg (by kernel_rfl) ?_
                refine XO.go [8] 4 [6,7] [] [(6, vi r1.1.second), (7, vi (0 : Int))] [.box [ci r1.1.year, ci r1.1.month, ci r1.1.day, ci r1.1.hour, ci r1.1.minute, ci r1.1.second]] [] (by kernel_rfl) trivial ?_
                refine XO.done (by kernel_rfl) ?_
                refine hK29 _ _ ?_
                refine XW.ret (by kernel_rfl) ?_
                obtain rfl := Option.some.inj h
                exact FinP.fin (.inr rfl) [] [vi r1.1.second, vi (0 : Int)] [] (by kernel_rfl) trivial (.tpc (.one (.rfl _ rfl)) (.tpc (.one (.rfl _ rfl)) (.tp0)))
              · have h := ift_f b28 h
                refine XW.seq (x := cd Try.f26 [1,1,1,1,0,1,0,1,1,1,1,1,1,1,1,1,1,1,1,0]) (y := cd Try.f26 [1,1,1,1,0,1,0,1,1,1,1,1,1,1,1,1,1,1,1,1]) (by kernel_rfl) fun K30 hK30 => ?_
                refine XW.reg (by kernel_rfl) ?_
                refine XO.go [8] 2 [8,10,27,52] [] [(8, .one (.pt 0 0 0 0)), (10, vi r2), (27, vi p2), (52, vb (p2 == (7 : Int)))] [.box [ci r1.1.year, ci r1.1.month, ci r1.1.day, ci r1.1.hour, ci r1.1.minute, ci r1.1.second]] [] (by kernel_rfl) trivial ?_
                refine XO.done (by kernel_rfl) ?_
                refine hK30 _ _ ?_
                refine XW.cond (x := .tmp 52) (a := cd Try.f26 [1,1,1,1,0,1,0,1,1,1,1,1,1,1,1,1,1,1,1,1,0]) (b := cd Try.f26 [1,1,1,1,0,1,0,1,1,1,1,1,1,1,1,1,1,1,1,1,1]) (t := (p2 == (7 : Int))) (by kernel_rfl) (by kernel_rfl) (fun b31 => ?_) (fun b31 => ?_)
                · have h := ift_t b31 h
                  refine XW.seq (x := cd Try.f26 [1,1,1,1,0,1,0,1,1,1,1,1,1,1,1,1,1,1,1,1,0,0]) (y := cd Try.f26 [1,1,1,1,0,1,0,1,1,1,1,1,1,1,1,1,1,1,1,1,0,1]) (by kernel_rfl) fun K32 hK32 => ?_
                  obtain ⟨r3, c33, h⟩ := bnd_some h
                  refine XW.reg (by kernel_rfl) ?_
                  refine XO.go [8] 1 [54] [] [(54, vi r2)] [.box [ci r1.1.year, ci r1.1.month, ci r1.1.day, ci r1.1.hour, ci r1.1.minute, ci r1.1.second]] [] (by kernel_rfl) trivial ?_
                  refine XO.cal 48 [vi r2] (vi r3) [(55, vi r3), (54, vi r2)] (by kernel_rfl) (c_value_weekday _ _ c33) rfl rfl (by kernel_rfl) ?_
                  refine XO.go [8] 2 [6,7] [] [(6, vi r3), (7, vi (0 : Int))] [.box [ci r1.1.year, ci r1.1.month, ci r1.1.day, ci r1.1.hour, ci r1.1.minute, ci r1.1.second]] [] (by kernel_rfl) trivial ?_
                  refine XO.done (by kernel_rfl) ?_
                  refine hK32 _ _ ?_
                  refine XW.ret (by kernel_rfl) ?_
                  obtain rfl := Option.some.inj h
                  exact FinP.fin (.inr rfl) [] [vi r3, vi (0 : Int)] [] (by kernel_rfl) trivial (.tpc (.one (.rfl _ rfl)) (.tpc (.one (.rfl _ rfl)) (.tp0)))
                · have h := ift_f b31 h
                  refine XW.seq (x := cd Try.f26 [1,1,1,1,0,1,0,1,1,1,1,1,1,1,1,1,1,1,1,1,1,0]) (y := cd Try.f26 [1,1,1,1,0,1,0,1,1,1,1,1,1,1,1,1,1,1,1,1,1,1]) (by kernel_rfl) fun K34 hK34 => ?_
                  refine XW.reg (by kernel_rfl) ?_
                  refine XO.go [8] 2 [8,10,56] [] [(8, .one (.pt 0 0 0 0)), (10, vi r2), (56, vb (p2 == (8 : Int)))] [.box [ci r1.1.year, ci r1.1.month, ci r1.1.day, ci r1.1.hour, ci r1.1.minute, ci r1.1.second]] [] (by kernel_rfl) trivial ?_
                  refine XO.done (by kernel_rfl) ?_
                  refine hK34 _ _ ?_
                  refine XW.cond (x := .tmp 56) (a := cd Try.f26 [1,1,1,1,0,1,0,1,1,1,1,1,1,1,1,1,1,1,1,1,1,1,0]) (b := cd Try.f26 [1,1,1,1,0,1,0,1,1,1,1,1,1,1,1,1,1,1,1,1,1,1,1]) (t := (p2 == (8 : Int))) (by kernel_rfl) (by kernel_rfl) (fun b35 => ?_) (fun b35 => ?_)
                  · have h := ift_t b35 h
                    refine XW.seq (x := cd Try.f26 [1,1,1,1,0,1,0,1,1,1,1,1,1,1,1,1,1,1,1,1,1,1,0,0]) (y := cd Try.f26 [1,1,1,1,0,1,0,1,1,1,1,1,1,1,1,1,1,1,1,1,1,1,0,1]) (by kernel_rfl) fun K36 hK36 => ?_
                    obtain ⟨r4, c37, h⟩ := bnd_some h
                    refine XW.reg (by kernel_rfl) ?_
                    refine XO.go [8] 3 [58,60] [] [(58, vi r2), (60, vi r1.1.year)] [.box [ci r1.1.year, ci r1.1.month, ci r1.1.day, ci r1.1.hour, ci r1.1.minute, ci r1.1.second]] [] (by kernel_rfl) trivial ?_
                    refine XO.cal 47 [vi r1.1.year, vi (1 : Int), vi (1 : Int)] (vi r4) [(61, vi r4), (58, vi r2), (60, vi r1.1.year)] (by kernel_rfl) (c_value_days _ _ _ _ c37) rfl rfl (by kernel_rfl) ?_
                    refine XO.go [8] 4 [6,7] [] [(6, vi (IntKind.i64.wrap ((IntKind.i64.wrap (r2 - r4)) + (1 : Int)))), (7, vi (0 : Int))] [.box [ci r1.1.year, ci r1.1.month, ci r1.1.day, ci r1.1.hour, ci r1.1.minute, ci r1.1.second]] [] (by kernel_rfl) trivial ?_
                    refine XO.done (by kernel_rfl) ?_
                    refine hK36 _ _ ?_
                    refine XW.ret (by kernel_rfl) ?_
                    obtain rfl := Option.some.inj h
                    exact FinP.fin (.inr rfl) [] [vi (IntKind.i64.wrap ((IntKind.i64.wrap (r2 - r4)) + (1 : Int))), vi (0 : Int)] [] (by kernel_rfl) trivial (.tpc (.one (.rfl _ rfl)) (.tpc (.one (.rfl _ rfl)) (.tp0)))
                  · have h := ift_f b35 h
                    refine XW.skip (by kernel_rfl) ?_
                    refine hK10 _ _ ?_
                    refine XW.seq (x := cd Try.f26 [1,1,1,1,1,0]) (y := cd Try.f26 [1,1,1,1,1,1]) (by kernel_rfl) fun K38 hK38 => ?_
                    refine XW.reg (by kernel_rfl) ?_
                    refine XO.go [8] 2 [6,7] [] [(6, vi (0 : Int)), (7, vi (3 : Int))] [.box [ci r1.1.year, ci r1.1.month, ci r1.1.day, ci r1.1.hour, ci r1.1.minute, ci r1.1.second]] [] (by kernel_rfl) trivial ?_
                    refine XO.done (by kernel_rfl) ?_
                    refine hK38 _ _ ?_
                    refine XW.ret (by kernel_rfl) ?_
                    obtain rfl := Option.some.inj h
                    exact FinP.fin (.inr rfl) [] [vi (0 : Int), vi (3 : Int)] [] (by kernel_rfl) trivial (.tpc (.one (.rfl _ rfl)) (.tpc (.one (.rfl _ rfl)) (.tp0)))

def ref1_Part (p1 : Int) (p2 : Int) (p3 : ByteArray) : Option (Int × Int) :=
    bnd (ref1_Local p1 p3) fun r1 =>
    ift (r1.2 != (0 : Int))
      (some ((0 : Int), r1.2))
      (bnd (ref1_Days r1.1.year r1.1.month r1.1.day) fun r2 =>
       ift (p2 == (1 : Int))
         (some (r1.1.year, (0 : Int)))
         (ift (p2 == (2 : Int))
            (some (r1.1.month, (0 : Int)))
            (ift (p2 == (3 : Int))
               (some (r1.1.day, (0 : Int)))
               (ift (p2 == (4 : Int))
                  (some (r1.1.hour, (0 : Int)))
                  (ift (p2 == (5 : Int))
                     (some (r1.1.minute, (0 : Int)))
                     (ift (p2 == (6 : Int))
                        (some (r1.1.second, (0 : Int)))
                        (ift (p2 == (7 : Int))
                           (bnd (ref1_weekday r2) fun r3 =>
                            some (r3, (0 : Int)))
                           (ift (p2 == (8 : Int))
                              (bnd (ref1_yearStart r1.1.year) fun r4 =>
                               some ((IntKind.i64.wrap ((IntKind.i64.wrap (r2 - r4)) + (1 : Int))), (0 : Int)))
                              (some ((0 : Int), (3 : Int)))))))))))


theorem c_ref1_Part (p1 : Int) (p2 : Int) (p3 : ByteArray) (r : (Int × Int)) (h : ref1_Part p1 p2 p3 = some r) : PC Try.prog 27 [vi p1, vi p2, vs p3] (.tp [vi r.1, vi r.2]) := by
  unfold ref1_Part at h
  refine PC.of (n := 64) (fn := Try.f27) (c := cd Try.f27 []) (by kernel_rfl) (by kernel_rfl) (by kernel_rfl) (Nat.le_of_ble_eq_true rfl) ?_
  refine XW.seq (x := cd Try.f27 [0]) (y := cd Try.f27 [1]) (by kernel_rfl) fun K1 hK1 => ?_
  refine XW.reg (by kernel_rfl) ?_
  refine XO.go [8] 2 [0,1,2] [] [(0, vi p1), (1, vi p2), (2, vs p3)] [] [] (by kernel_rfl) trivial ?_
  refine XO.done (by kernel_rfl) ?_
  refine hK1 _ _ ?_
  refine XW.seq (x := cd Try.f27 [1,0]) (y := cd Try.f27 [1,1]) (by kernel_rfl) fun K2 hK2 => ?_
  obtain ⟨r1, c3, h⟩ := bnd_some h
  refine XW.reg (by kernel_rfl) ?_
  refine XO.go [8] 2 [1,12,13] [] [(1, vi p2), (12, vi p1), (13, vs p3)] [] [] (by kernel_rfl) trivial ?_
  refine XO.cal 24 [vi p1, vs p3] (.tp [.ag [ci r1.1.year, ci r1.1.month, ci r1.1.day, ci r1.1.hour, ci r1.1.minute, ci r1.1.second], vi r1.2]) [(14, .tp [.ag [ci r1.1.year, ci r1.1.month, ci r1.1.day, ci r1.1.hour, ci r1.1.minute, ci r1.1.second], vi r1.2]), (1, vi p2), (12, vi p1), (13, vs p3)] (by kernel_rfl) (c_ref1_Local _ _ _ c3) rfl rfl (by kernel_rfl) ?_
  refine XO.go [8] 6 [1,8,9] [] [(1, vi p2), (8, .one (.pt 0 0 0 0)), (9, vi r1.2)] [.box [ci r1.1.year, ci r1.1.month, ci r1.1.day, ci r1.1.hour, ci r1.1.minute, ci r1.1.second]] [] (by kernel_rfl) trivial ?_
  refine XO.done (by kernel_rfl) ?_
  refine hK2 _ _ ?_
  refine XW.seq (x := cd Try.f27 [1,1,0]) (y := cd Try.f27 [1,1,1]) (by kernel_rfl) fun K4 hK4 => ?_
  refine XW.seq (x := cd Try.f27 [1,1,0,0]) (y := cd Try.f27 [1,1,0,1]) (by kernel_rfl) fun K5 hK5 => ?_
  refine XW.reg (by kernel_rfl) ?_
  refine XO.go [8] 2 [1,8,9,18] [] [(1, vi p2), (8, .one (.pt 0 0 0 0)), (9, vi r1.2), (18, vb (r1.2 != (0 : Int)))] [.box [ci r1.1.year, ci r1.1.month, ci r1.1.day, ci r1.1.hour, ci r1.1.minute, ci r1.1.second]] [] (by kernel_rfl) trivial ?_
  refine XO.done (by kernel_rfl) ?_
  refine hK5 _ _ ?_
  refine XW.cond (x := .tmp 18) (a := cd Try.f27 [1,1,0,1,0]) (b := cd Try.f27 [1,1,0,1,1]) (t := (r1.2 != (0 : Int))) (by kernel_rfl) (by kernel_rfl) (fun b6 => ?_) (fun b6 => ?_)
  · have h := ift_t b6 h
    refine XW.seq (x := cd Try.f27 [1,1,0,1,0,0]) (y := cd Try.f27 [1,1,0,1,0,1]) (by kernel_rfl) fun K7 hK7 => ?_
    refine XW.reg (by kernel_rfl) ?_
    refine XO.go [8] 3 [6,7] [] [(6, vi (0 : Int)), (7, vi r1.2)] [.box [ci r1.1.year, ci r1.1.month, ci r1.1.day, ci r1.1.hour, ci r1.1.minute, ci r1.1.second]] [] (by kernel_rfl) trivial ?_
    refine XO.done (by kernel_rfl) ?_
    refine hK7 _ _ ?_
    refine XW.ret (by kernel_rfl) ?_
    obtain rfl := Option.some.inj h
    exact FinP.fin (.inr rfl) [] [vi (0 : Int), vi r1.2] [] (by kernel_rfl) trivial (.tpc (.one (.rfl _ rfl)) (.tpc (.one (.rfl _ rfl)) (.tp0)))
  · have h := ift_f b6 h
    refine XW.skip (by kernel_rfl) ?_
    refine hK4 _ _ ?_
    refine XW.seq (x := cd Try.f27 [1,1,1,0]) (y := cd Try.f27 [1,1,1,1]) (by kernel_rfl) fun K8 hK8 => ?_
    obtain ⟨r2, c9, h⟩ := bnd_some h
    refine XW.reg (by kernel_rfl) ?_
    refine XO.go [8] 6 [1,8,21,23,25] [] [(1, vi p2), (8, .one (.pt 0 0 0 0)), (21, vi r1.1.year), (23, vi r1.1.month), (25, vi r1.1.day)] [.box [ci r1.1.year, ci r1.1.month, ci r1.1.day, ci r1.1.hour, ci r1.1.minute, ci r1.1.second]] [] (by kernel_rfl) trivial ?_
    refine XO.cal 63 [vi r1.1.year, vi r1.1.month, vi r1.1.day] (vi r2) [(26, vi r2), (1, vi p2), (8, .one (.pt 0 0 0 0)), (21, vi r1.1.year), (23, vi r1.1.month), (25, vi r1.1.day)] (by kernel_rfl) (c_ref1_Days _ _ _ _ c9) rfl rfl (by kernel_rfl) ?_
    refine XO.go [8] 1 [1,8,10] [] [(1, vi p2), (8, .one (.pt 0 0 0 0)), (10, vi r2)] [.box [ci r1.1.year, ci r1.1.month, ci r1.1.day, ci r1.1.hour, ci r1.1.minute, ci r1.1.second]] [] (by kernel_rfl) trivial ?_
    refine XO.done (by kernel_rfl) ?_
    refine hK8 _ _ ?_
    refine XW.seq (x := cd Try.f27 [1,1,1,1,0]) (y := cd Try.f27 [1,1,1,1,1]) (by kernel_rfl) fun K10 hK10 => ?_
    refine XW.seq (x := cd Try.f27 [1,1,1,1,0,0]) (y := cd Try.f27 [1,1,1,1,0,1]) (by kernel_rfl) fun K11 hK11 => ?_
    refine XW.reg (by kernel_rfl) ?_
    refine XO.go [8] 1 [8,10,27] [] [(8, .one (.pt 0 0 0 0)), (10, vi r2), (27, vi p2)] [.box [ci r1.1.year, ci r1.1.month, ci r1.1.day, ci r1.1.hour, ci r1.1.minute, ci r1.1.second]] [] (by kernel_rfl) trivial ?_
    refine XO.done (by kernel_rfl) ?_
    refine hK11 _ _ ?_
    refine XW.block (id := 0) (x := cd Try.f27 [1,1,1,1,0,1,0]) (by kernel_rfl) ?_
    refine XW.seq (x := cd Try.f27 [1,1,1,1,0,1,0,0]) (y := cd Try.f27 [1,1,1,1,0,1,0,1]) (by kernel_rfl) fun K12 hK12 => ?_
    refine XW.reg (by kernel_rfl) ?_
    refine XO.go [8] 2 [8,10,27,28] [] [(8, .one (.pt 0 0 0 0)), (10, vi r2), (27, vi p2), (28, vb (p2 == (1 : Int)))] [.box [ci r1.1.year, ci r1.1.month, ci r1.1.day, ci r1.1.hour, ci r1.1.minute, ci r1.1.second]] [] (by kernel_rfl) trivial ?_
    refine XO.done (by kernel_rfl) ?_
    refine hK12 _ _ ?_
    refine XW.cond (x := .tmp 28) (a := cd Try.f27 [1,1,1,1,0,1,0,1,0]) (b := cd Try.f27 [1,1,1,1,0,1,0,1,1]) (t := (p2 == (1 : Int))) (by kernel_rfl) (by kernel_rfl) (fun b13 => ?_) (fun b13 => ?_)
    · have h := ift_t b13 h
      refine XW.seq (x := cd Try.f27 [1,1,1,1,0,1,0,1,0,0]) (y := cd Try.f27 [1,1,1,1,0,1,0,1,0,1]) (by kernel_rfl) fun K14 hK14 => ?_
      refine XW.reg (by kernel_rfl) ?_
      refine XO.go [8] 4 [6,7] [] [(6, vi r1.1.year), (7, vi (0 : Int))] [.box [ci r1.1.year, ci r1.1.month, ci r1.1.day, ci r1.1.hour, ci r1.1.minute, ci r1.1.second]] [] (by kernel_rfl) trivial ?_
      refine XO.done (by kernel_rfl) ?_
      refine hK14 _ _ ?_
      refine XW.ret (by kernel_rfl) ?_
      obtain rfl := Option.some.inj h
      exact FinP.fin (.inr rfl) [] [vi r1.1.year, vi (0 : Int)] [] (by kernel_rfl) trivial (.tpc (.one (.rfl _ rfl)) (.tpc (.one (.rfl _ rfl)) (.tp0)))
    · have h := ift_f b13 h
      refine XW.seq (x := cd Try.f27 [1,1,1,1,0,1,0,1,1,0]) (y := cd Try.f27 [1,1,1,1,0,1,0,1,1,1]) (by kernel_rfl) fun K15 hK15 => ?_
      refine XW.reg (by kernel_rfl) ?_
      refine XO.go [8] 2 [8,10,27,32] [] [(8, .one (.pt 0 0 0 0)), (10, vi r2), (27, vi p2), (32, vb (p2 == (2 : Int)))] [.box [ci r1.1.year, ci r1.1.month, ci r1.1.day, ci r1.1.hour, ci r1.1.minute, ci r1.1.second]] [] (by kernel_rfl) trivial ?_
      refine XO.done (by kernel_rfl) ?_
      refine hK15 _ _ ?_
      refine XW.cond (x := .tmp 32) (a := cd Try.f27 [1,1,1,1,0,1,0,1,1,1,0]) (b := cd Try.f27 [1,1,1,1,0,1,0,1,1,1,1]) (t := (p2 == (2 : Int))) (by kernel_rfl) (by kernel_rfl) (fun b16 => ?_) (fun b16 => ?_)
      · have h := ift_t b16 h
        refine XW.seq (x := cd Try.f27 [1,1,1,1,0,1,0,1,1,1,0,0]) (y := cd Try.f27 [1,1,1,1,0,1,0,1,1,1,0,1]) (by kernel_rfl) fun K17 hK17 => ?_
        refine XW.reg (by kernel_rfl) ?_
        refine XO.go [8] 4 [6,7] [] [(6, vi r1.1.month), (7, vi (0 : Int))] [.box [ci r1.1.year, ci r1.1.month, ci r1.1.day, ci r1.1.hour, ci r1.1.minute, ci r1.1.second]] [] (by kernel_rfl) trivial ?_
        refine XO.done (by kernel_rfl) ?_
        refine hK17 _ _ ?_
        refine XW.ret (by kernel_rfl) ?_
        obtain rfl := Option.some.inj h
        exact FinP.fin (.inr rfl) [] [vi r1.1.month, vi (0 : Int)] [] (by kernel_rfl) trivial (.tpc (.one (.rfl _ rfl)) (.tpc (.one (.rfl _ rfl)) (.tp0)))
      · have h := ift_f b16 h
        refine XW.seq (x := cd Try.f27 [1,1,1,1,0,1,0,1,1,1,1,0]) (y := cd Try.f27 [1,1,1,1,0,1,0,1,1,1,1,1]) (by kernel_rfl) fun K18 hK18 => ?_
        refine XW.reg (by kernel_rfl) ?_
        refine XO.go [8] 2 [8,10,27,36] [] [(8, .one (.pt 0 0 0 0)), (10, vi r2), (27, vi p2), (36, vb (p2 == (3 : Int)))] [.box [ci r1.1.year, ci r1.1.month, ci r1.1.day, ci r1.1.hour, ci r1.1.minute, ci r1.1.second]] [] (by kernel_rfl) trivial ?_
        refine XO.done (by kernel_rfl) ?_
        refine hK18 _ _ ?_
        refine XW.cond (x := .tmp 36) (a := cd Try.f27 [1,1,1,1,0,1,0,1,1,1,1,1,0]) (b := cd Try.f27 [1,1,1,1,0,1,0,1,1,1,1,1,1]) (t := (p2 == (3 : Int))) (by kernel_rfl) (by kernel_rfl) (fun b19 => ?_) (fun b19 => ?_)
        · have h := ift_t b19 h
          refine XW.seq (x := cd Try.f27 [1,1,1,1,0,1,0,1,1,1,1,1,0,0]) (y := cd Try.f27 [1,1,1,1,0,1,0,1,1,1,1,1,0,1]) (by kernel_rfl) fun K20 hK20 => ?_
          refine XW.reg (by kernel_rfl) ?_
          refine XO.go [8] 4 [6,7] [] [(6, vi r1.1.day), (7, vi (0 : Int))] [.box [ci r1.1.year, ci r1.1.month, ci r1.1.day, ci r1.1.hour, ci r1.1.minute, ci r1.1.second]] [] (by kernel_rfl) trivial ?_
          refine XO.done (by kernel_rfl) ?_
          refine hK20 _ _ ?_
          refine XW.ret (by kernel_rfl) ?_
          obtain rfl := Option.some.inj h
          exact FinP.fin (.inr rfl) [] [vi r1.1.day, vi (0 : Int)] [] (by kernel_rfl) trivial (.tpc (.one (.rfl _ rfl)) (.tpc (.one (.rfl _ rfl)) (.tp0)))
        · have h := ift_f b19 h
          refine XW.seq (x := cd Try.f27 [1,1,1,1,0,1,0,1,1,1,1,1,1,0]) (y := cd Try.f27 [1,1,1,1,0,1,0,1,1,1,1,1,1,1]) (by kernel_rfl) fun K21 hK21 => ?_
          refine XW.reg (by kernel_rfl) ?_
          refine XO.go [8] 2 [8,10,27,40] [] [(8, .one (.pt 0 0 0 0)), (10, vi r2), (27, vi p2), (40, vb (p2 == (4 : Int)))] [.box [ci r1.1.year, ci r1.1.month, ci r1.1.day, ci r1.1.hour, ci r1.1.minute, ci r1.1.second]] [] (by kernel_rfl) trivial ?_
          refine XO.done (by kernel_rfl) ?_
          refine hK21 _ _ ?_
          refine XW.cond (x := .tmp 40) (a := cd Try.f27 [1,1,1,1,0,1,0,1,1,1,1,1,1,1,0]) (b := cd Try.f27 [1,1,1,1,0,1,0,1,1,1,1,1,1,1,1]) (t := (p2 == (4 : Int))) (by kernel_rfl) (by kernel_rfl) (fun b22 => ?_) (fun b22 => ?_)
          · have h := ift_t b22 h
            refine XW.seq (x := cd Try.f27 [1,1,1,1,0,1,0,1,1,1,1,1,1,1,0,0]) (y := cd Try.f27 [1,1,1,1,0,1,0,1,1,1,1,1,1,1,0,1]) (by kernel_rfl) fun K23 hK23 => ?_
            refine XW.reg (by kernel_rfl) ?_
            refine XO.go [8] 4 [6,7] [] [(6, vi r1.1.hour), (7, vi (0 : Int))] [.box [ci r1.1.year, ci r1.1.month, ci r1.1.day, ci r1.1.hour, ci r1.1.minute, ci r1.1.second]] [] (by kernel_rfl) trivial ?_
            refine XO.done (by kernel_rfl) ?_
            refine hK23 _ _ ?_
            refine XW.ret (by kernel_rfl) ?_
            obtain rfl := Option.some.inj h
            exact FinP.fin (.inr rfl) [] [vi r1.1.hour, vi (0 : Int)] [] (by kernel_rfl) trivial (.tpc (.one (.rfl _ rfl)) (.tpc (.one (.rfl _ rfl)) (.tp0)))
          · have h := ift_f b22 h
            refine XW.seq (x := cd Try.f27 [1,1,1,1,0,1,0,1,1,1,1,1,1,1,1,0]) (y := cd Try.f27 [1,1,1,1,0,1,0,1,1,1,1,1,1,1,1,1]) (by kernel_rfl) fun K24 hK24 => ?_
            refine XW.reg (by kernel_rfl) ?_
            refine XO.go [8] 2 [8,10,27,44] [] [(8, .one (.pt 0 0 0 0)), (10, vi r2), (27, vi p2), (44, vb (p2 == (5 : Int)))] [.box [ci r1.1.year, ci r1.1.month, ci r1.1.day, ci r1.1.hour, ci r1.1.minute, ci r1.1.second]] [] (by kernel_rfl) trivial ?_
            refine XO.done (by kernel_rfl) ?_
            refine hK24 _ _ ?_
            refine XW.cond (x := .tmp 44) (a := cd Try.f27 [1,1,1,1,0,1,0,1,1,1,1,1,1,1,1,1,0]) (b := cd Try.f27 [1,1,1,1,0,1,0,1,1,1,1,1,1,1,1,1,1]) (t := (p2 == (5 : Int))) (by kernel_rfl) (by kernel_rfl) (fun b25 => ?_) (fun b25 => ?_)
            · have h := ift_t b25 h
              refine XW.seq (x := cd Try.f27 [1,1,1,1,0,1,0,1,1,1,1,1,1,1,1,1,0,0]) (y := cd Try.f27 [1,1,1,1,0,1,0,1,1,1,1,1,1,1,1,1,0,1]) (by kernel_rfl) fun K26 hK26 => ?_
              refine XW.reg (by kernel_rfl) ?_
              refine XO.go [8] 4 [6,7] [] [(6, vi r1.1.minute), (7, vi (0 : Int))] [.box [ci r1.1.year, ci r1.1.month, ci r1.1.day, ci r1.1.hour, ci r1.1.minute, ci r1.1.second]] [] (by kernel_rfl) trivial ?_
              refine XO.done (by kernel_rfl) ?_
              refine hK26 _ _ ?_
              refine XW.ret (by kernel_rfl) ?_
              obtain rfl := Option.some.inj h
              exact FinP.fin (.inr rfl) [] [vi r1.1.minute, vi (0 : Int)] [] (by kernel_rfl) trivial (.tpc (.one (.rfl _ rfl)) (.tpc (.one (.rfl _ rfl)) (.tp0)))
            · have h := ift_f b25 h
              refine XW.seq (x := cd Try.f27 [1,1,1,1,0,1,0,1,1,1,1,1,1,1,1,1,1,0]) (y := cd Try.f27 [1,1,1,1,0,1,0,1,1,1,1,1,1,1,1,1,1,1]) (by kernel_rfl) fun K27 hK27 => ?_
              refine XW.reg (by kernel_rfl) ?_
              refine XO.go [8] 2 [8,10,27,48] [] [(8, .one (.pt 0 0 0 0)), (10, vi r2), (27, vi p2), (48, vb (p2 == (6 : Int)))] [.box [ci r1.1.year, ci r1.1.month, ci r1.1.day, ci r1.1.hour, ci r1.1.minute, ci r1.1.second]] [] (by kernel_rfl) trivial ?_
              refine XO.done (by kernel_rfl) ?_
              refine hK27 _ _ ?_
              refine XW.cond (x := .tmp 48) (a := cd Try.f27 [1,1,1,1,0,1,0,1,1,1,1,1,1,1,1,1,1,1,0]) (b := cd Try.f27 [1,1,1,1,0,1,0,1,1,1,1,1,1,1,1,1,1,1,1]) (t := (p2 == (6 : Int))) (by kernel_rfl) (by kernel_rfl) (fun b28 => ?_) (fun b28 => ?_)
              · have h := ift_t b28 h
                refine XW.seq (x := cd Try.f27 [1,1,1,1,0,1,0,1,1,1,1,1,1,1,1,1,1,1,0,0]) (y := cd Try.f27 [1,1,1,1,0,1,0,1,1,1,1,1,1,1,1,1,1,1,0,1]) (by kernel_rfl) fun K29 hK29 => ?_
                refine XW.reg (by kernel_rfl) ?_
                refine XO.go [8] 4 [6,7] [] [(6, vi r1.1.second), (7, vi (0 : Int))] [.box [ci r1.1.year, ci r1.1.month, ci r1.1.day, ci r1.1.hour, ci r1.1.minute, ci r1.1.second]] [] (by kernel_rfl) trivial ?_
                refine XO.done (by kernel_rfl) ?_
                refine hK29 _ _ ?_
                refine XW.ret (by kernel_rfl) ?_
                obtain rfl := Option.some.inj h
                exact FinP.fin (.inr rfl) [] [vi r1.1.second, vi (0 : Int)] [] (by kernel_rfl) trivial (.tpc (.one (.rfl _ rfl)) (.tpc (.one (.rfl _ rfl)) (.tp0)))
              · have h := ift_f b28 h
                refine XW.seq (x := cd Try.f27 [1,1,1,1,0,1,0,1,1,1,1,1,1,1,1,1,1,1,1,0]) (y := cd Try.f27 [1,1,1,1,0,1,0,1,1,1,1,1,1,1,1,1,1,1,1,1]) (by kernel_rfl) fun K30 hK30 => ?_
                refine XW.reg (by kernel_rfl) ?_
                refine XO.go [8] 2 [8,10,27,52] [] [(8, .one (.pt 0 0 0 0)), (10, vi r2), (27, vi p2), (52, vb (p2 == (7 : Int)))] [.box [ci r1.1.year, ci r1.1.month, ci r1.1.day, ci r1.1.hour, ci r1.1.minute, ci r1.1.second]] [] (by kernel_rfl) trivial ?_
                refine XO.done (by kernel_rfl) ?_
                refine hK30 _ _ ?_
                refine XW.cond (x := .tmp 52) (a := cd Try.f27 [1,1,1,1,0,1,0,1,1,1,1,1,1,1,1,1,1,1,1,1,0]) (b := cd Try.f27 [1,1,1,1,0,1,0,1,1,1,1,1,1,1,1,1,1,1,1,1,1]) (t := (p2 == (7 : Int))) (by kernel_rfl) (by kernel_rfl) (fun b31 => ?_) (fun b31 => ?_)
                · have h := ift_t b31 h
                  refine XW.seq (x := cd Try.f27 [1,1,1,1,0,1,0,1,1,1,1,1,1,1,1,1,1,1,1,1,0,0]) (y := cd Try.f27 [1,1,1,1,0,1,0,1,1,1,1,1,1,1,1,1,1,1,1,1,0,1]) (by kernel_rfl) fun K32 hK32 => ?_
                  obtain ⟨r3, c33, h⟩ := bnd_some h
                  refine XW.reg (by kernel_rfl) ?_
                  refine XO.go [8] 1 [54] [] [(54, vi r2)] [.box [ci r1.1.year, ci r1.1.month, ci r1.1.day, ci r1.1.hour, ci r1.1.minute, ci r1.1.second]] [] (by kernel_rfl) trivial ?_
                  refine XO.cal 64 [vi r2] (vi r3) [(55, vi r3), (54, vi r2)] (by kernel_rfl) (c_ref1_weekday _ _ c33) rfl rfl (by kernel_rfl) ?_
                  refine XO.go [8] 2 [6,7] [] [(6, vi r3), (7, vi (0 : Int))] [.box [ci r1.1.year, ci r1.1.month, ci r1.1.day, ci r1.1.hour, ci r1.1.minute, ci r1.1.second]] [] (by kernel_rfl) trivial ?_
                  refine XO.done (by kernel_rfl) ?_
                  refine hK32 _ _ ?_
                  refine XW.ret (by kernel_rfl) ?_
                  obtain rfl := Option.some.inj h
                  exact FinP.fin (.inr rfl) [] [vi r3, vi (0 : Int)] [] (by kernel_rfl) trivial (.tpc (.one (.rfl _ rfl)) (.tpc (.one (.rfl _ rfl)) (.tp0)))
                · have h := ift_f b31 h
                  refine XW.seq (x := cd Try.f27 [1,1,1,1,0,1,0,1,1,1,1,1,1,1,1,1,1,1,1,1,1,0]) (y := cd Try.f27 [1,1,1,1,0,1,0,1,1,1,1,1,1,1,1,1,1,1,1,1,1,1]) (by kernel_rfl) fun K34 hK34 => ?_
                  refine XW.reg (by kernel_rfl) ?_
                  refine XO.go [8] 2 [8,10,56] [] [(8, .one (.pt 0 0 0 0)), (10, vi r2), (56, vb (p2 == (8 : Int)))] [.box [ci r1.1.year, ci r1.1.month, ci r1.1.day, ci r1.1.hour, ci r1.1.minute, ci r1.1.second]] [] (by kernel_rfl) trivial ?_
                  refine XO.done (by kernel_rfl) ?_
                  refine hK34 _ _ ?_
                  refine XW.cond (x := .tmp 56) (a := cd Try.f27 [1,1,1,1,0,1,0,1,1,1,1,1,1,1,1,1,1,1,1,1,1,1,0]) (b := cd Try.f27 [1,1,1,1,0,1,0,1,1,1,1,1,1,1,1,1,1,1,1,1,1,1,1]) (t := (p2 == (8 : Int))) (by kernel_rfl) (by kernel_rfl) (fun b35 => ?_) (fun b35 => ?_)
                  · have h := ift_t b35 h
                    refine XW.seq (x := cd Try.f27 [1,1,1,1,0,1,0,1,1,1,1,1,1,1,1,1,1,1,1,1,1,1,0,0]) (y := cd Try.f27 [1,1,1,1,0,1,0,1,1,1,1,1,1,1,1,1,1,1,1,1,1,1,0,1]) (by kernel_rfl) fun K36 hK36 => ?_
                    obtain ⟨r4, c37, h⟩ := bnd_some h
                    refine XW.reg (by kernel_rfl) ?_
                    refine XO.go [8] 3 [58,60] [] [(58, vi r2), (60, vi r1.1.year)] [.box [ci r1.1.year, ci r1.1.month, ci r1.1.day, ci r1.1.hour, ci r1.1.minute, ci r1.1.second]] [] (by kernel_rfl) trivial ?_
                    refine XO.cal 65 [vi r1.1.year] (vi r4) [(61, vi r4), (58, vi r2), (60, vi r1.1.year)] (by kernel_rfl) (c_ref1_yearStart _ _ c37) rfl rfl (by kernel_rfl) ?_
                    refine XO.go [8] 4 [6,7] [] [(6, vi (IntKind.i64.wrap ((IntKind.i64.wrap (r2 - r4)) + (1 : Int)))), (7, vi (0 : Int))] [.box [ci r1.1.year, ci r1.1.month, ci r1.1.day, ci r1.1.hour, ci r1.1.minute, ci r1.1.second]] [] (by kernel_rfl) trivial ?_
                    refine XO.done (by kernel_rfl) ?_
                    refine hK36 _ _ ?_
                    refine XW.ret (by kernel_rfl) ?_
                    obtain rfl := Option.some.inj h
                    exact FinP.fin (.inr rfl) [] [vi (IntKind.i64.wrap ((IntKind.i64.wrap (r2 - r4)) + (1 : Int))), vi (0 : Int)] [] (by kernel_rfl) trivial (.tpc (.one (.rfl _ rfl)) (.tpc (.one (.rfl _ rfl)) (.tp0)))
                  · have h := ift_f b35 h
                    refine XW.skip (by kernel_rfl) ?_
                    refine hK10 _ _ ?_
                    refine XW.seq (x := cd Try.f27 [1,1,1,1,1,0]) (y := cd Try.f27 [1,1,1,1,1,1]) (by kernel_rfl) fun K38 hK38 => ?_
                    refine XW.reg (by kernel_rfl) ?_
                    refine XO.go [8] 2 [6,7] [] [(6, vi (0 : Int)), (7, vi (3 : Int))] [.box [ci r1.1.year, ci r1.1.month, ci r1.1.day, ci r1.1.hour, ci r1.1.minute, ci r1.1.second]] [] (by kernel_rfl) trivial ?_
                    refine XO.done (by kernel_rfl) ?_
                    refine hK38 _ _ ?_
                    refine XW.ret (by kernel_rfl) ?_
                    obtain rfl := Option.some.inj h
                    exact FinP.fin (.inr rfl) [] [vi (0 : Int), vi (3 : Int)] [] (by kernel_rfl) trivial (.tpc (.one (.rfl _ rfl)) (.tpc (.one (.rfl _ rfl)) (.tp0)))

def ref1_Trunc_j7 (p3 : ByteArray) (b1 : Int) (b7 : Int) (b8 : Int) (b9 : Int) (b10 : Int) (b11 : Int) : Option (Int × Int) :=
    bnd (ref1_Instant (GCivil.mk b1 b7 b8 b9 b10 b11) p3) fun r6 =>
    some (r6.1, r6.2)

def ref1_Trunc_j6 (p3 : ByteArray) (b1 : Int) (b6 : Int) (x1 : Int) (b7 : Int) (b8 : Int) (b9 : Int) (b10 : Int) : Option (Int × Int) :=
    ift (decide (x1 < (6 : Int)))
      (ref1_Trunc_j7 p3 b1 b7 b8 b9 b10 (0 : Int))
      (ref1_Trunc_j7 p3 b1 b7 b8 b9 b10 b6)

def ref1_Trunc_j5 (p3 : ByteArray) (b1 : Int) (b5 : Int) (b6 : Int) (x1 : Int) (b7 : Int) (b8 : Int) (b9 : Int) : Option (Int × Int) :=
    ift (decide (x1 < (5 : Int)))
      (ref1_Trunc_j6 p3 b1 b6 x1 b7 b8 b9 (0 : Int))
      (ref1_Trunc_j6 p3 b1 b6 x1 b7 b8 b9 b5)

def ref1_Trunc_j4 (p3 : ByteArray) (b1 : Int) (b4 : Int) (b5 : Int) (b6 : Int) (x1 : Int) (b7 : Int) (b8 : Int) : Option (Int × Int) :=
    ift (decide (x1 < (4 : Int)))
      (ref1_Trunc_j5 p3 b1 b5 b6 x1 b7 b8 (0 : Int))
      (ref1_Trunc_j5 p3 b1 b5 b6 x1 b7 b8 b4)

def ref1_Trunc_j3 (p3 : ByteArray) (b1 : Int) (b3 : Int) (b4 : Int) (b5 : Int) (b6 : Int) (x1 : Int) (b7 : Int) : Option (Int × Int) :=
    ift (decide (x1 < (3 : Int)))
      (ref1_Trunc_j4 p3 b1 b4 b5 b6 x1 b7 (1 : Int))
      (ref1_Trunc_j4 p3 b1 b4 b5 b6 x1 b7 b3)

def ref1_Trunc_j2 (p3 : ByteArray) (b1 : Int) (b2 : Int) (b3 : Int) (b4 : Int) (b5 : Int) (b6 : Int) (x1 : Int) : Option (Int × Int) :=
    ift (decide (x1 < (2 : Int)))
      (ref1_Trunc_j3 p3 b1 b3 b4 b5 b6 x1 (1 : Int))
      (ref1_Trunc_j3 p3 b1 b3 b4 b5 b6 x1 b2)

def ref1_Trunc_j1 (p2 : Int) (p3 : ByteArray) (b1 : Int) (b2 : Int) (b3 : Int) (b4 : Int) (b5 : Int) (b6 : Int) : Option (Int × Int) :=
    ift (p2 == (7 : Int))
      (ref1_Trunc_j2 p3 b1 b2 b3 b4 b5 b6 (3 : Int))
      (ref1_Trunc_j2 p3 b1 b2 b3 b4 b5 b6 p2)

def ref1_Trunc (p1 : Int) (p2 : Int) (p3 : ByteArray) : Option (Int × Int) :=
    bnd (ref1_Local p1 p3) fun r1 =>
    ift (r1.2 != (0 : Int))
      (some ((0 : Int), r1.2))
      (bnd (ref1_within p2 (1 : Int) (7 : Int)) fun r2 =>
       ift (!r2)
         (some ((0 : Int), (3 : Int)))
         (ift (p2 == (7 : Int))
            (bnd (ref1_Days r1.1.year r1.1.month r1.1.day) fun r3 =>
             bnd (ref1_weekday r3) fun r4 =>
             bnd (some (IntKind.i64.wrap ((86400 : Int) * (IntKind.i64.wrap ((IntKind.i64.wrap (r3 - r4)) + (1 : Int)))))) fun y1 =>
             bnd (ref1_civil y1) fun r5 =>
             ref1_Trunc_j1 p2 p3 r5.year r5.month r5.day r5.hour r5.minute r5.second)
            (ref1_Trunc_j1 p2 p3 r1.1.year r1.1.month r1.1.day r1.1.hour r1.1.minute r1.1.second)))


theorem c_ref1_Trunc (p1 : Int) (p2 : Int) (p3 : ByteArray) (r : (Int × Int)) (h : ref1_Trunc p1 p2 p3 = some r) : PC Try.prog 28 [vi p1, vi p2, vs p3] (.tp [vi r.1, vi r.2]) := by
  unfold ref1_Trunc at h
  refine PC.of (n := 63) (fn := Try.f28) (c := cd Try.f28 []) (by kernel_rfl) (by kernel_rfl) (by kernel_rfl) (Nat.le_of_ble_eq_true rfl) ?_
  refine XW.seq (x := cd Try.f28 [0]) (y := cd Try.f28 [1]) (by kernel_rfl) fun K1 hK1 => ?_
  refine XW.reg (by kernel_rfl) ?_
  refine XO.go [8] 2 [0,1,2] [] [(0, vi p1), (1, vi p2), (2, vs p3)] [] [] (by kernel_rfl) trivial ?_
  refine XO.done (by kernel_rfl) ?_
  refine hK1 _ _ ?_
  refine XW.seq (x := cd Try.f28 [1,0]) (y := cd Try.f28 [1,1]) (by kernel_rfl) fun K2 hK2 => ?_
  obtain ⟨r1, c3, h⟩ := bnd_some h
  refine XW.reg (by kernel_rfl) ?_
  refine XO.go [8] 2 [1,2,13,14] [] [(1, vi p2), (2, vs p3), (13, vi p1), (14, vs p3)] [] [] (by kernel_rfl) trivial ?_
  refine XO.cal 24 [vi p1, vs p3] (.tp [.ag [ci r1.1.year, ci r1.1.month, ci r1.1.day, ci r1.1.hour, ci r1.1.minute, ci r1.1.second], vi r1.2]) [(15, .tp [.ag [ci r1.1.year, ci r1.1.month, ci r1.1.day, ci r1.1.hour, ci r1.1.minute, ci r1.1.second], vi r1.2]), (1, vi p2), (2, vs p3), (13, vi p1), (14, vs p3)] (by kernel_rfl) (c_ref1_Local _ _ _ c3) rfl rfl (by kernel_rfl) ?_
  refine XO.go [8] 6 [1,2,8,9] [] [(1, vi p2), (2, vs p3), (8, .one (.pt 0 0 0 0)), (9, vi r1.2)] [.box [ci r1.1.year, ci r1.1.month, ci r1.1.day, ci r1.1.hour, ci r1.1.minute, ci r1.1.second]] [] (by kernel_rfl) trivial ?_
  refine XO.done (by kernel_rfl) ?_
  refine hK2 _ _ ?_
  refine XW.seq (x := cd Try.f28 [1,1,0]) (y := cd Try.f28 [1,1,1]) (by kernel_rfl) fun K4 hK4 => ?_
  refine XW.seq (x := cd Try.f28 [1,1,0,0]) (y := cd Try.f28 [1,1,0,1]) (by kernel_rfl) fun K5 hK5 => ?_
  refine XW.reg (by kernel_rfl) ?_
  refine XO.go [8] 2 [1,2,8,9,19] [] [(1, vi p2), (2, vs p3), (8, .one (.pt 0 0 0 0)), (9, vi r1.2), (19, vb (r1.2 != (0 : Int)))] [.box [ci r1.1.year, ci r1.1.month, ci r1.1.day, ci r1.1.hour, ci r1.1.minute, ci r1.1.second]] [] (by kernel_rfl) trivial ?_
  refine XO.done (by kernel_rfl) ?_
  refine hK5 _ _ ?_
  refine XW.cond (x := .tmp 19) (a := cd Try.f28 [1,1,0,1,0]) (b := cd Try.f28 [1,1,0,1,1]) (t := (r1.2 != (0 : Int))) (by kernel_rfl) (by kernel_rfl) (fun b6 => ?_) (fun b6 => ?_)
  · have h := ift_t b6 h
    refine XW.seq (x := cd Try.f28 [1,1,0,1,0,0]) (y := cd Try.f28 [1,1,0,1,0,1]) (by kernel_rfl) fun K7 hK7 => ?_
    refine XW.reg (by kernel_rfl) ?_
    refine XO.go [8] 3 [6,7] [] [(6, vi (0 : Int)), (7, vi r1.2)] [.box [ci r1.1.year, ci r1.1.month, ci r1.1.day, ci r1.1.hour, ci r1.1.minute, ci r1.1.second]] [] (by kernel_rfl) trivial ?_
    refine XO.done (by kernel_rfl) ?_
    refine hK7 _ _ ?_
    refine XW.ret (by kernel_rfl) ?_
    obtain rfl := Option.some.inj h
    exact FinP.fin (.inr rfl) [] [vi (0 : Int), vi r1.2] [] (by kernel_rfl) trivial (.tpc (.one (.rfl _ rfl)) (.tpc (.one (.rfl _ rfl)) (.tp0)))
  · have h := ift_f b6 h
    refine XW.skip (by kernel_rfl) ?_
    refine hK4 _ _ ?_
    refine XW.seq (x := cd Try.f28 [1,1,1,0]) (y := cd Try.f28 [1,1,1,1]) (by kernel_rfl) fun K8 hK8 => ?_
    refine XW.seq (x := cd Try.f28 [1,1,1,0,0]) (y := cd Try.f28 [1,1,1,0,1]) (by kernel_rfl) fun K9 hK9 => ?_
    obtain ⟨r2, c10, h⟩ := bnd_some h
    refine XW.reg (by kernel_rfl) ?_
    refine XO.go [8] 1 [1,2,8,21] [] [(1, vi p2), (2, vs p3), (8, .one (.pt 0 0 0 0)), (21, vi p2)] [.box [ci r1.1.year, ci r1.1.month, ci r1.1.day, ci r1.1.hour, ci r1.1.minute, ci r1.1.second]] [] (by kernel_rfl) trivial ?_
    refine XO.cal 58 [vi p2, vi (1 : Int), vi (7 : Int)] (vb r2) [(22, vb r2), (1, vi p2), (2, vs p3), (8, .one (.pt 0 0 0 0)), (21, vi p2)] (by kernel_rfl) (c_ref1_within _ _ _ _ c10) rfl rfl (by kernel_rfl) ?_
    refine XO.go [8] 1 [1,2,8,23] [] [(1, vi p2), (2, vs p3), (8, .one (.pt 0 0 0 0)), (23, vb (!r2))] [.box [ci r1.1.year, ci r1.1.month, ci r1.1.day, ci r1.1.hour, ci r1.1.minute, ci r1.1.second]] [] (by kernel_rfl) trivial ?_
    refine XO.done (by kernel_rfl) ?_
    refine hK9 _ _ ?_
    refine XW.cond (x := .tmp 23) (a := cd Try.f28 [1,1,1,0,1,0]) (b := cd Try.f28 [1,1,1,0,1,1]) (t := (!r2)) (by kernel_rfl) (by kernel_rfl) (fun b11 => ?_) (fun b11 => ?_)
    · have h := ift_t b11 h
      refine XW.seq (x := cd Try.f28 [1,1,1,0,1,0,0]) (y := cd Try.f28 [1,1,1,0,1,0,1]) (by kernel_rfl) fun K12 hK12 => ?_
      refine XW.reg (by kernel_rfl) ?_
      refine XO.go [8] 2 [6,7] [] [(6, vi (0 : Int)), (7, vi (3 : Int))] [.box [ci r1.1.year, ci r1.1.month, ci r1.1.day, ci r1.1.hour, ci r1.1.minute, ci r1.1.second]] [] (by kernel_rfl) trivial ?_
      refine XO.done (by kernel_rfl) ?_
      refine hK12 _ _ ?_
      refine XW.ret (by kernel_rfl) ?_
      obtain rfl := Option.some.inj h
      exact FinP.fin (.inr rfl) [] [vi (0 : Int), vi (3 : Int)] [] (by kernel_rfl) trivial (.tpc (.one (.rfl _ rfl)) (.tpc (.one (.rfl _ rfl)) (.tp0)))
    · have h := ift_f b11 h
      refine XW.skip (by kernel_rfl) ?_
      refine hK8 _ _ ?_
      refine XW.seq (x := cd Try.f28 [1,1,1,1,0]) (y := cd Try.f28 [1,1,1,1,1]) (by kernel_rfl) fun K13 hK13 => ?_
      have hJ1 : ∀ (b1 : Int) (b2 : Int) (b3 : Int) (b4 : Int) (b5 : Int) (b6 : Int), ref1_Trunc_j1 p2 p3 b1 b2 b3 b4 b5 b6 = some r → ∀ fr1 st1, Sub 63 0 [] fr1 st1 [(1, vi p2), (2, vs p3), (8, .one (.pt 0 0 0 0))] [.box [ci b1, ci b2, ci b3, ci b4, ci b5, ci b6]] → K13 fr1 st1 := by
        intro b1 b2 b3 b4 b5 b6 h fr1 st1 hS
        unfold ref1_Trunc_j1 at h
        refine hK13 _ _ (XW.sub hS ?_)
        refine XW.seq (x := cd Try.f28 [1,1,1,1,1,0]) (y := cd Try.f28 [1,1,1,1,1,1]) (by kernel_rfl) fun K21 hK21 => ?_
        refine XW.reg (by kernel_rfl) ?_
        refine XO.go [8] 2 [1,2,8,11] [] [(1, vi p2), (2, vs p3), (8, .one (.pt 0 0 0 0)), (11, vi p2)] [.box [ci b1, ci b2, ci b3, ci b4, ci b5, ci b6]] [] (by kernel_rfl) trivial ?_
        refine XO.done (by kernel_rfl) ?_
        refine hK21 _ _ ?_
        refine XW.seq (x := cd Try.f28 [1,1,1,1,1,1,0]) (y := cd Try.f28 [1,1,1,1,1,1,1]) (by kernel_rfl) fun K22 hK22 => ?_
        have hJ2 : ∀ (x1 : Int), ref1_Trunc_j2 p3 b1 b2 b3 b4 b5 b6 x1 = some r → ∀ fr1 st1, Sub 63 0 [] fr1 st1 [(2, vs p3), (8, .one (.pt 0 0 0 0)), (11, vi x1)] [.box [ci b1, ci b2, ci b3, ci b4, ci b5, ci b6]] → K22 fr1 st1 := by
          intro x1 h fr1 st1 hS
          unfold ref1_Trunc_j2 at h
          refine hK22 _ _ (XW.sub hS ?_)
          refine XW.seq (x := cd Try.f28 [1,1,1,1,1,1,1,0]) (y := cd Try.f28 [1,1,1,1,1,1,1,1]) (by kernel_rfl) fun K25 hK25 => ?_
          have hJ3 : ∀ (b7 : Int), ref1_Trunc_j3 p3 b1 b3 b4 b5 b6 x1 b7 = some r → ∀ fr1 st1, Sub 63 0 [] fr1 st1 [(2, vs p3), (8, .one (.pt 0 0 0 0)), (11, vi x1)] [.box [ci b1, ci b7, ci b3, ci b4, ci b5, ci b6]] → K25 fr1 st1 := by
            intro b7 h fr1 st1 hS
            unfold ref1_Trunc_j3 at h
            refine hK25 _ _ (XW.sub hS ?_)
            refine XW.seq (x := cd Try.f28 [1,1,1,1,1,1,1,1,0]) (y := cd Try.f28 [1,1,1,1,1,1,1,1,1]) (by kernel_rfl) fun K28 hK28 => ?_
            have hJ4 : ∀ (b8 : Int), ref1_Trunc_j4 p3 b1 b4 b5 b6 x1 b7 b8 = some r → ∀ fr1 st1, Sub 63 0 [] fr1 st1 [(2, vs p3), (8, .one (.pt 0 0 0 0)), (11, vi x1)] [.box [ci b1, ci b7, ci b8, ci b4, ci b5, ci b6]] → K28 fr1 st1 := by
              intro b8 h fr1 st1 hS
              unfold ref1_Trunc_j4 at h
              refine hK28 _ _ (XW.sub hS ?_)
              refine XW.seq (x := cd Try.f28 [1,1,1,1,1,1,1,1,1,0]) (y := cd Try.f28 [1,1,1,1,1,1,1,1,1,1]) (by kernel_rfl) fun K31 hK31 => ?_
              have hJ5 : ∀ (b9 : Int), ref1_Trunc_j5 p3 b1 b5 b6 x1 b7 b8 b9 = some r → ∀ fr1 st1, Sub 63 0 [] fr1 st1 [(2, vs p3), (8, .one (.pt 0 0 0 0)), (11, vi x1)] [.box [ci b1, ci b7, ci b8, ci b9, ci b5, ci b6]] → K31 fr1 st1 := by
                intro b9 h fr1 st1 hS
                unfold ref1_Trunc_j5 at h
                refine hK31 _ _ (XW.sub hS ?_)
                refine XW.seq (x := cd Try.f28 [1,1,1,1,1,1,1,1,1,1,0]) (y := cd Try.f28 [1,1,1,1,1,1,1,1,1,1,1]) (by kernel_rfl) fun K34 hK34 => ?_
                have hJ6 : ∀ (b10 : Int), ref1_Trunc_j6 p3 b1 b6 x1 b7 b8 b9 b10 = some r → ∀ fr1 st1, Sub 63 0 [] fr1 st1 [(2, vs p3), (8, .one (.pt 0 0 0 0)), (11, vi x1)] [.box [ci b1, ci b7, ci b8, ci b9, ci b10, ci b6]] → K34 fr1 st1 := by
                  intro b10 h fr1 st1 hS
                  unfold ref1_Trunc_j6 at h
                  refine hK34 _ _ (XW.sub hS ?_)
                  refine XW.seq (x := cd Try.f28 [1,1,1,1,1,1,1,1,1,1,1,0]) (y := cd Try.f28 [1,1,1,1,1,1,1,1,1,1,1,1]) (by kernel_rfl) fun K37 hK37 => ?_
                  have hJ7 : ∀ (b11 : Int), ref1_Trunc_j7 p3 b1 b7 b8 b9 b10 b11 = some r → ∀ fr1 st1, Sub 63 0 [] fr1 st1 [(2, vs p3), (8, .one (.pt 0 0 0 0))] [.box [ci b1, ci b7, ci b8, ci b9, ci b10, ci b11]] → K37 fr1 st1 := by
                    intro b11 h fr1 st1 hS
                    unfold ref1_Trunc_j7 at h
                    refine hK37 _ _ (XW.sub hS ?_)
                    refine XW.seq (x := cd Try.f28 [1,1,1,1,1,1,1,1,1,1,1,1,0]) (y := cd Try.f28 [1,1,1,1,1,1,1,1,1,1,1,1,1]) (by kernel_rfl) fun K40 hK40 => ?_
                    obtain ⟨r6, c41, h⟩ := bnd_some h
                    refine XW.reg (by kernel_rfl) ?_
                    refine XO.go [8] 2 [58,59] [] [(58, .ag [ci b1, ci b7, ci b8, ci b9, ci b10, ci b11]), (59, vs p3)] [.box [ci b1, ci b7, ci b8, ci b9, ci b10, ci b11]] [] (by kernel_rfl) trivial ?_
                    refine XO.cal 25 [.ag [ci b1, ci b7, ci b8, ci b9, ci b10, ci b11], vs p3] (.tp [vi r6.1, vi r6.2]) [(60, .tp [vi r6.1, vi r6.2]), (58, .ag [ci b1, ci b7, ci b8, ci b9, ci b10, ci b11]), (59, vs p3)] (by kernel_rfl) (c_ref1_Instant _ _ _ c41) rfl rfl (by kernel_rfl) ?_
                    refine XO.go [8] 4 [6,7] [] [(6, vi r6.1), (7, vi r6.2)] [.box [ci b1, ci b7, ci b8, ci b9, ci b10, ci b11]] [] (by kernel_rfl) trivial ?_
                    refine XO.done (by kernel_rfl) ?_
                    refine hK40 _ _ ?_
                    refine XW.ret (by kernel_rfl) ?_
                    obtain rfl := Option.some.inj h
                    exact FinP.fin (.inr rfl) [] [vi r6.1, vi r6.2] [] (by kernel_rfl) trivial (.tpc (.one (.rfl _ rfl)) (.tpc (.one (.rfl _ rfl)) (.tp0)))
                  refine XW.seq (x := cd Try.f28 [1,1,1,1,1,1,1,1,1,1,1,0,0]) (y := cd Try.f28 [1,1,1,1,1,1,1,1,1,1,1,0,1]) (by kernel_rfl) fun K38 hK38 => ?_
                  refine XW.reg (by kernel_rfl) ?_
                  refine XO.go [8] 2 [2,8,56] [] [(2, vs p3), (8, .one (.pt 0 0 0 0)), (56, vb (decide (x1 < (6 : Int))))] [.box [ci b1, ci b7, ci b8, ci b9, ci b10, ci b6]] [] (by kernel_rfl) trivial ?_
                  refine XO.done (by kernel_rfl) ?_
                  refine hK38 _ _ ?_
                  refine XW.cond (x := .tmp 56) (a := cd Try.f28 [1,1,1,1,1,1,1,1,1,1,1,0,1,0]) (b := cd Try.f28 [1,1,1,1,1,1,1,1,1,1,1,0,1,1]) (t := (decide (x1 < (6 : Int)))) (by kernel_rfl) (by kernel_rfl) (fun b39 => ?_) (fun b39 => ?_)
                  · have h := ift_t b39 h
                    refine XW.reg (by kernel_rfl) ?_
                    refine XO.go [8] 2 [2,8] [] [(2, vs p3), (8, .one (.pt 0 0 0 0))] [.box [ci b1, ci b7, ci b8, ci b9, ci b10, ci (0 : Int)]] [] (by kernel_rfl) trivial ?_
                    refine XO.done (by kernel_rfl) ?_
                    exact hJ7 (0 : Int) h _ _ (Sub.pick [2,8] (by kernel_rfl))
                  · have h := ift_f b39 h
                    refine XW.skip (by kernel_rfl) ?_
                    exact hJ7 b6 h _ _ (Sub.pick [2,8] (by kernel_rfl))
                refine XW.seq (x := cd Try.f28 [1,1,1,1,1,1,1,1,1,1,0,0]) (y := cd Try.f28 [1,1,1,1,1,1,1,1,1,1,0,1]) (by kernel_rfl) fun K35 hK35 => ?_
                refine XW.reg (by kernel_rfl) ?_
                refine XO.go [8] 2 [2,8,11,53] [] [(2, vs p3), (8, .one (.pt 0 0 0 0)), (11, vi x1), (53, vb (decide (x1 < (5 : Int))))] [.box [ci b1, ci b7, ci b8, ci b9, ci b5, ci b6]] [] (by kernel_rfl) trivial ?_
                refine XO.done (by kernel_rfl) ?_
                refine hK35 _ _ ?_
                refine XW.cond (x := .tmp 53) (a := cd Try.f28 [1,1,1,1,1,1,1,1,1,1,0,1,0]) (b := cd Try.f28 [1,1,1,1,1,1,1,1,1,1,0,1,1]) (t := (decide (x1 < (5 : Int)))) (by kernel_rfl) (by kernel_rfl) (fun b36 => ?_) (fun b36 => ?_)
                · have h := ift_t b36 h
                  refine XW.reg (by kernel_rfl) ?_
                  refine XO.go [8] 2 [2,8,11] [] [(2, vs p3), (8, .one (.pt 0 0 0 0)), (11, vi x1)] [.box [ci b1, ci b7, ci b8, ci b9, ci (0 : Int), ci b6]] [] (by kernel_rfl) trivial ?_
                  refine XO.done (by kernel_rfl) ?_
                  exact hJ6 (0 : Int) h _ _ (Sub.pick [2,8,11] (by kernel_rfl))
                · have h := ift_f b36 h
                  refine XW.skip (by kernel_rfl) ?_
                  exact hJ6 b5 h _ _ (Sub.pick [2,8,11] (by kernel_rfl))
              refine XW.seq (x := cd Try.f28 [1,1,1,1,1,1,1,1,1,0,0]) (y := cd Try.f28 [1,1,1,1,1,1,1,1,1,0,1]) (by kernel_rfl) fun K32 hK32 => ?_
              refine XW.reg (by kernel_rfl) ?_
              refine XO.go [8] 2 [2,8,11,50] [] [(2, vs p3), (8, .one (.pt 0 0 0 0)), (11, vi x1), (50, vb (decide (x1 < (4 : Int))))] [.box [ci b1, ci b7, ci b8, ci b4, ci b5, ci b6]] [] (by kernel_rfl) trivial ?_
              refine XO.done (by kernel_rfl) ?_
              refine hK32 _ _ ?_
              refine XW.cond (x := .tmp 50) (a := cd Try.f28 [1,1,1,1,1,1,1,1,1,0,1,0]) (b := cd Try.f28 [1,1,1,1,1,1,1,1,1,0,1,1]) (t := (decide (x1 < (4 : Int)))) (by kernel_rfl) (by kernel_rfl) (fun b33 => ?_) (fun b33 => ?_)
              · have h := ift_t b33 h
                refine XW.reg (by kernel_rfl) ?_
                refine XO.go [8] 2 [2,8,11] [] [(2, vs p3), (8, .one (.pt 0 0 0 0)), (11, vi x1)] [.box [ci b1, ci b7, ci b8, ci (0 : Int), ci b5, ci b6]] [] (by kernel_rfl) trivial ?_
                refine XO.done (by kernel_rfl) ?_
                exact hJ5 (0 : Int) h _ _ (Sub.pick [2,8,11] (by kernel_rfl))
              · have h := ift_f b33 h
                refine XW.skip (by kernel_rfl) ?_
                exact hJ5 b4 h _ _ (Sub.pick [2,8,11] (by kernel_rfl))
            refine XW.seq (x := cd Try.f28 [1,1,1,1,1,1,1,1,0,0]) (y := cd Try.f28 [1,1,1,1,1,1,1,1,0,1]) (by kernel_rfl) fun K29 hK29 => ?_
            refine XW.reg (by kernel_rfl) ?_
            refine XO.go [8] 2 [2,8,11,47] [] [(2, vs p3), (8, .one (.pt 0 0 0 0)), (11, vi x1), (47, vb (decide (x1 < (3 : Int))))] [.box [ci b1, ci b7, ci b3, ci b4, ci b5, ci b6]] [] (by kernel_rfl) trivial ?_
            refine XO.done (by kernel_rfl) ?_
            refine hK29 _ _ ?_
            refine XW.cond (x := .tmp 47) (a := cd Try.f28 [1,1,1,1,1,1,1,1,0,1,0]) (b := cd Try.f28 [1,1,1,1,1,1,1,1,0,1,1]) (t := (decide (x1 < (3 : Int)))) (by kernel_rfl) (by kernel_rfl) (fun b30 => ?_) (fun b30 => ?_)
            · have h := ift_t b30 h
              refine XW.reg (by kernel_rfl) ?_
              refine XO.go [8] 2 [2,8,11] [] [(2, vs p3), (8, .one (.pt 0 0 0 0)), (11, vi x1)] [.box [ci b1, ci b7, ci (1 : Int), ci b4, ci b5, ci b6]] [] (by kernel_rfl) trivial ?_
              refine XO.done (by kernel_rfl) ?_
              exact hJ4 (1 : Int) h _ _ (Sub.pick [2,8,11] (by kernel_rfl))
            · have h := ift_f b30 h
              refine XW.skip (by kernel_rfl) ?_
              exact hJ4 b3 h _ _ (Sub.pick [2,8,11] (by kernel_rfl))
          refine XW.seq (x := cd Try.f28 [1,1,1,1,1,1,1,0,0]) (y := cd Try.f28 [1,1,1,1,1,1,1,0,1]) (by kernel_rfl) fun K26 hK26 => ?_
          refine XW.reg (by kernel_rfl) ?_
          refine XO.go [8] 2 [2,8,11,44] [] [(2, vs p3), (8, .one (.pt 0 0 0 0)), (11, vi x1), (44, vb (decide (x1 < (2 : Int))))] [.box [ci b1, ci b2, ci b3, ci b4, ci b5, ci b6]] [] (by kernel_rfl) trivial ?_
          refine XO.done (by kernel_rfl) ?_
          refine hK26 _ _ ?_
          refine XW.cond (x := .tmp 44) (a := cd Try.f28 [1,1,1,1,1,1,1,0,1,0]) (b := cd Try.f28 [1,1,1,1,1,1,1,0,1,1]) (t := (decide (x1 < (2 : Int)))) (by kernel_rfl) (by kernel_rfl) (fun b27 => ?_) (fun b27 => ?_)
          · have h := ift_t b27 h
            refine XW.reg (by kernel_rfl) ?_
            refine XO.go [8] 2 [2,8,11] [] [(2, vs p3), (8, .one (.pt 0 0 0 0)), (11, vi x1)] [.box [ci b1, ci (1 : Int), ci b3, ci b4, ci b5, ci b6]] [] (by kernel_rfl) trivial ?_
            refine XO.done (by kernel_rfl) ?_
            exact hJ3 (1 : Int) h _ _ (Sub.pick [2,8,11] (by kernel_rfl))
          · have h := ift_f b27 h
            refine XW.skip (by kernel_rfl) ?_
            exact hJ3 b2 h _ _ (Sub.pick [2,8,11] (by kernel_rfl))
        refine XW.seq (x := cd Try.f28 [1,1,1,1,1,1,0,0]) (y := cd Try.f28 [1,1,1,1,1,1,0,1]) (by kernel_rfl) fun K23 hK23 => ?_
        refine XW.reg (by kernel_rfl) ?_
        refine XO.go [8] 2 [2,8,11,42] [] [(2, vs p3), (8, .one (.pt 0 0 0 0)), (11, vi p2), (42, vb (p2 == (7 : Int)))] [.box [ci b1, ci b2, ci b3, ci b4, ci b5, ci b6]] [] (by kernel_rfl) trivial ?_
        refine XO.done (by kernel_rfl) ?_
        refine hK23 _ _ ?_
        refine XW.cond (x := .tmp 42) (a := cd Try.f28 [1,1,1,1,1,1,0,1,0]) (b := cd Try.f28 [1,1,1,1,1,1,0,1,1]) (t := (p2 == (7 : Int))) (by kernel_rfl) (by kernel_rfl) (fun b24 => ?_) (fun b24 => ?_)
        · have h := ift_t b24 h
          refine XW.reg (by kernel_rfl) ?_
          refine XO.go [8] 1 [2,8,11] [] [(2, vs p3), (8, .one (.pt 0 0 0 0)), (11, vi (3 : Int))] [.box [ci b1, ci b2, ci b3, ci b4, ci b5, ci b6]] [] (by kernel_rfl) trivial ?_
          refine XO.done (by kernel_rfl) ?_
          exact hJ2 (3 : Int) h _ _ (Sub.pick [2,8,11] (by kernel_rfl))
        · have h := ift_f b24 h
          refine XW.skip (by kernel_rfl) ?_
          exact hJ2 p2 h _ _ (Sub.pick [2,8,11] (by kernel_rfl))
      refine XW.seq (x := cd Try.f28 [1,1,1,1,0,0]) (y := cd Try.f28 [1,1,1,1,0,1]) (by kernel_rfl) fun K14 hK14 => ?_
      refine XW.reg (by kernel_rfl) ?_
      refine XO.go [8] 2 [1,2,8,25] [] [(1, vi p2), (2, vs p3), (8, .one (.pt 0 0 0 0)), (25, vb (p2 == (7 : Int)))] [.box [ci r1.1.year, ci r1.1.month, ci r1.1.day, ci r1.1.hour, ci r1.1.minute, ci r1.1.second]] [] (by kernel_rfl) trivial ?_
      refine XO.done (by kernel_rfl) ?_
      refine hK14 _ _ ?_
      refine XW.cond (x := .tmp 25) (a := cd Try.f28 [1,1,1,1,0,1,0]) (b := cd Try.f28 [1,1,1,1,0,1,1]) (t := (p2 == (7 : Int))) (by kernel_rfl) (by kernel_rfl) (fun b15 => ?_) (fun b15 => ?_)
      · have h := ift_t b15 h
        refine XW.seq (x := cd Try.f28 [1,1,1,1,0,1,0,0]) (y := cd Try.f28 [1,1,1,1,0,1,0,1]) (by kernel_rfl) fun K16 hK16 => ?_
        obtain ⟨r3, c17, h⟩ := bnd_some h
        refine XW.reg (by kernel_rfl) ?_
        refine XO.go [8] 6 [1,2,8,27,29,31] [] [(1, vi p2), (2, vs p3), (8, .one (.pt 0 0 0 0)), (27, vi r1.1.year), (29, vi r1.1.month), (31, vi r1.1.day)] [.box [ci r1.1.year, ci r1.1.month, ci r1.1.day, ci r1.1.hour, ci r1.1.minute, ci r1.1.second]] [] (by kernel_rfl) trivial ?_
        refine XO.cal 63 [vi r1.1.year, vi r1.1.month, vi r1.1.day] (vi r3) [(32, vi r3), (1, vi p2), (2, vs p3), (8, .one (.pt 0 0 0 0)), (27, vi r1.1.year), (29, vi r1.1.month), (31, vi r1.1.day)] (by kernel_rfl) (c_ref1_Days _ _ _ _ c17) rfl rfl (by kernel_rfl) ?_
        refine XO.go [8] 1 [1,2,8,10] [] [(1, vi p2), (2, vs p3), (8, .one (.pt 0 0 0 0)), (10, vi r3)] [.box [ci r1.1.year, ci r1.1.month, ci r1.1.day, ci r1.1.hour, ci r1.1.minute, ci r1.1.second]] [] (by kernel_rfl) trivial ?_
        refine XO.done (by kernel_rfl) ?_
        refine hK16 _ _ ?_
        obtain ⟨r4, c18, h⟩ := bnd_some h
        obtain ⟨y1, y19, h⟩ := bnd_some h
        obtain ⟨r5, c20, h⟩ := bnd_some h
        refine XW.reg (by kernel_rfl) ?_
        refine XO.go [8] 2 [1,2,8,33,34] [] [(1, vi p2), (2, vs p3), (8, .one (.pt 0 0 0 0)), (33, vi r3), (34, vi r3)] [.box [ci r1.1.year, ci r1.1.month, ci r1.1.day, ci r1.1.hour, ci r1.1.minute, ci r1.1.second]] [] (by kernel_rfl) trivial ?_
        refine XO.cal 64 [vi r3] (vi r4) [(35, vi r4), (1, vi p2), (2, vs p3), (8, .one (.pt 0 0 0 0)), (33, vi r3), (34, vi r3)] (by kernel_rfl) (c_ref1_weekday _ _ c18) rfl rfl (by kernel_rfl) ?_
        refine XO.go [8] 3 [1,2,8,38] [] [(1, vi p2), (2, vs p3), (8, .one (.pt 0 0 0 0)), (38, vi (IntKind.i64.wrap ((86400 : Int) * (IntKind.i64.wrap ((IntKind.i64.wrap (r3 - r4)) + (1 : Int))))))] [.box [ci r1.1.year, ci r1.1.month, ci r1.1.day, ci r1.1.hour, ci r1.1.minute, ci r1.1.second]] [] (by kernel_rfl) trivial ?_
        rw [show (IntKind.i64.wrap ((86400 : Int) * (IntKind.i64.wrap ((IntKind.i64.wrap (r3 - r4)) + (1 : Int))))) = y1 from Option.some.inj y19]
        refine XO.cal 59 [vi y1] (.ag [ci r5.year, ci r5.month, ci r5.day, ci r5.hour, ci r5.minute, ci r5.second]) [(39, .ag [ci r5.year, ci r5.month, ci r5.day, ci r5.hour, ci r5.minute, ci r5.second]), (1, vi p2), (2, vs p3), (8, .one (.pt 0 0 0 0)), (38, vi y1)] (by kernel_rfl) (c_ref1_civil _ _ c20) rfl rfl (by kernel_rfl) ?_
        refine XO.go [8] 1 [1,2,8] [] [(1, vi p2), (2, vs p3), (8, .one (.pt 0 0 0 0))] [.box [ci r5.year, ci r5.month, ci r5.day, ci r5.hour, ci r5.minute, ci r5.second]] [] (by kernel_rfl) trivial ?_
        refine XO.done (by kernel_rfl) ?_
        exact hJ1 r5.year r5.month r5.day r5.hour r5.minute r5.second h _ _ (Sub.pick [1,2,8] (by kernel_rfl))
      · have h := ift_f b15 h
        refine XW.skip (by kernel_rfl) ?_
        exact hJ1 r1.1.year r1.1.month r1.1.day r1.1.hour r1.1.minute r1.1.second h _ _ (Sub.pick [1,2,8] (by kernel_rfl))


end Go.Proofs.Ytdkmclmdemngfaa
