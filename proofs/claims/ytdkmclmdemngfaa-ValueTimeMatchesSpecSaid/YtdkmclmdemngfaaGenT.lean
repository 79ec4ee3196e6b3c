/- Printed by a program: what the functions compute, and the proofs of their contracts. -/
import Derived.Test.YtdkmclmdemngfaaGenT2
namespace Go.Proofs.Ytdkmclmdemngfaa
open Go.SX Go
set_option linter.unusedVariables false
set_option linter.unusedSimpArgs false
set_option maxRecDepth 100000

def value_Months (p1 : Int) (p2 : Int) (p3 : ByteArray) : Option (Int × Int) :=
    bnd (value_Local p1 p3) fun r1 =>
    ift (r1.2 != (0 : Int))
      (some ((0 : Int), r1.2))
      (bnd (value_within p2 (-120012 : Int) (120012 : Int)) fun r2 =>
       ift (!r2)
         (some ((0 : Int), (3 : Int)))
         (bnd (some (IntKind.i64.wrap ((IntKind.i64.wrap (r1.1.year * (12 : Int))) + r1.1.month))) fun y1 =>
          bnd (value_floor (IntKind.i64.wrap ((IntKind.i64.wrap (y1 - (1 : Int))) + p2)) (12 : Int)) fun r3 =>
          bnd (value_daysIn r3.1 (IntKind.i64.wrap (r3.2 + (1 : Int)))) fun r4 =>
          bnd (value_Instant (GCivil.mk r3.1 (IntKind.i64.wrap (r3.2 + (1 : Int))) (if r4 < r1.1.day then r4 else r1.1.day) r1.1.hour r1.1.minute r1.1.second) p3) fun r5 =>
          some (r5.1, r5.2)))


theorem c_value_Months (p1 : Int) (p2 : Int) (p3 : ByteArray) (r : (Int × Int)) (h : value_Months p1 p2 p3 = some r) : PC Try.prog 29 [vi p1, vi p2, vs p3] (.tp [vi r.1, vi r.2]) := by
  unfold value_Months at h
  refine PC.of (n := 56) (fn := Try.f29) (c := cd Try.f29 []) (by kernel_rfl) (by kernel_rfl) (by kernel_rfl) (Nat.le_of_ble_eq_true rfl) ?_
  refine XW.seq (x := cd Try.f29 [0]) (y := cd Try.f29 [1]) (by kernel_rfl) fun K1 hK1 => ?_
  refine XW.reg (by kernel_rfl) ?_
  refine XO.go [8] 2 [0,1,2] [] [(0, vi p1), (1, vi p2), (2, vs p3)] [] [] (by kernel_rfl) trivial ?_
  refine XO.done (by kernel_rfl) ?_
  refine hK1 _ _ ?_
  refine XW.seq (x := cd Try.f29 [1,0]) (y := cd Try.f29 [1,1]) (by kernel_rfl) fun K2 hK2 => ?_
  obtain ⟨r1, c3, h⟩ := bnd_some h
  refine XW.reg (by kernel_rfl) ?_
  refine XO.go [8] 2 [1,2,13,14] [] [(1, vi p2), (2, vs p3), (13, vi p1), (14, vs p3)] [] [] (by kernel_rfl) trivial ?_
  refine XO.cal 18 [vi p1, vs p3] (.tp [.ag [ci r1.1.year, ci r1.1.month, ci r1.1.day, ci r1.1.hour, ci r1.1.minute, ci r1.1.second], vi r1.2]) [(15, .tp [.ag [ci r1.1.year, ci r1.1.month, ci r1.1.day, ci r1.1.hour, ci r1.1.minute, ci r1.1.second], vi r1.2]), (1, vi p2), (2, vs p3), (13, vi p1), (14, vs p3)] (by kernel_rfl) (c_value_Local _ _ _ c3) rfl rfl (by kernel_rfl) ?_
  refine XO.go [8] 6 [1,2,8,9] [] [(1, vi p2), (2, vs p3), (8, .one (.pt 0 0 0 0)), (9, vi r1.2)] [.box [ci r1.1.year, ci r1.1.month, ci r1.1.day, ci r1.1.hour, ci r1.1.minute, ci r1.1.second]] [] (by kernel_rfl) trivial ?_
  refine XO.done (by kernel_rfl) ?_
  refine hK2 _ _ ?_
  refine XW.seq (x := cd Try.f29 [1,1,0]) (y := cd Try.f29 [1,1,1]) (by kernel_rfl) fun K4 hK4 => ?_
  refine XW.seq (x := cd Try.f29 [1,1,0,0]) (y := cd Try.f29 [1,1,0,1]) (by kernel_rfl) fun K5 hK5 => ?_
  refine XW.reg (by kernel_rfl) ?_
  refine XO.go [8] 2 [1,2,8,9,19] [] [(1, vi p2), (2, vs p3), (8, .one (.pt 0 0 0 0)), (9, vi r1.2), (19, vb (r1.2 != (0 : Int)))] [.box [ci r1.1.year, ci r1.1.month, ci r1.1.day, ci r1.1.hour, ci r1.1.minute, ci r1.1.second]] [] (by kernel_rfl) trivial ?_
  refine XO.done (by kernel_rfl) ?_
  refine hK5 _ _ ?_
  refine XW.cond (x := .tmp 19) (a := cd Try.f29 [1,1,0,1,0]) (b := cd Try.f29 [1,1,0,1,1]) (t := (r1.2 != (0 : Int))) (by kernel_rfl) (by kernel_rfl) (fun b6 => ?_) (fun b6 => ?_)
  · have h := ift_t b6 h
    refine XW.seq (x := cd Try.f29 [1,1,0,1,0,0]) (y := cd Try.f29 [1,1,0,1,0,1]) (by kernel_rfl) fun K7 hK7 => ?_
    refine XW.reg (by kernel_rfl) ?_
    refine XO.go [8] 3 [6,7] [] [(6, vi (0 : Int)), (7, vi r1.2)] [.box [ci r1.1.year, ci r1.1.month, ci r1.1.day, ci r1.1.hour, ci r1.1.minute, ci r1.1.second]] [] (by kernel_rfl) trivial ?_
    refine XO.done (by kernel_rfl) ?_
    refine hK7 _ _ ?_
    refine XW.ret (by kernel_rfl) ?_
    obtain rfl := Option.some.inj h
    exact FinP.fin (.inr rfl) [] [vi (0 : Int), vi r1.2] [] (by kernel_rfl) trivial (.tpc (.one (.rfl _ rfl)) (.tpc (.one (.rfl _ rfl)) (.tp0)))
  · have h := ift_f b6 h
    refine XW.skip (by kernel_rfl) ?_
    refine hK4 _ _ ?_
    refine XW.seq (x := cd Try.f29 [1,1,1,0]) (y := cd Try.f29 [1,1,1,1]) (by kernel_rfl) fun K8 hK8 => ?_
    refine XW.seq (x := cd Try.f29 [1,1,1,0,0]) (y := cd Try.f29 [1,1,1,0,1]) (by kernel_rfl) fun K9 hK9 => ?_
    obtain ⟨r2, c10, h⟩ := bnd_some h
    refine XW.reg (by kernel_rfl) ?_
    refine XO.go [8] 1 [1,2,8,21] [] [(1, vi p2), (2, vs p3), (8, .one (.pt 0 0 0 0)), (21, vi p2)] [.box [ci r1.1.year, ci r1.1.month, ci r1.1.day, ci r1.1.hour, ci r1.1.minute, ci r1.1.second]] [] (by kernel_rfl) trivial ?_
    refine XO.cal 42 [vi p2, vi (-120012 : Int), vi (120012 : Int)] (vb r2) [(22, vb r2), (1, vi p2), (2, vs p3), (8, .one (.pt 0 0 0 0)), (21, vi p2)] (by kernel_rfl) (c_value_within _ _ _ _ c10) rfl rfl (by kernel_rfl) ?_
    refine XO.go [8] 1 [1,2,8,23] [] [(1, vi p2), (2, vs p3), (8, .one (.pt 0 0 0 0)), (23, vb (!r2))] [.box [ci r1.1.year, ci r1.1.month, ci r1.1.day, ci r1.1.hour, ci r1.1.minute, ci r1.1.second]] [] (by kernel_rfl) trivial ?_
    refine XO.done (by kernel_rfl) ?_
    refine hK9 _ _ ?_
    refine XW.cond (x := .tmp 23) (a := cd Try.f29 [1,1,1,0,1,0]) (b := cd Try.f29 [1,1,1,0,1,1]) (t := (!r2)) (by kernel_rfl) (by kernel_rfl) (fun b11 => ?_) (fun b11 => ?_)
    · have h := ift_t b11 h
      refine XW.seq (x := cd Try.f29 [1,1,1,0,1,0,0]) (y := cd Try.f29 [1,1,1,0,1,0,1]) (by kernel_rfl) fun K12 hK12 => ?_
      refine XW.reg (by kernel_rfl) ?_
      refine XO.go [8] 2 [6,7] [] [(6, vi (0 : Int)), (7, vi (3 : Int))] [.box [ci r1.1.year, ci r1.1.month, ci r1.1.day, ci r1.1.hour, ci r1.1.minute, ci r1.1.second]] [] (by kernel_rfl) trivial ?_
      refine XO.done (by kernel_rfl) ?_
      refine hK12 _ _ ?_
      refine XW.ret (by kernel_rfl) ?_
      obtain rfl := Option.some.inj h
      exact FinP.fin (.inr rfl) [] [vi (0 : Int), vi (3 : Int)] [] (by kernel_rfl) trivial (.tpc (.one (.rfl _ rfl)) (.tpc (.one (.rfl _ rfl)) (.tp0)))
    · have h := ift_f b11 h
      refine XW.skip (by kernel_rfl) ?_
      refine hK8 _ _ ?_
      refine XW.seq (x := cd Try.f29 [1,1,1,1,0]) (y := cd Try.f29 [1,1,1,1,1]) (by kernel_rfl) fun K13 hK13 => ?_
      obtain ⟨y1, y14, h⟩ := bnd_some h
      obtain ⟨r3, c15, h⟩ := bnd_some h
      refine XW.reg (by kernel_rfl) ?_
      refine XO.go [8] 6 [1,2,8,30] [] [(1, vi p2), (2, vs p3), (8, .one (.pt 0 0 0 0)), (30, vi (IntKind.i64.wrap ((IntKind.i64.wrap (r1.1.year * (12 : Int))) + r1.1.month)))] [.box [ci r1.1.year, ci r1.1.month, ci r1.1.day, ci r1.1.hour, ci r1.1.minute, ci r1.1.second]] [] (by kernel_rfl) trivial ?_
      rw [show (IntKind.i64.wrap ((IntKind.i64.wrap (r1.1.year * (12 : Int))) + r1.1.month)) = y1 from Option.some.inj y14]
      refine XO.go [8] 3 [2,8,33] [] [(2, vs p3), (8, .one (.pt 0 0 0 0)), (33, vi (IntKind.i64.wrap ((IntKind.i64.wrap (y1 - (1 : Int))) + p2)))] [.box [ci r1.1.year, ci r1.1.month, ci r1.1.day, ci r1.1.hour, ci r1.1.minute, ci r1.1.second]] [] (by kernel_rfl) trivial ?_
      refine XO.cal 66 [vi (IntKind.i64.wrap ((IntKind.i64.wrap (y1 - (1 : Int))) + p2)), vi (12 : Int)] (.tp [vi r3.1, vi r3.2]) [(34, .tp [vi r3.1, vi r3.2]), (2, vs p3), (8, .one (.pt 0 0 0 0)), (33, vi (IntKind.i64.wrap ((IntKind.i64.wrap (y1 - (1 : Int))) + p2)))] (by kernel_rfl) (c_value_floor _ _ _ c15) rfl rfl (by kernel_rfl) ?_
      refine XO.go [8] 5 [2,8,10,11] [] [(2, vs p3), (8, .one (.pt 0 0 0 0)), (10, vi r3.1), (11, vi r3.2)] [.box [ci r1.1.year, ci r1.1.month, ci r1.1.day, ci r1.1.hour, ci r1.1.minute, ci r1.1.second]] [] (by kernel_rfl) trivial ?_
      refine XO.done (by kernel_rfl) ?_
      refine hK13 _ _ ?_
      refine XW.seq (x := cd Try.f29 [1,1,1,1,1,0]) (y := cd Try.f29 [1,1,1,1,1,1]) (by kernel_rfl) fun K16 hK16 => ?_
      refine XW.reg (by kernel_rfl) ?_
      refine XO.go [8] 7 [2,8] [] [(2, vs p3), (8, .one (.pt 0 0 0 0))] [.box [ci r3.1, ci (IntKind.i64.wrap (r3.2 + (1 : Int))), ci r1.1.day, ci r1.1.hour, ci r1.1.minute, ci r1.1.second]] [] (by kernel_rfl) trivial ?_
      refine XO.done (by kernel_rfl) ?_
      refine hK16 _ _ ?_
      refine XW.seq (x := cd Try.f29 [1,1,1,1,1,1,0]) (y := cd Try.f29 [1,1,1,1,1,1,1]) (by kernel_rfl) fun K17 hK17 => ?_
      obtain ⟨r4, c18, h⟩ := bnd_some h
      refine XW.drwS 7 [(48, vi r4), (47, vi (IntKind.i64.wrap (r3.2 + (1 : Int)))), (46, .one (.pt 0 0 0 1)), (45, vi r3.1), (44, .one (.pt 0 0 0 0)), (43, vi r1.1.day), (42, .one (.pt 0 0 0 2)), (2, vs p3), (8, .one (.pt 0 0 0 0))] (by kernel_rfl) (by kernel_rfl) ?_ ?_
      · refine DX.go 6 [] [(47, vi (IntKind.i64.wrap (r3.2 + (1 : Int)))), (46, .one (.pt 0 0 0 1)), (45, vi r3.1), (44, .one (.pt 0 0 0 0)), (43, vi r1.1.day), (42, .one (.pt 0 0 0 2)), (2, vs p3), (8, .one (.pt 0 0 0 0))] [] (by kernel_rfl) trivial ?_
        refine DX.cal 67 [vi r3.1, vi (IntKind.i64.wrap (r3.2 + (1 : Int)))] (vi r4) [(48, vi r4), (47, vi (IntKind.i64.wrap (r3.2 + (1 : Int)))), (46, .one (.pt 0 0 0 1)), (45, vi r3.1), (44, .one (.pt 0 0 0 0)), (43, vi r1.1.day), (42, .one (.pt 0 0 0 2)), (2, vs p3), (8, .one (.pt 0 0 0 0))] (by kernel_rfl) (c_value_daysIn _ _ _ c18) rfl rfl (by kernel_rfl) ?_
        exact DX.done (by kernel_rfl)
      refine XO.go [8] 3 [2,8] [] [(2, vs p3), (8, .one (.pt 0 0 0 0))] [.box [ci r3.1, ci (IntKind.i64.wrap (r3.2 + (1 : Int))), ci (if r4 < r1.1.day then r4 else r1.1.day), ci r1.1.hour, ci r1.1.minute, ci r1.1.second]] [] (by kernel_rfl) trivial ?_
      refine XO.done (by kernel_rfl) ?_
      refine hK17 _ _ ?_
      refine XW.seq (x := cd Try.f29 [1,1,1,1,1,1,1,0]) (y := cd Try.f29 [1,1,1,1,1,1,1,1]) (by kernel_rfl) fun K19 hK19 => ?_
      obtain ⟨r5, c20, h⟩ := bnd_some h
      refine XW.reg (by kernel_rfl) ?_
      refine XO.go [8] 2 [51,52] [] [(51, .ag [ci r3.1, ci (IntKind.i64.wrap (r3.2 + (1 : Int))), ci (if r4 < r1.1.day then r4 else r1.1.day), ci r1.1.hour, ci r1.1.minute, ci r1.1.second]), (52, vs p3)] [.box [ci r3.1, ci (IntKind.i64.wrap (r3.2 + (1 : Int))), ci (if r4 < r1.1.day then r4 else r1.1.day), ci r1.1.hour, ci r1.1.minute, ci r1.1.second]] [] (by kernel_rfl) trivial ?_
      refine XO.cal 19 [.ag [ci r3.1, ci (IntKind.i64.wrap (r3.2 + (1 : Int))), ci (if r4 < r1.1.day then r4 else r1.1.day), ci r1.1.hour, ci r1.1.minute, ci r1.1.second], vs p3] (.tp [vi r5.1, vi r5.2]) [(53, .tp [vi r5.1, vi r5.2]), (51, .ag [ci r3.1, ci (IntKind.i64.wrap (r3.2 + (1 : Int))), ci (if r4 < r1.1.day then r4 else r1.1.day), ci r1.1.hour, ci r1.1.minute, ci r1.1.second]), (52, vs p3)] (by kernel_rfl) (c_value_Instant _ _ _ c20) rfl rfl (by kernel_rfl) ?_
      refine XO.go [8] 4 [6,7] [] [(6, vi r5.1), (7, vi r5.2)] [.box [ci r3.1, ci (IntKind.i64.wrap (r3.2 + (1 : Int))), ci (if r4 < r1.1.day then r4 else r1.1.day), ci r1.1.hour, ci r1.1.minute, ci r1.1.second]] [] (by kernel_rfl) trivial ?_
      refine XO.done (by kernel_rfl) ?_
      refine hK19 _ _ ?_
      refine XW.ret (by kernel_rfl) ?_
      obtain rfl := Option.some.inj h
      exact FinP.fin (.inr rfl) [] [vi r5.1, vi r5.2] [] (by kernel_rfl) trivial (.tpc (.one (.rfl _ rfl)) (.tpc (.one (.rfl _ rfl)) (.tp0)))

def ref1_Months_j1 (p3 : ByteArray) (r1 : (GCivil × Int)) (r3 : Int) (y2 : Int) (b1 : Int) : Option (Int × Int) :=
    bnd (ref1_Instant (GCivil.mk r3 (IntKind.i64.wrap (y2 + (1 : Int))) b1 r1.1.hour r1.1.minute r1.1.second) p3) fun r7 =>
    some (r7.1, r7.2)

def ref1_Months (p1 : Int) (p2 : Int) (p3 : ByteArray) : Option (Int × Int) :=
    bnd (ref1_Local p1 p3) fun r1 =>
    ift (r1.2 != (0 : Int))
      (some ((0 : Int), r1.2))
      (bnd (ref1_within p2 (-200000 : Int) (200000 : Int)) fun r2 =>
       ift (!r2)
         (some ((0 : Int), (3 : Int)))
         (bnd (some (IntKind.i64.wrap ((IntKind.i64.wrap ((12 : Int) * r1.1.year)) + r1.1.month))) fun y1 =>
          bnd (ref1_floor (IntKind.i64.wrap ((IntKind.i64.wrap (y1 - (1 : Int))) + p2)) (12 : Int)) fun r3 =>
          bnd (ref1_floor (IntKind.i64.wrap ((IntKind.i64.wrap (y1 - (1 : Int))) + p2)) (12 : Int)) fun r4 =>
          bnd (some (IntKind.i64.wrap ((IntKind.i64.wrap ((IntKind.i64.wrap (y1 - (1 : Int))) + p2)) - (IntKind.i64.wrap ((12 : Int) * r4))))) fun y2 =>
          bnd (ref1_within r3 (1 : Int) (9999 : Int)) fun r5 =>
          ift (!r5)
            (some ((0 : Int), (3 : Int)))
            (bnd (ref1_MonthDays r3 (IntKind.i64.wrap (y2 + (1 : Int)))) fun r6 =>
             ift (decide (r6 < r1.1.day))
               (ref1_Months_j1 p3 r1 r3 y2 r6)
               (ref1_Months_j1 p3 r1 r3 y2 r1.1.day))))


theorem c_ref1_Months (p1 : Int) (p2 : Int) (p3 : ByteArray) (r : (Int × Int)) (h : ref1_Months p1 p2 p3 = some r) : PC Try.prog 30 [vi p1, vi p2, vs p3] (.tp [vi r.1, vi r.2]) := by
  unfold ref1_Months at h
  refine PC.of (n := 63) (fn := Try.f30) (c := cd Try.f30 []) (by kernel_rfl) (by kernel_rfl) (by kernel_rfl) (Nat.le_of_ble_eq_true rfl) ?_
  refine XW.seq (x := cd Try.f30 [0]) (y := cd Try.f30 [1]) (by kernel_rfl) fun K1 hK1 => ?_
  refine XW.reg (by kernel_rfl) ?_
  refine XO.go [8] 2 [0,1,2] [] [(0, vi p1), (1, vi p2), (2, vs p3)] [] [] (by kernel_rfl) trivial ?_
  refine XO.done (by kernel_rfl) ?_
  refine hK1 _ _ ?_
  refine XW.seq (x := cd Try.f30 [1,0]) (y := cd Try.f30 [1,1]) (by kernel_rfl) fun K2 hK2 => ?_
  obtain ⟨r1, c3, h⟩ := bnd_some h
  refine XW.reg (by kernel_rfl) ?_
  refine XO.go [8] 2 [1,2,13,14] [] [(1, vi p2), (2, vs p3), (13, vi p1), (14, vs p3)] [] [] (by kernel_rfl) trivial ?_
  refine XO.cal 24 [vi p1, vs p3] (.tp [.ag [ci r1.1.year, ci r1.1.month, ci r1.1.day, ci r1.1.hour, ci r1.1.minute, ci r1.1.second], vi r1.2]) [(15, .tp [.ag [ci r1.1.year, ci r1.1.month, ci r1.1.day, ci r1.1.hour, ci r1.1.minute, ci r1.1.second], vi r1.2]), (1, vi p2), (2, vs p3), (13, vi p1), (14, vs p3)] (by kernel_rfl) (c_ref1_Local _ _ _ c3) rfl rfl (by kernel_rfl) ?_
  refine XO.go [8] 6 [1,2,8,9] [] [(1, vi p2), (2, vs p3), (8, .one (.pt 0 0 0 0)), (9, vi r1.2)] [.box [ci r1.1.year, ci r1.1.month, ci r1.1.day, ci r1.1.hour, ci r1.1.minute, ci r1.1.second]] [] (by kernel_rfl) trivial ?_
  refine XO.done (by kernel_rfl) ?_
  refine hK2 _ _ ?_
  refine XW.seq (x := cd Try.f30 [1,1,0]) (y := cd Try.f30 [1,1,1]) (by kernel_rfl) fun K4 hK4 => ?_
  refine XW.seq (x := cd Try.f30 [1,1,0,0]) (y := cd Try.f30 [1,1,0,1]) (by kernel_rfl) fun K5 hK5 => ?_
  refine XW.reg (by kernel_rfl) ?_
  refine XO.go [8] 2 [1,2,8,9,19] [] [(1, vi p2), (2, vs p3), (8, .one (.pt 0 0 0 0)), (9, vi r1.2), (19, vb (r1.2 != (0 : Int)))] [.box [ci r1.1.year, ci r1.1.month, ci r1.1.day, ci r1.1.hour, ci r1.1.minute, ci r1.1.second]] [] (by kernel_rfl) trivial ?_
  refine XO.done (by kernel_rfl) ?_
  refine hK5 _ _ ?_
  refine XW.cond (x := .tmp 19) (a := cd Try.f30 [1,1,0,1,0]) (b := cd Try.f30 [1,1,0,1,1]) (t := (r1.2 != (0 : Int))) (by kernel_rfl) (by kernel_rfl) (fun b6 => ?_) (fun b6 => ?_)
  · have h := ift_t b6 h
    refine XW.seq (x := cd Try.f30 [1,1,0,1,0,0]) (y := cd Try.f30 [1,1,0,1,0,1]) (by kernel_rfl) fun K7 hK7 => ?_
    refine XW.reg (by kernel_rfl) ?_
    refine XO.go [8] 3 [6,7] [] [(6, vi (0 : Int)), (7, vi r1.2)] [.box [ci r1.1.year, ci r1.1.month, ci r1.1.day, ci r1.1.hour, ci r1.1.minute, ci r1.1.second]] [] (by kernel_rfl) trivial ?_
    refine XO.done (by kernel_rfl) ?_
    refine hK7 _ _ ?_
    refine XW.ret (by kernel_rfl) ?_
    obtain rfl := Option.some.inj h
    exact FinP.fin (.inr rfl) [] [vi (0 : Int), vi r1.2] [] (by kernel_rfl) trivial (.tpc (.one (.rfl _ rfl)) (.tpc (.one (.rfl _ rfl)) (.tp0)))
  · have h := ift_f b6 h
    refine XW.skip (by kernel_rfl) ?_
    refine hK4 _ _ ?_
    refine XW.seq (x := cd Try.f30 [1,1,1,0]) (y := cd Try.f30 [1,1,1,1]) (by kernel_rfl) fun K8 hK8 => ?_
    refine XW.seq (x := cd Try.f30 [1,1,1,0,0]) (y := cd Try.f30 [1,1,1,0,1]) (by kernel_rfl) fun K9 hK9 => ?_
    obtain ⟨r2, c10, h⟩ := bnd_some h
    refine XW.reg (by kernel_rfl) ?_
    refine XO.go [8] 1 [1,2,8,21] [] [(1, vi p2), (2, vs p3), (8, .one (.pt 0 0 0 0)), (21, vi p2)] [.box [ci r1.1.year, ci r1.1.month, ci r1.1.day, ci r1.1.hour, ci r1.1.minute, ci r1.1.second]] [] (by kernel_rfl) trivial ?_
    refine XO.cal 58 [vi p2, vi (-200000 : Int), vi (200000 : Int)] (vb r2) [(22, vb r2), (1, vi p2), (2, vs p3), (8, .one (.pt 0 0 0 0)), (21, vi p2)] (by kernel_rfl) (c_ref1_within _ _ _ _ c10) rfl rfl (by kernel_rfl) ?_
    refine XO.go [8] 1 [1,2,8,23] [] [(1, vi p2), (2, vs p3), (8, .one (.pt 0 0 0 0)), (23, vb (!r2))] [.box [ci r1.1.year, ci r1.1.month, ci r1.1.day, ci r1.1.hour, ci r1.1.minute, ci r1.1.second]] [] (by kernel_rfl) trivial ?_
    refine XO.done (by kernel_rfl) ?_
    refine hK9 _ _ ?_
    refine XW.cond (x := .tmp 23) (a := cd Try.f30 [1,1,1,0,1,0]) (b := cd Try.f30 [1,1,1,0,1,1]) (t := (!r2)) (by kernel_rfl) (by kernel_rfl) (fun b11 => ?_) (fun b11 => ?_)
    · have h := ift_t b11 h
      refine XW.seq (x := cd Try.f30 [1,1,1,0,1,0,0]) (y := cd Try.f30 [1,1,1,0,1,0,1]) (by kernel_rfl) fun K12 hK12 => ?_
      refine XW.reg (by kernel_rfl) ?_
      refine XO.go [8] 2 [6,7] [] [(6, vi (0 : Int)), (7, vi (3 : Int))] [.box [ci r1.1.year, ci r1.1.month, ci r1.1.day, ci r1.1.hour, ci r1.1.minute, ci r1.1.second]] [] (by kernel_rfl) trivial ?_
      refine XO.done (by kernel_rfl) ?_
      refine hK12 _ _ ?_
      refine XW.ret (by kernel_rfl) ?_
      obtain rfl := Option.some.inj h
      exact FinP.fin (.inr rfl) [] [vi (0 : Int), vi (3 : Int)] [] (by kernel_rfl) trivial (.tpc (.one (.rfl _ rfl)) (.tpc (.one (.rfl _ rfl)) (.tp0)))
    · have h := ift_f b11 h
      refine XW.skip (by kernel_rfl) ?_
      refine hK8 _ _ ?_
      refine XW.seq (x := cd Try.f30 [1,1,1,1,0]) (y := cd Try.f30 [1,1,1,1,1]) (by kernel_rfl) fun K13 hK13 => ?_
      obtain ⟨y1, y14, h⟩ := bnd_some h
      refine XW.reg (by kernel_rfl) ?_
      refine XO.go [8] 6 [1,2,8,29] [] [(1, vi p2), (2, vs p3), (8, .one (.pt 0 0 0 0)), (29, vi (IntKind.i64.wrap ((IntKind.i64.wrap ((12 : Int) * r1.1.year)) + r1.1.month)))] [.box [ci r1.1.year, ci r1.1.month, ci r1.1.day, ci r1.1.hour, ci r1.1.minute, ci r1.1.second]] [] (by kernel_rfl) trivial ?_
      rw [show (IntKind.i64.wrap ((IntKind.i64.wrap ((12 : Int) * r1.1.year)) + r1.1.month)) = y1 from Option.some.inj y14]
      refine XO.go [8] 4 [2,8,10] [] [(2, vs p3), (8, .one (.pt 0 0 0 0)), (10, vi (IntKind.i64.wrap ((IntKind.i64.wrap (y1 - (1 : Int))) + p2)))] [.box [ci r1.1.year, ci r1.1.month, ci r1.1.day, ci r1.1.hour, ci r1.1.minute, ci r1.1.second]] [] (by kernel_rfl) trivial ?_
      refine XO.done (by kernel_rfl) ?_
      refine hK13 _ _ ?_
      refine XW.seq (x := cd Try.f30 [1,1,1,1,1,0]) (y := cd Try.f30 [1,1,1,1,1,1]) (by kernel_rfl) fun K15 hK15 => ?_
      obtain ⟨r3, c16, h⟩ := bnd_some h
      obtain ⟨r4, c17, h⟩ := bnd_some h
      obtain ⟨y2, y18, h⟩ := bnd_some h
      refine XW.reg (by kernel_rfl) ?_
      refine XO.go [8] 1 [2,8,10,33] [] [(2, vs p3), (8, .one (.pt 0 0 0 0)), (10, vi (IntKind.i64.wrap ((IntKind.i64.wrap (y1 - (1 : Int))) + p2))), (33, vi (IntKind.i64.wrap ((IntKind.i64.wrap (y1 - (1 : Int))) + p2)))] [.box [ci r1.1.year, ci r1.1.month, ci r1.1.day, ci r1.1.hour, ci r1.1.minute, ci r1.1.second]] [] (by kernel_rfl) trivial ?_
      refine XO.cal 68 [vi (IntKind.i64.wrap ((IntKind.i64.wrap (y1 - (1 : Int))) + p2)), vi (12 : Int)] (vi r3) [(34, vi r3), (2, vs p3), (8, .one (.pt 0 0 0 0)), (10, vi (IntKind.i64.wrap ((IntKind.i64.wrap (y1 - (1 : Int))) + p2))), (33, vi (IntKind.i64.wrap ((IntKind.i64.wrap (y1 - (1 : Int))) + p2)))] (by kernel_rfl) (c_ref1_floor _ _ _ c16) rfl rfl (by kernel_rfl) ?_
      refine XO.go [8] 2 [2,8,34,35,36] [] [(2, vs p3), (8, .one (.pt 0 0 0 0)), (34, vi r3), (35, vi (IntKind.i64.wrap ((IntKind.i64.wrap (y1 - (1 : Int))) + p2))), (36, vi (IntKind.i64.wrap ((IntKind.i64.wrap (y1 - (1 : Int))) + p2)))] [.box [ci r1.1.year, ci r1.1.month, ci r1.1.day, ci r1.1.hour, ci r1.1.minute, ci r1.1.second]] [] (by kernel_rfl) trivial ?_
      refine XO.cal 68 [vi (IntKind.i64.wrap ((IntKind.i64.wrap (y1 - (1 : Int))) + p2)), vi (12 : Int)] (vi r4) [(37, vi r4), (2, vs p3), (8, .one (.pt 0 0 0 0)), (34, vi r3), (35, vi (IntKind.i64.wrap ((IntKind.i64.wrap (y1 - (1 : Int))) + p2))), (36, vi (IntKind.i64.wrap ((IntKind.i64.wrap (y1 - (1 : Int))) + p2)))] (by kernel_rfl) (c_ref1_floor _ _ _ c17) rfl rfl (by kernel_rfl) ?_
      refine XO.go [8] 2 [2,8,34,39] [] [(2, vs p3), (8, .one (.pt 0 0 0 0)), (34, vi r3), (39, vi (IntKind.i64.wrap ((IntKind.i64.wrap ((IntKind.i64.wrap (y1 - (1 : Int))) + p2)) - (IntKind.i64.wrap ((12 : Int) * r4)))))] [.box [ci r1.1.year, ci r1.1.month, ci r1.1.day, ci r1.1.hour, ci r1.1.minute, ci r1.1.second]] [] (by kernel_rfl) trivial ?_
      rw [show (IntKind.i64.wrap ((IntKind.i64.wrap ((IntKind.i64.wrap (y1 - (1 : Int))) + p2)) - (IntKind.i64.wrap ((12 : Int) * r4)))) = y2 from Option.some.inj y18]
      refine XO.go [8] 5 [2,8] [] [(2, vs p3), (8, .one (.pt 0 0 0 0))] [.box [ci r3, ci (IntKind.i64.wrap (y2 + (1 : Int))), ci r1.1.day, ci r1.1.hour, ci r1.1.minute, ci r1.1.second]] [] (by kernel_rfl) trivial ?_
      refine XO.done (by kernel_rfl) ?_
      refine hK15 _ _ ?_
      refine XW.seq (x := cd Try.f30 [1,1,1,1,1,1,0]) (y := cd Try.f30 [1,1,1,1,1,1,1]) (by kernel_rfl) fun K19 hK19 => ?_
      refine XW.seq (x := cd Try.f30 [1,1,1,1,1,1,0,0]) (y := cd Try.f30 [1,1,1,1,1,1,0,1]) (by kernel_rfl) fun K20 hK20 => ?_
      obtain ⟨r5, c21, h⟩ := bnd_some h
      refine XW.reg (by kernel_rfl) ?_
      refine XO.go [8] 2 [2,8,44] [] [(2, vs p3), (8, .one (.pt 0 0 0 0)), (44, vi r3)] [.box [ci r3, ci (IntKind.i64.wrap (y2 + (1 : Int))), ci r1.1.day, ci r1.1.hour, ci r1.1.minute, ci r1.1.second]] [] (by kernel_rfl) trivial ?_
      refine XO.cal 58 [vi r3, vi (1 : Int), vi (9999 : Int)] (vb r5) [(45, vb r5), (2, vs p3), (8, .one (.pt 0 0 0 0)), (44, vi r3)] (by kernel_rfl) (c_ref1_within _ _ _ _ c21) rfl rfl (by kernel_rfl) ?_
      refine XO.go [8] 1 [2,8,46] [] [(2, vs p3), (8, .one (.pt 0 0 0 0)), (46, vb (!r5))] [.box [ci r3, ci (IntKind.i64.wrap (y2 + (1 : Int))), ci r1.1.day, ci r1.1.hour, ci r1.1.minute, ci r1.1.second]] [] (by kernel_rfl) trivial ?_
      refine XO.done (by kernel_rfl) ?_
      refine hK20 _ _ ?_
      refine XW.cond (x := .tmp 46) (a := cd Try.f30 [1,1,1,1,1,1,0,1,0]) (b := cd Try.f30 [1,1,1,1,1,1,0,1,1]) (t := (!r5)) (by kernel_rfl) (by kernel_rfl) (fun b22 => ?_) (fun b22 => ?_)
      · have h := ift_t b22 h
        refine XW.seq (x := cd Try.f30 [1,1,1,1,1,1,0,1,0,0]) (y := cd Try.f30 [1,1,1,1,1,1,0,1,0,1]) (by kernel_rfl) fun K23 hK23 => ?_
        refine XW.reg (by kernel_rfl) ?_
        refine XO.go [8] 2 [6,7] [] [(6, vi (0 : Int)), (7, vi (3 : Int))] [.box [ci r3, ci (IntKind.i64.wrap (y2 + (1 : Int))), ci r1.1.day, ci r1.1.hour, ci r1.1.minute, ci r1.1.second]] [] (by kernel_rfl) trivial ?_
        refine XO.done (by kernel_rfl) ?_
        refine hK23 _ _ ?_
        refine XW.ret (by kernel_rfl) ?_
        obtain rfl := Option.some.inj h
        exact FinP.fin (.inr rfl) [] [vi (0 : Int), vi (3 : Int)] [] (by kernel_rfl) trivial (.tpc (.one (.rfl _ rfl)) (.tpc (.one (.rfl _ rfl)) (.tp0)))
      · have h := ift_f b22 h
        refine XW.skip (by kernel_rfl) ?_
        refine hK19 _ _ ?_
        refine XW.seq (x := cd Try.f30 [1,1,1,1,1,1,1,0]) (y := cd Try.f30 [1,1,1,1,1,1,1,1]) (by kernel_rfl) fun K24 hK24 => ?_
        have hJ1 : ∀ (b1 : Int), ref1_Months_j1 p3 r1 r3 y2 b1 = some r → ∀ fr1 st1, Sub 63 0 [] fr1 st1 [(2, vs p3), (8, .one (.pt 0 0 0 0))] [.box [ci r3, ci (IntKind.i64.wrap (y2 + (1 : Int))), ci b1, ci r1.1.hour, ci r1.1.minute, ci r1.1.second]] → K24 fr1 st1 := by
          intro b1 h fr1 st1 hS
          unfold ref1_Months_j1 at h
          refine hK24 _ _ (XW.sub hS ?_)
          refine XW.seq (x := cd Try.f30 [1,1,1,1,1,1,1,1,0]) (y := cd Try.f30 [1,1,1,1,1,1,1,1,1]) (by kernel_rfl) fun K29 hK29 => ?_
          obtain ⟨r7, c30, h⟩ := bnd_some h
          refine XW.reg (by kernel_rfl) ?_
          refine XO.go [8] 2 [58,59] [] [(58, .ag [ci r3, ci (IntKind.i64.wrap (y2 + (1 : Int))), ci b1, ci r1.1.hour, ci r1.1.minute, ci r1.1.second]), (59, vs p3)] [.box [ci r3, ci (IntKind.i64.wrap (y2 + (1 : Int))), ci b1, ci r1.1.hour, ci r1.1.minute, ci r1.1.second]] [] (by kernel_rfl) trivial ?_
          refine XO.cal 25 [.ag [ci r3, ci (IntKind.i64.wrap (y2 + (1 : Int))), ci b1, ci r1.1.hour, ci r1.1.minute, ci r1.1.second], vs p3] (.tp [vi r7.1, vi r7.2]) [(60, .tp [vi r7.1, vi r7.2]), (58, .ag [ci r3, ci (IntKind.i64.wrap (y2 + (1 : Int))), ci b1, ci r1.1.hour, ci r1.1.minute, ci r1.1.second]), (59, vs p3)] (by kernel_rfl) (c_ref1_Instant _ _ _ c30) rfl rfl (by kernel_rfl) ?_
          refine XO.go [8] 4 [6,7] [] [(6, vi r7.1), (7, vi r7.2)] [.box [ci r3, ci (IntKind.i64.wrap (y2 + (1 : Int))), ci b1, ci r1.1.hour, ci r1.1.minute, ci r1.1.second]] [] (by kernel_rfl) trivial ?_
          refine XO.done (by kernel_rfl) ?_
          refine hK29 _ _ ?_
          refine XW.ret (by kernel_rfl) ?_
          obtain rfl := Option.some.inj h
          exact FinP.fin (.inr rfl) [] [vi r7.1, vi r7.2] [] (by kernel_rfl) trivial (.tpc (.one (.rfl _ rfl)) (.tpc (.one (.rfl _ rfl)) (.tp0)))
        refine XW.seq (x := cd Try.f30 [1,1,1,1,1,1,1,0,0]) (y := cd Try.f30 [1,1,1,1,1,1,1,0,1]) (by kernel_rfl) fun K25 hK25 => ?_
        obtain ⟨r6, c26, h⟩ := bnd_some h
        refine XW.reg (by kernel_rfl) ?_
        refine XO.go [8] 4 [2,8,48,50] [] [(2, vs p3), (8, .one (.pt 0 0 0 0)), (48, vi r3), (50, vi (IntKind.i64.wrap (y2 + (1 : Int))))] [.box [ci r3, ci (IntKind.i64.wrap (y2 + (1 : Int))), ci r1.1.day, ci r1.1.hour, ci r1.1.minute, ci r1.1.second]] [] (by kernel_rfl) trivial ?_
        refine XO.cal 69 [vi r3, vi (IntKind.i64.wrap (y2 + (1 : Int)))] (vi r6) [(51, vi r6), (2, vs p3), (8, .one (.pt 0 0 0 0)), (48, vi r3), (50, vi (IntKind.i64.wrap (y2 + (1 : Int))))] (by kernel_rfl) (c_ref1_MonthDays _ _ _ c26) rfl rfl (by kernel_rfl) ?_
        refine XO.go [8] 1 [2,8,11] [] [(2, vs p3), (8, .one (.pt 0 0 0 0)), (11, vi r6)] [.box [ci r3, ci (IntKind.i64.wrap (y2 + (1 : Int))), ci r1.1.day, ci r1.1.hour, ci r1.1.minute, ci r1.1.second]] [] (by kernel_rfl) trivial ?_
        refine XO.done (by kernel_rfl) ?_
        refine hK25 _ _ ?_
        refine XW.seq (x := cd Try.f30 [1,1,1,1,1,1,1,0,1,0]) (y := cd Try.f30 [1,1,1,1,1,1,1,0,1,1]) (by kernel_rfl) fun K27 hK27 => ?_
        refine XW.reg (by kernel_rfl) ?_
        refine XO.go [8] 4 [2,8,11,55] [] [(2, vs p3), (8, .one (.pt 0 0 0 0)), (11, vi r6), (55, vb (decide (r6 < r1.1.day)))] [.box [ci r3, ci (IntKind.i64.wrap (y2 + (1 : Int))), ci r1.1.day, ci r1.1.hour, ci r1.1.minute, ci r1.1.second]] [] (by kernel_rfl) trivial ?_
        refine XO.done (by kernel_rfl) ?_
        refine hK27 _ _ ?_
        refine XW.cond (x := .tmp 55) (a := cd Try.f30 [1,1,1,1,1,1,1,0,1,1,0]) (b := cd Try.f30 [1,1,1,1,1,1,1,0,1,1,1]) (t := (decide (r6 < r1.1.day))) (by kernel_rfl) (by kernel_rfl) (fun b28 => ?_) (fun b28 => ?_)
        · have h := ift_t b28 h
          refine XW.reg (by kernel_rfl) ?_
          refine XO.go [8] 3 [2,8] [] [(2, vs p3), (8, .one (.pt 0 0 0 0))] [.box [ci r3, ci (IntKind.i64.wrap (y2 + (1 : Int))), ci r6, ci r1.1.hour, ci r1.1.minute, ci r1.1.second]] [] (by kernel_rfl) trivial ?_
          refine XO.done (by kernel_rfl) ?_
          exact hJ1 r6 h _ _ (Sub.pick [2,8] (by kernel_rfl))
        · have h := ift_f b28 h
          refine XW.skip (by kernel_rfl) ?_
          exact hJ1 r1.1.day h _ _ (Sub.pick [2,8] (by kernel_rfl))

def law1_ValueTimeMatchesSpec_j5 (x5 : Bool) : Option Bool :=
    some x5

def law1_ValueTimeMatchesSpec_j4 (p1 : Int) (p3 : Int) (p4 : ByteArray) (x4 : Bool) : Option Bool :=
    ift x4
      (some false)
      (bnd (value_Months p1 p3 p4) fun r10 =>
       bnd (ref1_Months p1 p3 p4) fun r11 =>
       ift (r10.2 == r11.2)
         (law1_ValueTimeMatchesSpec_j5 (r10.1 == r11.1))
         (law1_ValueTimeMatchesSpec_j5 false))

def law1_ValueTimeMatchesSpec_j3 (p1 : Int) (p2 : Int) (p3 : Int) (p4 : ByteArray) (x3 : Bool) : Option Bool :=
    ift x3
      (some false)
      (bnd (value_Trunc p1 p2 p4) fun r8 =>
       bnd (ref1_Trunc p1 p2 p4) fun r9 =>
       ift (r8.2 != r9.2)
         (law1_ValueTimeMatchesSpec_j4 p1 p3 p4 true)
         (law1_ValueTimeMatchesSpec_j4 p1 p3 p4 (r8.1 != r9.1)))

def law1_ValueTimeMatchesSpec_j2 (p1 : Int) (p2 : Int) (p3 : Int) (p4 : ByteArray) (x2 : Bool) : Option Bool :=
    ift x2
      (some false)
      (bnd (value_Part p1 p2 p4) fun r6 =>
       bnd (ref1_Part p1 p2 p4) fun r7 =>
       ift (r6.2 != r7.2)
         (law1_ValueTimeMatchesSpec_j3 p1 p2 p3 p4 true)
         (law1_ValueTimeMatchesSpec_j3 p1 p2 p3 p4 (r6.1 != r7.1)))

def law1_ValueTimeMatchesSpec_j1 (p1 : Int) (p2 : Int) (p3 : Int) (p4 : ByteArray) (p5 : GCivil) (x1 : Bool) : Option Bool :=
    ift x1
      (some false)
      (bnd (value_Instant p5 p4) fun r4 =>
       bnd (ref1_Instant p5 p4) fun r5 =>
       ift (r4.2 != r5.2)
         (law1_ValueTimeMatchesSpec_j2 p1 p2 p3 p4 true)
         (law1_ValueTimeMatchesSpec_j2 p1 p2 p3 p4 (r4.1 != r5.1)))

def law1_ValueTimeMatchesSpec (p1 : Int) (p2 : Int) (p3 : Int) (p4 : ByteArray) (p5 : GCivil) : Option Bool :=
    bnd (value_Local (0 : Int) (ByteArray.mk #[110, 111, 119, 104, 101, 114, 101])) fun r1 =>
    ift (r1.2 != (4 : Int))
      (some false)
      (bnd (value_Local p1 p4) fun r2 =>
       bnd (ref1_Local p1 p4) fun r3 =>
       ift (r2.2 != r3.2)
         (law1_ValueTimeMatchesSpec_j1 p1 p2 p3 p4 p5 true)
         (bnd (some (!((r2.1.year == r3.1.year) && ((r2.1.month == r3.1.month) && ((r2.1.day == r3.1.day) && ((r2.1.hour == r3.1.hour) && ((r2.1.minute == r3.1.minute) && ((r2.1.second == r3.1.second) && true)))))))) fun y1 =>
          law1_ValueTimeMatchesSpec_j1 p1 p2 p3 p4 p5 y1))


theorem c_law1_ValueTimeMatchesSpec (p1 : Int) (p2 : Int) (p3 : Int) (p4 : ByteArray) (p5 : GCivil) (r : Bool) (h : law1_ValueTimeMatchesSpec p1 p2 p3 p4 p5 = some r) : PC Try.prog 8 [vi p1, vi p2, vi p3, vs p4, .ag [ci p5.year, ci p5.month, ci p5.day, ci p5.hour, ci p5.minute, ci p5.second]] (vb r) := by
  unfold law1_ValueTimeMatchesSpec at h
  refine PC.of (n := 131) (fn := Try.f8) (c := cd Try.f8 []) (by kernel_rfl) (by kernel_rfl) (by kernel_rfl) (Nat.le_of_ble_eq_true rfl) ?_
  refine XW.seq (x := cd Try.f8 [0]) (y := cd Try.f8 [1]) (by kernel_rfl) fun K1 hK1 => ?_
  refine XW.reg (by kernel_rfl) ?_
  refine XO.go [11, 13, 15] 2 [0,1,2,3,9] [] [(0, vi p1), (1, vi p2), (2, vi p3), (3, vs p4), (9, .one (.pv (.rp [[pi p5.year, pi p5.month, pi p5.day, pi p5.hour, pi p5.minute, pi p5.second]] 0 0)))] [] [] (by kernel_rfl) trivial ?_
  refine XO.done (by kernel_rfl) ?_
  refine hK1 _ _ ?_
  refine XW.seq (x := cd Try.f8 [1,0]) (y := cd Try.f8 [1,1]) (by kernel_rfl) fun K2 hK2 => ?_
  refine XW.seq (x := cd Try.f8 [1,0,0]) (y := cd Try.f8 [1,0,1]) (by kernel_rfl) fun K3 hK3 => ?_
  obtain ⟨r1, c4, h⟩ := bnd_some h
  refine XW.reg (by kernel_rfl) ?_
  refine XO.cal 18 [vi (0 : Int), vs (ByteArray.mk #[110, 111, 119, 104, 101, 114, 101])] (.tp [.ag [ci r1.1.year, ci r1.1.month, ci r1.1.day, ci r1.1.hour, ci r1.1.minute, ci r1.1.second], vi r1.2]) [(20, .tp [.ag [ci r1.1.year, ci r1.1.month, ci r1.1.day, ci r1.1.hour, ci r1.1.minute, ci r1.1.second], vi r1.2]), (0, vi p1), (1, vi p2), (2, vi p3), (3, vs p4), (9, .one (.pv (.rp [[pi p5.year, pi p5.month, pi p5.day, pi p5.hour, pi p5.minute, pi p5.second]] 0 0)))] (by kernel_rfl) (c_value_Local _ _ _ c4) rfl rfl (by kernel_rfl) ?_
  refine XO.go [11, 13, 15] 6 [0,1,2,3,9,12] [] [(0, vi p1), (1, vi p2), (2, vi p3), (3, vs p4), (9, .one (.pv (.rp [[pi p5.year, pi p5.month, pi p5.day, pi p5.hour, pi p5.minute, pi p5.second]] 0 0))), (12, vi r1.2)] [.box [ci r1.1.year, ci r1.1.month, ci r1.1.day, ci r1.1.hour, ci r1.1.minute, ci r1.1.second]] [] (by kernel_rfl) trivial ?_
  refine XO.done (by kernel_rfl) ?_
  refine hK3 _ _ ?_
  refine XW.seq (x := cd Try.f8 [1,0,1,0]) (y := cd Try.f8 [1,0,1,1]) (by kernel_rfl) fun K5 hK5 => ?_
  refine XW.reg (by kernel_rfl) ?_
  refine XO.go [11, 13, 15] 2 [0,1,2,3,9,24] [] [(0, vi p1), (1, vi p2), (2, vi p3), (3, vs p4), (9, .one (.pv (.rp [[pi p5.year, pi p5.month, pi p5.day, pi p5.hour, pi p5.minute, pi p5.second]] 0 0))), (24, vb (r1.2 != (4 : Int)))] [.box [ci r1.1.year, ci r1.1.month, ci r1.1.day, ci r1.1.hour, ci r1.1.minute, ci r1.1.second]] [] (by kernel_rfl) trivial ?_
  refine XO.done (by kernel_rfl) ?_
  refine hK5 _ _ ?_
  refine XW.cond (x := .tmp 24) (a := cd Try.f8 [1,0,1,1,0]) (b := cd Try.f8 [1,0,1,1,1]) (t := (r1.2 != (4 : Int))) (by kernel_rfl) (by kernel_rfl) (fun b6 => ?_) (fun b6 => ?_)
  · have h := ift_t b6 h
    refine XW.seq (x := cd Try.f8 [1,0,1,1,0,0]) (y := cd Try.f8 [1,0,1,1,0,1]) (by kernel_rfl) fun K7 hK7 => ?_
    refine XW.reg (by kernel_rfl) ?_
    refine XO.go [11, 13, 15] 1 [10] [] [(10, vb false)] [.box [ci r1.1.year, ci r1.1.month, ci r1.1.day, ci r1.1.hour, ci r1.1.minute, ci r1.1.second]] [] (by kernel_rfl) trivial ?_
    refine XO.done (by kernel_rfl) ?_
    refine hK7 _ _ ?_
    refine XW.ret (by kernel_rfl) ?_
    obtain rfl := Option.some.inj h
    exact FinP.fin (.inr rfl) [] [vb false] [] (by kernel_rfl) trivial (.one (.rfl _ rfl))
  · have h := ift_f b6 h
    refine XW.skip (by kernel_rfl) ?_
    refine hK2 _ _ ?_
    refine XW.seq (x := cd Try.f8 [1,1,0]) (y := cd Try.f8 [1,1,1]) (by kernel_rfl) fun K8 hK8 => ?_
    obtain ⟨r2, c9, h⟩ := bnd_some h
    refine XW.reg (by kernel_rfl) ?_
    refine XO.go [11, 13, 15] 2 [0,1,2,3,9,26,27] [] [(0, vi p1), (1, vi p2), (2, vi p3), (3, vs p4), (9, .one (.pv (.rp [[pi p5.year, pi p5.month, pi p5.day, pi p5.hour, pi p5.minute, pi p5.second]] 0 0))), (26, vi p1), (27, vs p4)] [.box [ci r1.1.year, ci r1.1.month, ci r1.1.day, ci r1.1.hour, ci r1.1.minute, ci r1.1.second]] [] (by kernel_rfl) trivial ?_
    refine XO.cal 18 [vi p1, vs p4] (.tp [.ag [ci r2.1.year, ci r2.1.month, ci r2.1.day, ci r2.1.hour, ci r2.1.minute, ci r2.1.second], vi r2.2]) [(28, .tp [.ag [ci r2.1.year, ci r2.1.month, ci r2.1.day, ci r2.1.hour, ci r2.1.minute, ci r2.1.second], vi r2.2]), (0, vi p1), (1, vi p2), (2, vi p3), (3, vs p4), (9, .one (.pv (.rp [[pi p5.year, pi p5.month, pi p5.day, pi p5.hour, pi p5.minute, pi p5.second]] 0 0))), (26, vi p1), (27, vs p4)] (by kernel_rfl) (c_value_Local _ _ _ c9) rfl rfl (by kernel_rfl) ?_
    refine XO.go [11, 13, 15] 6 [0,1,2,3,9,13,14] [] [(0, vi p1), (1, vi p2), (2, vi p3), (3, vs p4), (9, .one (.pv (.rp [[pi p5.year, pi p5.month, pi p5.day, pi p5.hour, pi p5.minute, pi p5.second]] 0 0))), (13, .one (.pt 1 0 0 0)), (14, vi r2.2)] [.box [ci r1.1.year, ci r1.1.month, ci r1.1.day, ci r1.1.hour, ci r1.1.minute, ci r1.1.second], .box [ci r2.1.year, ci r2.1.month, ci r2.1.day, ci r2.1.hour, ci r2.1.minute, ci r2.1.second]] [] (by kernel_rfl) trivial ?_
    refine XO.done (by kernel_rfl) ?_
    refine hK8 _ _ ?_
    refine XW.seq (x := cd Try.f8 [1,1,1,0]) (y := cd Try.f8 [1,1,1,1]) (by kernel_rfl) fun K10 hK10 => ?_
    obtain ⟨r3, c11, h⟩ := bnd_some h
    refine XW.reg (by kernel_rfl) ?_
    refine XO.go [11, 13, 15] 2 [0,1,2,3,9,13,14,32,33] [] [(0, vi p1), (1, vi p2), (2, vi p3), (3, vs p4), (9, .one (.pv (.rp [[pi p5.year, pi p5.month, pi p5.day, pi p5.hour, pi p5.minute, pi p5.second]] 0 0))), (13, .one (.pt 1 0 0 0)), (14, vi r2.2), (32, vi p1), (33, vs p4)] [.box [ci r1.1.year, ci r1.1.month, ci r1.1.day, ci r1.1.hour, ci r1.1.minute, ci r1.1.second], .box [ci r2.1.year, ci r2.1.month, ci r2.1.day, ci r2.1.hour, ci r2.1.minute, ci r2.1.second]] [] (by kernel_rfl) trivial ?_
    refine XO.cal 24 [vi p1, vs p4] (.tp [.ag [ci r3.1.year, ci r3.1.month, ci r3.1.day, ci r3.1.hour, ci r3.1.minute, ci r3.1.second], vi r3.2]) [(34, .tp [.ag [ci r3.1.year, ci r3.1.month, ci r3.1.day, ci r3.1.hour, ci r3.1.minute, ci r3.1.second], vi r3.2]), (0, vi p1), (1, vi p2), (2, vi p3), (3, vs p4), (9, .one (.pv (.rp [[pi p5.year, pi p5.month, pi p5.day, pi p5.hour, pi p5.minute, pi p5.second]] 0 0))), (13, .one (.pt 1 0 0 0)), (14, vi r2.2), (32, vi p1), (33, vs p4)] (by kernel_rfl) (c_ref1_Local _ _ _ c11) rfl rfl (by kernel_rfl) ?_
    refine XO.go [11, 13, 15] 6 [0,1,2,3,9,13,14,15,16] [] [(0, vi p1), (1, vi p2), (2, vi p3), (3, vs p4), (9, .one (.pv (.rp [[pi p5.year, pi p5.month, pi p5.day, pi p5.hour, pi p5.minute, pi p5.second]] 0 0))), (13, .one (.pt 1 0 0 0)), (14, vi r2.2), (15, .one (.pt 2 0 0 0)), (16, vi r3.2)] [.box [ci r1.1.year, ci r1.1.month, ci r1.1.day, ci r1.1.hour, ci r1.1.minute, ci r1.1.second], .box [ci r2.1.year, ci r2.1.month, ci r2.1.day, ci r2.1.hour, ci r2.1.minute, ci r2.1.second], .box [ci r3.1.year, ci r3.1.month, ci r3.1.day, ci r3.1.hour, ci r3.1.minute, ci r3.1.second]] [] (by kernel_rfl) trivial ?_
    refine XO.done (by kernel_rfl) ?_
    refine hK10 _ _ ?_
    refine XW.seq (x := cd Try.f8 [1,1,1,1,0]) (y := cd Try.f8 [1,1,1,1,1]) (by kernel_rfl) fun K12 hK12 => ?_
    refine XW.seq (x := cd Try.f8 [1,1,1,1,0,0]) (y := cd Try.f8 [1,1,1,1,0,1]) (by kernel_rfl) fun K13 hK13 => ?_
    have hJ1 : ∀ (x1 : Bool), law1_ValueTimeMatchesSpec_j1 p1 p2 p3 p4 p5 x1 = some r → ∀ fr1 st1, Sub 131 0 [] fr1 st1 [(0, vi p1), (1, vi p2), (2, vi p3), (3, vs p4), (9, .one (.pv (.rp [[pi p5.year, pi p5.month, pi p5.day, pi p5.hour, pi p5.minute, pi p5.second]] 0 0))), (44, vb x1)] [.box [ci r1.1.year, ci r1.1.month, ci r1.1.day, ci r1.1.hour, ci r1.1.minute, ci r1.1.second], .box [ci r2.1.year, ci r2.1.month, ci r2.1.day, ci r2.1.hour, ci r2.1.minute, ci r2.1.second], .box [ci r3.1.year, ci r3.1.month, ci r3.1.day, ci r3.1.hour, ci r3.1.minute, ci r3.1.second]] → K13 fr1 st1 := by
      intro x1 h fr1 st1 hS
      unfold law1_ValueTimeMatchesSpec_j1 at h
      refine hK13 _ _ (XW.sub hS ?_)
      refine XW.cond (x := .tmp 44) (a := cd Try.f8 [1,1,1,1,0,1,0]) (b := cd Try.f8 [1,1,1,1,0,1,1]) (t := x1) (by kernel_rfl) (by kernel_rfl) (fun b16 => ?_) (fun b16 => ?_)
      · have h := ift_t b16 h
        refine XW.seq (x := cd Try.f8 [1,1,1,1,0,1,0,0]) (y := cd Try.f8 [1,1,1,1,0,1,0,1]) (by kernel_rfl) fun K17 hK17 => ?_
        refine XW.reg (by kernel_rfl) ?_
        refine XO.go [11, 13, 15] 1 [10] [] [(10, vb false)] [.box [ci r1.1.year, ci r1.1.month, ci r1.1.day, ci r1.1.hour, ci r1.1.minute, ci r1.1.second], .box [ci r2.1.year, ci r2.1.month, ci r2.1.day, ci r2.1.hour, ci r2.1.minute, ci r2.1.second], .box [ci r3.1.year, ci r3.1.month, ci r3.1.day, ci r3.1.hour, ci r3.1.minute, ci r3.1.second]] [] (by kernel_rfl) trivial ?_
        refine XO.done (by kernel_rfl) ?_
        refine hK17 _ _ ?_
        refine XW.ret (by kernel_rfl) ?_
        obtain rfl := Option.some.inj h
        exact FinP.fin (.inr rfl) [] [vb false] [] (by kernel_rfl) trivial (.one (.rfl _ rfl))
      · have h := ift_f b16 h
        refine XW.skip (by kernel_rfl) ?_
        refine hK12 _ _ ?_
        refine XW.seq (x := cd Try.f8 [1,1,1,1,1,0]) (y := cd Try.f8 [1,1,1,1,1,1]) (by kernel_rfl) fun K18 hK18 => ?_
        obtain ⟨r4, c19, h⟩ := bnd_some h
        refine XW.reg (by kernel_rfl) ?_
        refine XO.go [11, 13, 15] 2 [0,1,2,3,9,46,47] [[pi p5.year, pi p5.month, pi p5.day, pi p5.hour, pi p5.minute, pi p5.second]] [(0, vi p1), (1, vi p2), (2, vi p3), (3, vs p4), (9, .one (.pv (.rp [[pi p5.year, pi p5.month, pi p5.day, pi p5.hour, pi p5.minute, pi p5.second]] 0 0))), (46, .ag [ci p5.year, ci p5.month, ci p5.day, ci p5.hour, ci p5.minute, ci p5.second]), (47, vs p4)] [.box [ci r1.1.year, ci r1.1.month, ci r1.1.day, ci r1.1.hour, ci r1.1.minute, ci r1.1.second], .box [ci r2.1.year, ci r2.1.month, ci r2.1.day, ci r2.1.hour, ci r2.1.minute, ci r2.1.second], .box [ci r3.1.year, ci r3.1.month, ci r3.1.day, ci r3.1.hour, ci r3.1.minute, ci r3.1.second]] [([[pi p5.year, pi p5.month, pi p5.day, pi p5.hour, pi p5.minute, pi p5.second]] : List (List PV))[0]? = some [pi p5.year, pi p5.month, pi p5.day, pi p5.hour, pi p5.minute, pi p5.second]] (by kernel_rfl) (⟨rfl, trivial⟩) ?_
        refine XO.cal 19 [.ag [ci p5.year, ci p5.month, ci p5.day, ci p5.hour, ci p5.minute, ci p5.second], vs p4] (.tp [vi r4.1, vi r4.2]) [(48, .tp [vi r4.1, vi r4.2]), (0, vi p1), (1, vi p2), (2, vi p3), (3, vs p4), (9, .one (.pv (.rp [[pi p5.year, pi p5.month, pi p5.day, pi p5.hour, pi p5.minute, pi p5.second]] 0 0))), (46, .ag [ci p5.year, ci p5.month, ci p5.day, ci p5.hour, ci p5.minute, ci p5.second]), (47, vs p4)] (by kernel_rfl) (c_value_Instant _ _ _ c19) rfl rfl (by kernel_rfl) ?_
        refine XO.go [11, 13, 15] 5 [0,1,2,3,9,14,17] [] [(0, vi p1), (1, vi p2), (2, vi p3), (3, vs p4), (9, .one (.pv (.rp [[pi p5.year, pi p5.month, pi p5.day, pi p5.hour, pi p5.minute, pi p5.second]] 0 0))), (14, vi r4.2), (17, vi r4.1)] [.box [ci r1.1.year, ci r1.1.month, ci r1.1.day, ci r1.1.hour, ci r1.1.minute, ci r1.1.second], .box [ci r2.1.year, ci r2.1.month, ci r2.1.day, ci r2.1.hour, ci r2.1.minute, ci r2.1.second], .box [ci r3.1.year, ci r3.1.month, ci r3.1.day, ci r3.1.hour, ci r3.1.minute, ci r3.1.second]] [] (by kernel_rfl) trivial ?_
        refine XO.done (by kernel_rfl) ?_
        refine hK18 _ _ ?_
        refine XW.seq (x := cd Try.f8 [1,1,1,1,1,1,0]) (y := cd Try.f8 [1,1,1,1,1,1,1]) (by kernel_rfl) fun K20 hK20 => ?_
        obtain ⟨r5, c21, h⟩ := bnd_some h
        refine XW.reg (by kernel_rfl) ?_
        refine XO.go [11, 13, 15] 2 [0,1,2,3,14,17,52,53] [[pi p5.year, pi p5.month, pi p5.day, pi p5.hour, pi p5.minute, pi p5.second]] [(0, vi p1), (1, vi p2), (2, vi p3), (3, vs p4), (14, vi r4.2), (17, vi r4.1), (52, .ag [ci p5.year, ci p5.month, ci p5.day, ci p5.hour, ci p5.minute, ci p5.second]), (53, vs p4)] [.box [ci r1.1.year, ci r1.1.month, ci r1.1.day, ci r1.1.hour, ci r1.1.minute, ci r1.1.second], .box [ci r2.1.year, ci r2.1.month, ci r2.1.day, ci r2.1.hour, ci r2.1.minute, ci r2.1.second], .box [ci r3.1.year, ci r3.1.month, ci r3.1.day, ci r3.1.hour, ci r3.1.minute, ci r3.1.second]] [([[pi p5.year, pi p5.month, pi p5.day, pi p5.hour, pi p5.minute, pi p5.second]] : List (List PV))[0]? = some [pi p5.year, pi p5.month, pi p5.day, pi p5.hour, pi p5.minute, pi p5.second]] (by kernel_rfl) (⟨rfl, trivial⟩) ?_
        refine XO.cal 25 [.ag [ci p5.year, ci p5.month, ci p5.day, ci p5.hour, ci p5.minute, ci p5.second], vs p4] (.tp [vi r5.1, vi r5.2]) [(54, .tp [vi r5.1, vi r5.2]), (0, vi p1), (1, vi p2), (2, vi p3), (3, vs p4), (14, vi r4.2), (17, vi r4.1), (52, .ag [ci p5.year, ci p5.month, ci p5.day, ci p5.hour, ci p5.minute, ci p5.second]), (53, vs p4)] (by kernel_rfl) (c_ref1_Instant _ _ _ c21) rfl rfl (by kernel_rfl) ?_
        refine XO.go [11, 13, 15] 5 [0,1,2,3,14,16,17,18] [] [(0, vi p1), (1, vi p2), (2, vi p3), (3, vs p4), (14, vi r4.2), (16, vi r5.2), (17, vi r4.1), (18, vi r5.1)] [.box [ci r1.1.year, ci r1.1.month, ci r1.1.day, ci r1.1.hour, ci r1.1.minute, ci r1.1.second], .box [ci r2.1.year, ci r2.1.month, ci r2.1.day, ci r2.1.hour, ci r2.1.minute, ci r2.1.second], .box [ci r3.1.year, ci r3.1.month, ci r3.1.day, ci r3.1.hour, ci r3.1.minute, ci r3.1.second]] [] (by kernel_rfl) trivial ?_
        refine XO.done (by kernel_rfl) ?_
        refine hK20 _ _ ?_
        refine XW.seq (x := cd Try.f8 [1,1,1,1,1,1,1,0]) (y := cd Try.f8 [1,1,1,1,1,1,1,1]) (by kernel_rfl) fun K22 hK22 => ?_
        refine XW.seq (x := cd Try.f8 [1,1,1,1,1,1,1,0,0]) (y := cd Try.f8 [1,1,1,1,1,1,1,0,1]) (by kernel_rfl) fun K23 hK23 => ?_
        have hJ2 : ∀ (x2 : Bool), law1_ValueTimeMatchesSpec_j2 p1 p2 p3 p4 x2 = some r → ∀ fr1 st1, Sub 131 0 [] fr1 st1 [(0, vi p1), (1, vi p2), (2, vi p3), (3, vs p4), (64, vb x2)] [.box [ci r1.1.year, ci r1.1.month, ci r1.1.day, ci r1.1.hour, ci r1.1.minute, ci r1.1.second], .box [ci r2.1.year, ci r2.1.month, ci r2.1.day, ci r2.1.hour, ci r2.1.minute, ci r2.1.second], .box [ci r3.1.year, ci r3.1.month, ci r3.1.day, ci r3.1.hour, ci r3.1.minute, ci r3.1.second]] → K23 fr1 st1 := by
          intro x2 h fr1 st1 hS
          unfold law1_ValueTimeMatchesSpec_j2 at h
          refine hK23 _ _ (XW.sub hS ?_)
          refine XW.cond (x := .tmp 64) (a := cd Try.f8 [1,1,1,1,1,1,1,0,1,0]) (b := cd Try.f8 [1,1,1,1,1,1,1,0,1,1]) (t := x2) (by kernel_rfl) (by kernel_rfl) (fun b25 => ?_) (fun b25 => ?_)
          · have h := ift_t b25 h
            refine XW.seq (x := cd Try.f8 [1,1,1,1,1,1,1,0,1,0,0]) (y := cd Try.f8 [1,1,1,1,1,1,1,0,1,0,1]) (by kernel_rfl) fun K26 hK26 => ?_
            refine XW.reg (by kernel_rfl) ?_
            refine XO.go [11, 13, 15] 1 [10] [] [(10, vb false)] [.box [ci r1.1.year, ci r1.1.month, ci r1.1.day, ci r1.1.hour, ci r1.1.minute, ci r1.1.second], .box [ci r2.1.year, ci r2.1.month, ci r2.1.day, ci r2.1.hour, ci r2.1.minute, ci r2.1.second], .box [ci r3.1.year, ci r3.1.month, ci r3.1.day, ci r3.1.hour, ci r3.1.minute, ci r3.1.second]] [] (by kernel_rfl) trivial ?_
            refine XO.done (by kernel_rfl) ?_
            refine hK26 _ _ ?_
            refine XW.ret (by kernel_rfl) ?_
            obtain rfl := Option.some.inj h
            exact FinP.fin (.inr rfl) [] [vb false] [] (by kernel_rfl) trivial (.one (.rfl _ rfl))
          · have h := ift_f b25 h
            refine XW.skip (by kernel_rfl) ?_
            refine hK22 _ _ ?_
            refine XW.seq (x := cd Try.f8 [1,1,1,1,1,1,1,1,0]) (y := cd Try.f8 [1,1,1,1,1,1,1,1,1]) (by kernel_rfl) fun K27 hK27 => ?_
            obtain ⟨r6, c28, h⟩ := bnd_some h
            refine XW.reg (by kernel_rfl) ?_
            refine XO.go [11, 13, 15] 3 [0,1,2,3,66,67,68] [] [(0, vi p1), (1, vi p2), (2, vi p3), (3, vs p4), (66, vi p1), (67, vi p2), (68, vs p4)] [.box [ci r1.1.year, ci r1.1.month, ci r1.1.day, ci r1.1.hour, ci r1.1.minute, ci r1.1.second], .box [ci r2.1.year, ci r2.1.month, ci r2.1.day, ci r2.1.hour, ci r2.1.minute, ci r2.1.second], .box [ci r3.1.year, ci r3.1.month, ci r3.1.day, ci r3.1.hour, ci r3.1.minute, ci r3.1.second]] [] (by kernel_rfl) trivial ?_
            refine XO.cal 26 [vi p1, vi p2, vs p4] (.tp [vi r6.1, vi r6.2]) [(69, .tp [vi r6.1, vi r6.2]), (0, vi p1), (1, vi p2), (2, vi p3), (3, vs p4), (66, vi p1), (67, vi p2), (68, vs p4)] (by kernel_rfl) (c_value_Part _ _ _ _ c28) rfl rfl (by kernel_rfl) ?_
            refine XO.go [11, 13, 15] 5 [0,1,2,3,14,17] [] [(0, vi p1), (1, vi p2), (2, vi p3), (3, vs p4), (14, vi r6.2), (17, vi r6.1)] [.box [ci r1.1.year, ci r1.1.month, ci r1.1.day, ci r1.1.hour, ci r1.1.minute, ci r1.1.second], .box [ci r2.1.year, ci r2.1.month, ci r2.1.day, ci r2.1.hour, ci r2.1.minute, ci r2.1.second], .box [ci r3.1.year, ci r3.1.month, ci r3.1.day, ci r3.1.hour, ci r3.1.minute, ci r3.1.second]] [] (by kernel_rfl) trivial ?_
            refine XO.done (by kernel_rfl) ?_
            refine hK27 _ _ ?_
            refine XW.seq (x := cd Try.f8 [1,1,1,1,1,1,1,1,1,0]) (y := cd Try.f8 [1,1,1,1,1,1,1,1,1,1]) (by kernel_rfl) fun K29 hK29 => ?_
            obtain ⟨r7, c30, h⟩ := bnd_some h
            refine XW.reg (by kernel_rfl) ?_
            refine XO.go [11, 13, 15] 3 [0,1,2,3,14,17,73,74,75] [] [(0, vi p1), (1, vi p2), (2, vi p3), (3, vs p4), (14, vi r6.2), (17, vi r6.1), (73, vi p1), (74, vi p2), (75, vs p4)] [.box [ci r1.1.year, ci r1.1.month, ci r1.1.day, ci r1.1.hour, ci r1.1.minute, ci r1.1.second], .box [ci r2.1.year, ci r2.1.month, ci r2.1.day, ci r2.1.hour, ci r2.1.minute, ci r2.1.second], .box [ci r3.1.year, ci r3.1.month, ci r3.1.day, ci r3.1.hour, ci r3.1.minute, ci r3.1.second]] [] (by kernel_rfl) trivial ?_
            refine XO.cal 27 [vi p1, vi p2, vs p4] (.tp [vi r7.1, vi r7.2]) [(76, .tp [vi r7.1, vi r7.2]), (0, vi p1), (1, vi p2), (2, vi p3), (3, vs p4), (14, vi r6.2), (17, vi r6.1), (73, vi p1), (74, vi p2), (75, vs p4)] (by kernel_rfl) (c_ref1_Part _ _ _ _ c30) rfl rfl (by kernel_rfl) ?_
            refine XO.go [11, 13, 15] 5 [0,1,2,3,14,16,17,18] [] [(0, vi p1), (1, vi p2), (2, vi p3), (3, vs p4), (14, vi r6.2), (16, vi r7.2), (17, vi r6.1), (18, vi r7.1)] [.box [ci r1.1.year, ci r1.1.month, ci r1.1.day, ci r1.1.hour, ci r1.1.minute, ci r1.1.second], .box [ci r2.1.year, ci r2.1.month, ci r2.1.day, ci r2.1.hour, ci r2.1.minute, ci r2.1.second], .box [ci r3.1.year, ci r3.1.month, ci r3.1.day, ci r3.1.hour, ci r3.1.minute, ci r3.1.second]] [] (by kernel_rfl) trivial ?_
            refine XO.done (by kernel_rfl) ?_
            refine hK29 _ _ ?_
            refine XW.seq (x := cd Try.f8 [1,1,1,1,1,1,1,1,1,1,0]) (y := cd Try.f8 [1,1,1,1,1,1,1,1,1,1,1]) (by kernel_rfl) fun K31 hK31 => ?_
            refine XW.seq (x := cd Try.f8 [1,1,1,1,1,1,1,1,1,1,0,0]) (y := cd Try.f8 [1,1,1,1,1,1,1,1,1,1,0,1]) (by kernel_rfl) fun K32 hK32 => ?_
            have hJ3 : ∀ (x3 : Bool), law1_ValueTimeMatchesSpec_j3 p1 p2 p3 p4 x3 = some r → ∀ fr1 st1, Sub 131 0 [] fr1 st1 [(0, vi p1), (1, vi p2), (2, vi p3), (3, vs p4), (86, vb x3)] [.box [ci r1.1.year, ci r1.1.month, ci r1.1.day, ci r1.1.hour, ci r1.1.minute, ci r1.1.second], .box [ci r2.1.year, ci r2.1.month, ci r2.1.day, ci r2.1.hour, ci r2.1.minute, ci r2.1.second], .box [ci r3.1.year, ci r3.1.month, ci r3.1.day, ci r3.1.hour, ci r3.1.minute, ci r3.1.second]] → K32 fr1 st1 := by
              intro x3 h fr1 st1 hS
              unfold law1_ValueTimeMatchesSpec_j3 at h
              refine hK32 _ _ (XW.sub hS ?_)
              refine XW.cond (x := .tmp 86) (a := cd Try.f8 [1,1,1,1,1,1,1,1,1,1,0,1,0]) (b := cd Try.f8 [1,1,1,1,1,1,1,1,1,1,0,1,1]) (t := x3) (by kernel_rfl) (by kernel_rfl) (fun b34 => ?_) (fun b34 => ?_)
              · have h := ift_t b34 h
                refine XW.seq (x := cd Try.f8 [1,1,1,1,1,1,1,1,1,1,0,1,0,0]) (y := cd Try.f8 [1,1,1,1,1,1,1,1,1,1,0,1,0,1]) (by kernel_rfl) fun K35 hK35 => ?_
                refine XW.reg (by kernel_rfl) ?_
                refine XO.go [11, 13, 15] 1 [10] [] [(10, vb false)] [.box [ci r1.1.year, ci r1.1.month, ci r1.1.day, ci r1.1.hour, ci r1.1.minute, ci r1.1.second], .box [ci r2.1.year, ci r2.1.month, ci r2.1.day, ci r2.1.hour, ci r2.1.minute, ci r2.1.second], .box [ci r3.1.year, ci r3.1.month, ci r3.1.day, ci r3.1.hour, ci r3.1.minute, ci r3.1.second]] [] (by kernel_rfl) trivial ?_
                refine XO.done (by kernel_rfl) ?_
                refine hK35 _ _ ?_
                refine XW.ret (by kernel_rfl) ?_
                obtain rfl := Option.some.inj h
                exact FinP.fin (.inr rfl) [] [vb false] [] (by kernel_rfl) trivial (.one (.rfl _ rfl))
              · have h := ift_f b34 h
                refine XW.skip (by kernel_rfl) ?_
                refine hK31 _ _ ?_
                refine XW.seq (x := cd Try.f8 [1,1,1,1,1,1,1,1,1,1,1,0]) (y := cd Try.f8 [1,1,1,1,1,1,1,1,1,1,1,1]) (by kernel_rfl) fun K36 hK36 => ?_
                obtain ⟨r8, c37, h⟩ := bnd_some h
                refine XW.reg (by kernel_rfl) ?_
                refine XO.go [11, 13, 15] 3 [0,1,2,3,88,89,90] [] [(0, vi p1), (1, vi p2), (2, vi p3), (3, vs p4), (88, vi p1), (89, vi p2), (90, vs p4)] [.box [ci r1.1.year, ci r1.1.month, ci r1.1.day, ci r1.1.hour, ci r1.1.minute, ci r1.1.second], .box [ci r2.1.year, ci r2.1.month, ci r2.1.day, ci r2.1.hour, ci r2.1.minute, ci r2.1.second], .box [ci r3.1.year, ci r3.1.month, ci r3.1.day, ci r3.1.hour, ci r3.1.minute, ci r3.1.second]] [] (by kernel_rfl) trivial ?_
                refine XO.cal 20 [vi p1, vi p2, vs p4] (.tp [vi r8.1, vi r8.2]) [(91, .tp [vi r8.1, vi r8.2]), (0, vi p1), (1, vi p2), (2, vi p3), (3, vs p4), (88, vi p1), (89, vi p2), (90, vs p4)] (by kernel_rfl) (c_value_Trunc _ _ _ _ c37) rfl rfl (by kernel_rfl) ?_
                refine XO.go [11, 13, 15] 5 [0,1,2,3,14,17] [] [(0, vi p1), (1, vi p2), (2, vi p3), (3, vs p4), (14, vi r8.2), (17, vi r8.1)] [.box [ci r1.1.year, ci r1.1.month, ci r1.1.day, ci r1.1.hour, ci r1.1.minute, ci r1.1.second], .box [ci r2.1.year, ci r2.1.month, ci r2.1.day, ci r2.1.hour, ci r2.1.minute, ci r2.1.second], .box [ci r3.1.year, ci r3.1.month, ci r3.1.day, ci r3.1.hour, ci r3.1.minute, ci r3.1.second]] [] (by kernel_rfl) trivial ?_
                refine XO.done (by kernel_rfl) ?_
                refine hK36 _ _ ?_
                refine XW.seq (x := cd Try.f8 [1,1,1,1,1,1,1,1,1,1,1,1,0]) (y := cd Try.f8 [1,1,1,1,1,1,1,1,1,1,1,1,1]) (by kernel_rfl) fun K38 hK38 => ?_
                obtain ⟨r9, c39, h⟩ := bnd_some h
                refine XW.reg (by kernel_rfl) ?_
                refine XO.go [11, 13, 15] 3 [0,2,3,14,17,95,96,97] [] [(0, vi p1), (2, vi p3), (3, vs p4), (14, vi r8.2), (17, vi r8.1), (95, vi p1), (96, vi p2), (97, vs p4)] [.box [ci r1.1.year, ci r1.1.month, ci r1.1.day, ci r1.1.hour, ci r1.1.minute, ci r1.1.second], .box [ci r2.1.year, ci r2.1.month, ci r2.1.day, ci r2.1.hour, ci r2.1.minute, ci r2.1.second], .box [ci r3.1.year, ci r3.1.month, ci r3.1.day, ci r3.1.hour, ci r3.1.minute, ci r3.1.second]] [] (by kernel_rfl) trivial ?_
                refine XO.cal 28 [vi p1, vi p2, vs p4] (.tp [vi r9.1, vi r9.2]) [(98, .tp [vi r9.1, vi r9.2]), (0, vi p1), (2, vi p3), (3, vs p4), (14, vi r8.2), (17, vi r8.1), (95, vi p1), (96, vi p2), (97, vs p4)] (by kernel_rfl) (c_ref1_Trunc _ _ _ _ c39) rfl rfl (by kernel_rfl) ?_
                refine XO.go [11, 13, 15] 5 [0,2,3,14,16,17,18] [] [(0, vi p1), (2, vi p3), (3, vs p4), (14, vi r8.2), (16, vi r9.2), (17, vi r8.1), (18, vi r9.1)] [.box [ci r1.1.year, ci r1.1.month, ci r1.1.day, ci r1.1.hour, ci r1.1.minute, ci r1.1.second], .box [ci r2.1.year, ci r2.1.month, ci r2.1.day, ci r2.1.hour, ci r2.1.minute, ci r2.1.second], .box [ci r3.1.year, ci r3.1.month, ci r3.1.day, ci r3.1.hour, ci r3.1.minute, ci r3.1.second]] [] (by kernel_rfl) trivial ?_
                refine XO.done (by kernel_rfl) ?_
                refine hK38 _ _ ?_
                refine XW.seq (x := cd Try.f8 [1,1,1,1,1,1,1,1,1,1,1,1,1,0]) (y := cd Try.f8 [1,1,1,1,1,1,1,1,1,1,1,1,1,1]) (by kernel_rfl) fun K40 hK40 => ?_
                refine XW.seq (x := cd Try.f8 [1,1,1,1,1,1,1,1,1,1,1,1,1,0,0]) (y := cd Try.f8 [1,1,1,1,1,1,1,1,1,1,1,1,1,0,1]) (by kernel_rfl) fun K41 hK41 => ?_
                have hJ4 : ∀ (x4 : Bool), law1_ValueTimeMatchesSpec_j4 p1 p3 p4 x4 = some r → ∀ fr1 st1, Sub 131 0 [] fr1 st1 [(0, vi p1), (2, vi p3), (3, vs p4), (108, vb x4)] [.box [ci r1.1.year, ci r1.1.month, ci r1.1.day, ci r1.1.hour, ci r1.1.minute, ci r1.1.second], .box [ci r2.1.year, ci r2.1.month, ci r2.1.day, ci r2.1.hour, ci r2.1.minute, ci r2.1.second], .box [ci r3.1.year, ci r3.1.month, ci r3.1.day, ci r3.1.hour, ci r3.1.minute, ci r3.1.second]] → K41 fr1 st1 := by
                  intro x4 h fr1 st1 hS
                  unfold law1_ValueTimeMatchesSpec_j4 at h
                  refine hK41 _ _ (XW.sub hS ?_)
                  refine XW.cond (x := .tmp 108) (a := cd Try.f8 [1,1,1,1,1,1,1,1,1,1,1,1,1,0,1,0]) (b := cd Try.f8 [1,1,1,1,1,1,1,1,1,1,1,1,1,0,1,1]) (t := x4) (by kernel_rfl) (by kernel_rfl) (fun b43 => ?_) (fun b43 => ?_)
                  · have h := ift_t b43 h
                    refine XW.seq (x := cd Try.f8 [1,1,1,1,1,1,1,1,1,1,1,1,1,0,1,0,0]) (y := cd Try.f8 [1,1,1,1,1,1,1,1,1,1,1,1,1,0,1,0,1]) (by kernel_rfl) fun K44 hK44 => ?_
                    refine XW.reg (by kernel_rfl) ?_
                    refine XO.go [11, 13, 15] 1 [10] [] [(10, vb false)] [.box [ci r1.1.year, ci r1.1.month, ci r1.1.day, ci r1.1.hour, ci r1.1.minute, ci r1.1.second], .box [ci r2.1.year, ci r2.1.month, ci r2.1.day, ci r2.1.hour, ci r2.1.minute, ci r2.1.second], .box [ci r3.1.year, ci r3.1.month, ci r3.1.day, ci r3.1.hour, ci r3.1.minute, ci r3.1.second]] [] (by kernel_rfl) trivial ?_
                    refine XO.done (by kernel_rfl) ?_
                    refine hK44 _ _ ?_
                    refine XW.ret (by kernel_rfl) ?_
                    obtain rfl := Option.some.inj h
                    exact FinP.fin (.inr rfl) [] [vb false] [] (by kernel_rfl) trivial (.one (.rfl _ rfl))
                  · have h := ift_f b43 h
                    refine XW.skip (by kernel_rfl) ?_
                    refine hK40 _ _ ?_
                    refine XW.seq (x := cd Try.f8 [1,1,1,1,1,1,1,1,1,1,1,1,1,1,0]) (y := cd Try.f8 [1,1,1,1,1,1,1,1,1,1,1,1,1,1,1]) (by kernel_rfl) fun K45 hK45 => ?_
                    obtain ⟨r10, c46, h⟩ := bnd_some h
                    refine XW.reg (by kernel_rfl) ?_
                    refine XO.go [11, 13, 15] 3 [0,2,3,110,111,112] [] [(0, vi p1), (2, vi p3), (3, vs p4), (110, vi p1), (111, vi p3), (112, vs p4)] [.box [ci r1.1.year, ci r1.1.month, ci r1.1.day, ci r1.1.hour, ci r1.1.minute, ci r1.1.second], .box [ci r2.1.year, ci r2.1.month, ci r2.1.day, ci r2.1.hour, ci r2.1.minute, ci r2.1.second], .box [ci r3.1.year, ci r3.1.month, ci r3.1.day, ci r3.1.hour, ci r3.1.minute, ci r3.1.second]] [] (by kernel_rfl) trivial ?_
                    refine XO.cal 29 [vi p1, vi p3, vs p4] (.tp [vi r10.1, vi r10.2]) [(113, .tp [vi r10.1, vi r10.2]), (0, vi p1), (2, vi p3), (3, vs p4), (110, vi p1), (111, vi p3), (112, vs p4)] (by kernel_rfl) (c_value_Months _ _ _ _ c46) rfl rfl (by kernel_rfl) ?_
                    refine XO.go [11, 13, 15] 5 [0,2,3,14,17] [] [(0, vi p1), (2, vi p3), (3, vs p4), (14, vi r10.2), (17, vi r10.1)] [.box [ci r1.1.year, ci r1.1.month, ci r1.1.day, ci r1.1.hour, ci r1.1.minute, ci r1.1.second], .box [ci r2.1.year, ci r2.1.month, ci r2.1.day, ci r2.1.hour, ci r2.1.minute, ci r2.1.second], .box [ci r3.1.year, ci r3.1.month, ci r3.1.day, ci r3.1.hour, ci r3.1.minute, ci r3.1.second]] [] (by kernel_rfl) trivial ?_
                    refine XO.done (by kernel_rfl) ?_
                    refine hK45 _ _ ?_
                    refine XW.seq (x := cd Try.f8 [1,1,1,1,1,1,1,1,1,1,1,1,1,1,1,0]) (y := cd Try.f8 [1,1,1,1,1,1,1,1,1,1,1,1,1,1,1,1]) (by kernel_rfl) fun K47 hK47 => ?_
                    obtain ⟨r11, c48, h⟩ := bnd_some h
                    refine XW.reg (by kernel_rfl) ?_
                    refine XO.go [11, 13, 15] 3 [14,17,117,118,119] [] [(14, vi r10.2), (17, vi r10.1), (117, vi p1), (118, vi p3), (119, vs p4)] [.box [ci r1.1.year, ci r1.1.month, ci r1.1.day, ci r1.1.hour, ci r1.1.minute, ci r1.1.second], .box [ci r2.1.year, ci r2.1.month, ci r2.1.day, ci r2.1.hour, ci r2.1.minute, ci r2.1.second], .box [ci r3.1.year, ci r3.1.month, ci r3.1.day, ci r3.1.hour, ci r3.1.minute, ci r3.1.second]] [] (by kernel_rfl) trivial ?_
                    refine XO.cal 30 [vi p1, vi p3, vs p4] (.tp [vi r11.1, vi r11.2]) [(120, .tp [vi r11.1, vi r11.2]), (14, vi r10.2), (17, vi r10.1), (117, vi p1), (118, vi p3), (119, vs p4)] (by kernel_rfl) (c_ref1_Months _ _ _ _ c48) rfl rfl (by kernel_rfl) ?_
                    refine XO.go [11, 13, 15] 5 [14,16,17,18] [] [(14, vi r10.2), (16, vi r11.2), (17, vi r10.1), (18, vi r11.1)] [.box [ci r1.1.year, ci r1.1.month, ci r1.1.day, ci r1.1.hour, ci r1.1.minute, ci r1.1.second], .box [ci r2.1.year, ci r2.1.month, ci r2.1.day, ci r2.1.hour, ci r2.1.minute, ci r2.1.second], .box [ci r3.1.year, ci r3.1.month, ci r3.1.day, ci r3.1.hour, ci r3.1.minute, ci r3.1.second]] [] (by kernel_rfl) trivial ?_
                    refine XO.done (by kernel_rfl) ?_
                    refine hK47 _ _ ?_
                    refine XW.seq (x := cd Try.f8 [1,1,1,1,1,1,1,1,1,1,1,1,1,1,1,1,0]) (y := cd Try.f8 [1,1,1,1,1,1,1,1,1,1,1,1,1,1,1,1,1]) (by kernel_rfl) fun K49 hK49 => ?_
                    have hJ5 : ∀ (x5 : Bool), law1_ValueTimeMatchesSpec_j5 x5 = some r → ∀ fr1 st1, Sub 131 0 [] fr1 st1 [(10, vb x5)] [.box [ci r1.1.year, ci r1.1.month, ci r1.1.day, ci r1.1.hour, ci r1.1.minute, ci r1.1.second], .box [ci r2.1.year, ci r2.1.month, ci r2.1.day, ci r2.1.hour, ci r2.1.minute, ci r2.1.second], .box [ci r3.1.year, ci r3.1.month, ci r3.1.day, ci r3.1.hour, ci r3.1.minute, ci r3.1.second]] → K49 fr1 st1 := by
                      intro x5 h fr1 st1 hS
                      unfold law1_ValueTimeMatchesSpec_j5 at h
                      refine hK49 _ _ (XW.sub hS ?_)
                      refine XW.ret (by kernel_rfl) ?_
                      obtain rfl := Option.some.inj h
                      exact FinP.fin (.inr rfl) [] [vb x5] [] (by kernel_rfl) trivial (.one (.rfl _ rfl))
                    rcases Bool.eq_false_or_eq_true (r10.2 == r11.2) with b50 | b50
                    · have h := ift_t b50 h
                      refine XW.reg (by kernel_rfl) ?_
                      refine XO.go [11, 13, 15] 4 [17,18,126] [] [(17, vi r10.1), (18, vi r11.1), (126, vb (r10.2 == r11.2))] [.box [ci r1.1.year, ci r1.1.month, ci r1.1.day, ci r1.1.hour, ci r1.1.minute, ci r1.1.second], .box [ci r2.1.year, ci r2.1.month, ci r2.1.day, ci r2.1.hour, ci r2.1.minute, ci r2.1.second], .box [ci r3.1.year, ci r3.1.month, ci r3.1.day, ci r3.1.hour, ci r3.1.minute, ci r3.1.second]] [] (by kernel_rfl) trivial ?_
                      refine XO.setb 126 true (B := (r10.2 == r11.2)) rfl b50 ?_
                      refine XO.go [11, 13, 15] 5 [10] [] [(10, vb (r10.1 == r11.1))] [.box [ci r1.1.year, ci r1.1.month, ci r1.1.day, ci r1.1.hour, ci r1.1.minute, ci r1.1.second], .box [ci r2.1.year, ci r2.1.month, ci r2.1.day, ci r2.1.hour, ci r2.1.minute, ci r2.1.second], .box [ci r3.1.year, ci r3.1.month, ci r3.1.day, ci r3.1.hour, ci r3.1.minute, ci r3.1.second]] [] (by kernel_rfl) trivial ?_
                      refine XO.done (by kernel_rfl) ?_
                      exact hJ5 (r10.1 == r11.1) h _ _ (Sub.pick [10] (by kernel_rfl))
                    · have h := ift_f b50 h
                      refine XW.reg (by kernel_rfl) ?_
                      refine XO.go [11, 13, 15] 4 [17,18,126] [] [(17, vi r10.1), (18, vi r11.1), (126, vb (r10.2 == r11.2))] [.box [ci r1.1.year, ci r1.1.month, ci r1.1.day, ci r1.1.hour, ci r1.1.minute, ci r1.1.second], .box [ci r2.1.year, ci r2.1.month, ci r2.1.day, ci r2.1.hour, ci r2.1.minute, ci r2.1.second], .box [ci r3.1.year, ci r3.1.month, ci r3.1.day, ci r3.1.hour, ci r3.1.minute, ci r3.1.second]] [] (by kernel_rfl) trivial ?_
                      refine XO.setb 126 false (B := (r10.2 == r11.2)) rfl b50 ?_
                      refine XO.go [11, 13, 15] 5 [10] [] [(10, vb false)] [.box [ci r1.1.year, ci r1.1.month, ci r1.1.day, ci r1.1.hour, ci r1.1.minute, ci r1.1.second], .box [ci r2.1.year, ci r2.1.month, ci r2.1.day, ci r2.1.hour, ci r2.1.minute, ci r2.1.second], .box [ci r3.1.year, ci r3.1.month, ci r3.1.day, ci r3.1.hour, ci r3.1.minute, ci r3.1.second]] [] (by kernel_rfl) trivial ?_
                      refine XO.done (by kernel_rfl) ?_
                      exact hJ5 false h _ _ (Sub.pick [10] (by kernel_rfl))
                rcases Bool.eq_false_or_eq_true (r8.2 != r9.2) with b42 | b42
                · have h := ift_t b42 h
                  refine XW.reg (by kernel_rfl) ?_
                  refine XO.go [11, 13, 15] 4 [0,2,3,17,18,104] [] [(0, vi p1), (2, vi p3), (3, vs p4), (17, vi r8.1), (18, vi r9.1), (104, vb (r8.2 != r9.2))] [.box [ci r1.1.year, ci r1.1.month, ci r1.1.day, ci r1.1.hour, ci r1.1.minute, ci r1.1.second], .box [ci r2.1.year, ci r2.1.month, ci r2.1.day, ci r2.1.hour, ci r2.1.minute, ci r2.1.second], .box [ci r3.1.year, ci r3.1.month, ci r3.1.day, ci r3.1.hour, ci r3.1.minute, ci r3.1.second]] [] (by kernel_rfl) trivial ?_
                  refine XO.setb 104 true (B := (r8.2 != r9.2)) rfl b42 ?_
                  refine XO.go [11, 13, 15] 4 [0,2,3,108] [] [(0, vi p1), (2, vi p3), (3, vs p4), (108, vb true)] [.box [ci r1.1.year, ci r1.1.month, ci r1.1.day, ci r1.1.hour, ci r1.1.minute, ci r1.1.second], .box [ci r2.1.year, ci r2.1.month, ci r2.1.day, ci r2.1.hour, ci r2.1.minute, ci r2.1.second], .box [ci r3.1.year, ci r3.1.month, ci r3.1.day, ci r3.1.hour, ci r3.1.minute, ci r3.1.second]] [] (by kernel_rfl) trivial ?_
                  refine XO.done (by kernel_rfl) ?_
                  exact hJ4 true h _ _ (Sub.pick [0,2,3,108] (by kernel_rfl))
                · have h := ift_f b42 h
                  refine XW.reg (by kernel_rfl) ?_
                  refine XO.go [11, 13, 15] 4 [0,2,3,17,18,104] [] [(0, vi p1), (2, vi p3), (3, vs p4), (17, vi r8.1), (18, vi r9.1), (104, vb (r8.2 != r9.2))] [.box [ci r1.1.year, ci r1.1.month, ci r1.1.day, ci r1.1.hour, ci r1.1.minute, ci r1.1.second], .box [ci r2.1.year, ci r2.1.month, ci r2.1.day, ci r2.1.hour, ci r2.1.minute, ci r2.1.second], .box [ci r3.1.year, ci r3.1.month, ci r3.1.day, ci r3.1.hour, ci r3.1.minute, ci r3.1.second]] [] (by kernel_rfl) trivial ?_
                  refine XO.setb 104 false (B := (r8.2 != r9.2)) rfl b42 ?_
                  refine XO.go [11, 13, 15] 4 [0,2,3,108] [] [(0, vi p1), (2, vi p3), (3, vs p4), (108, vb (r8.1 != r9.1))] [.box [ci r1.1.year, ci r1.1.month, ci r1.1.day, ci r1.1.hour, ci r1.1.minute, ci r1.1.second], .box [ci r2.1.year, ci r2.1.month, ci r2.1.day, ci r2.1.hour, ci r2.1.minute, ci r2.1.second], .box [ci r3.1.year, ci r3.1.month, ci r3.1.day, ci r3.1.hour, ci r3.1.minute, ci r3.1.second]] [] (by kernel_rfl) trivial ?_
                  refine XO.done (by kernel_rfl) ?_
                  exact hJ4 (r8.1 != r9.1) h _ _ (Sub.pick [0,2,3,108] (by kernel_rfl))
            rcases Bool.eq_false_or_eq_true (r6.2 != r7.2) with b33 | b33
            · have h := ift_t b33 h
              refine XW.reg (by kernel_rfl) ?_
              refine XO.go [11, 13, 15] 4 [0,1,2,3,17,18,82] [] [(0, vi p1), (1, vi p2), (2, vi p3), (3, vs p4), (17, vi r6.1), (18, vi r7.1), (82, vb (r6.2 != r7.2))] [.box [ci r1.1.year, ci r1.1.month, ci r1.1.day, ci r1.1.hour, ci r1.1.minute, ci r1.1.second], .box [ci r2.1.year, ci r2.1.month, ci r2.1.day, ci r2.1.hour, ci r2.1.minute, ci r2.1.second], .box [ci r3.1.year, ci r3.1.month, ci r3.1.day, ci r3.1.hour, ci r3.1.minute, ci r3.1.second]] [] (by kernel_rfl) trivial ?_
              refine XO.setb 82 true (B := (r6.2 != r7.2)) rfl b33 ?_
              refine XO.go [11, 13, 15] 4 [0,1,2,3,86] [] [(0, vi p1), (1, vi p2), (2, vi p3), (3, vs p4), (86, vb true)] [.box [ci r1.1.year, ci r1.1.month, ci r1.1.day, ci r1.1.hour, ci r1.1.minute, ci r1.1.second], .box [ci r2.1.year, ci r2.1.month, ci r2.1.day, ci r2.1.hour, ci r2.1.minute, ci r2.1.second], .box [ci r3.1.year, ci r3.1.month, ci r3.1.day, ci r3.1.hour, ci r3.1.minute, ci r3.1.second]] [] (by kernel_rfl) trivial ?_
              refine XO.done (by kernel_rfl) ?_
              exact hJ3 true h _ _ (Sub.pick [0,1,2,3,86] (by kernel_rfl))
            · have h := ift_f b33 h
              refine XW.reg (by kernel_rfl) ?_
              refine XO.go [11, 13, 15] 4 [0,1,2,3,17,18,82] [] [(0, vi p1), (1, vi p2), (2, vi p3), (3, vs p4), (17, vi r6.1), (18, vi r7.1), (82, vb (r6.2 != r7.2))] [.box [ci r1.1.year, ci r1.1.month, ci r1.1.day, ci r1.1.hour, ci r1.1.minute, ci r1.1.second], .box [ci r2.1.year, ci r2.1.month, ci r2.1.day, ci r2.1.hour, ci r2.1.minute, ci r2.1.second], .box [ci r3.1.year, ci r3.1.month, ci r3.1.day, ci r3.1.hour, ci r3.1.minute, ci r3.1.second]] [] (by kernel_rfl) trivial ?_
              refine XO.setb 82 false (B := (r6.2 != r7.2)) rfl b33 ?_
              refine XO.go [11, 13, 15] 4 [0,1,2,3,86] [] [(0, vi p1), (1, vi p2), (2, vi p3), (3, vs p4), (86, vb (r6.1 != r7.1))] [.box [ci r1.1.year, ci r1.1.month, ci r1.1.day, ci r1.1.hour, ci r1.1.minute, ci r1.1.second], .box [ci r2.1.year, ci r2.1.month, ci r2.1.day, ci r2.1.hour, ci r2.1.minute, ci r2.1.second], .box [ci r3.1.year, ci r3.1.month, ci r3.1.day, ci r3.1.hour, ci r3.1.minute, ci r3.1.second]] [] (by kernel_rfl) trivial ?_
              refine XO.done (by kernel_rfl) ?_
              exact hJ3 (r6.1 != r7.1) h _ _ (Sub.pick [0,1,2,3,86] (by kernel_rfl))
        rcases Bool.eq_false_or_eq_true (r4.2 != r5.2) with b24 | b24
        · have h := ift_t b24 h
          refine XW.reg (by kernel_rfl) ?_
          refine XO.go [11, 13, 15] 4 [0,1,2,3,17,18,60] [] [(0, vi p1), (1, vi p2), (2, vi p3), (3, vs p4), (17, vi r4.1), (18, vi r5.1), (60, vb (r4.2 != r5.2))] [.box [ci r1.1.year, ci r1.1.month, ci r1.1.day, ci r1.1.hour, ci r1.1.minute, ci r1.1.second], .box [ci r2.1.year, ci r2.1.month, ci r2.1.day, ci r2.1.hour, ci r2.1.minute, ci r2.1.second], .box [ci r3.1.year, ci r3.1.month, ci r3.1.day, ci r3.1.hour, ci r3.1.minute, ci r3.1.second]] [] (by kernel_rfl) trivial ?_
          refine XO.setb 60 true (B := (r4.2 != r5.2)) rfl b24 ?_
          refine XO.go [11, 13, 15] 4 [0,1,2,3,64] [] [(0, vi p1), (1, vi p2), (2, vi p3), (3, vs p4), (64, vb true)] [.box [ci r1.1.year, ci r1.1.month, ci r1.1.day, ci r1.1.hour, ci r1.1.minute, ci r1.1.second], .box [ci r2.1.year, ci r2.1.month, ci r2.1.day, ci r2.1.hour, ci r2.1.minute, ci r2.1.second], .box [ci r3.1.year, ci r3.1.month, ci r3.1.day, ci r3.1.hour, ci r3.1.minute, ci r3.1.second]] [] (by kernel_rfl) trivial ?_
          refine XO.done (by kernel_rfl) ?_
          exact hJ2 true h _ _ (Sub.pick [0,1,2,3,64] (by kernel_rfl))
        · have h := ift_f b24 h
          refine XW.reg (by kernel_rfl) ?_
          refine XO.go [11, 13, 15] 4 [0,1,2,3,17,18,60] [] [(0, vi p1), (1, vi p2), (2, vi p3), (3, vs p4), (17, vi r4.1), (18, vi r5.1), (60, vb (r4.2 != r5.2))] [.box [ci r1.1.year, ci r1.1.month, ci r1.1.day, ci r1.1.hour, ci r1.1.minute, ci r1.1.second], .box [ci r2.1.year, ci r2.1.month, ci r2.1.day, ci r2.1.hour, ci r2.1.minute, ci r2.1.second], .box [ci r3.1.year, ci r3.1.month, ci r3.1.day, ci r3.1.hour, ci r3.1.minute, ci r3.1.second]] [] (by kernel_rfl) trivial ?_
          refine XO.setb 60 false (B := (r4.2 != r5.2)) rfl b24 ?_
          refine XO.go [11, 13, 15] 4 [0,1,2,3,64] [] [(0, vi p1), (1, vi p2), (2, vi p3), (3, vs p4), (64, vb (r4.1 != r5.1))] [.box [ci r1.1.year, ci r1.1.month, ci r1.1.day, ci r1.1.hour, ci r1.1.minute, ci r1.1.second], .box [ci r2.1.year, ci r2.1.month, ci r2.1.day, ci r2.1.hour, ci r2.1.minute, ci r2.1.second], .box [ci r3.1.year, ci r3.1.month, ci r3.1.day, ci r3.1.hour, ci r3.1.minute, ci r3.1.second]] [] (by kernel_rfl) trivial ?_
          refine XO.done (by kernel_rfl) ?_
          exact hJ2 (r4.1 != r5.1) h _ _ (Sub.pick [0,1,2,3,64] (by kernel_rfl))
    rcases Bool.eq_false_or_eq_true (r2.2 != r3.2) with b14 | b14
    · have h := ift_t b14 h
      refine XW.reg (by kernel_rfl) ?_
      refine XO.go [11, 13, 15] 4 [0,1,2,3,9,13,15,40] [] [(0, vi p1), (1, vi p2), (2, vi p3), (3, vs p4), (9, .one (.pv (.rp [[pi p5.year, pi p5.month, pi p5.day, pi p5.hour, pi p5.minute, pi p5.second]] 0 0))), (13, .one (.pt 1 0 0 0)), (15, .one (.pt 2 0 0 0)), (40, vb (r2.2 != r3.2))] [.box [ci r1.1.year, ci r1.1.month, ci r1.1.day, ci r1.1.hour, ci r1.1.minute, ci r1.1.second], .box [ci r2.1.year, ci r2.1.month, ci r2.1.day, ci r2.1.hour, ci r2.1.minute, ci r2.1.second], .box [ci r3.1.year, ci r3.1.month, ci r3.1.day, ci r3.1.hour, ci r3.1.minute, ci r3.1.second]] [] (by kernel_rfl) trivial ?_
      refine XO.setb 40 true (B := (r2.2 != r3.2)) rfl b14 ?_
      refine XO.go [11, 13, 15] 4 [0,1,2,3,9,44] [] [(0, vi p1), (1, vi p2), (2, vi p3), (3, vs p4), (9, .one (.pv (.rp [[pi p5.year, pi p5.month, pi p5.day, pi p5.hour, pi p5.minute, pi p5.second]] 0 0))), (44, vb true)] [.box [ci r1.1.year, ci r1.1.month, ci r1.1.day, ci r1.1.hour, ci r1.1.minute, ci r1.1.second], .box [ci r2.1.year, ci r2.1.month, ci r2.1.day, ci r2.1.hour, ci r2.1.minute, ci r2.1.second], .box [ci r3.1.year, ci r3.1.month, ci r3.1.day, ci r3.1.hour, ci r3.1.minute, ci r3.1.second]] [] (by kernel_rfl) trivial ?_
      refine XO.done (by kernel_rfl) ?_
      exact hJ1 true h _ _ (Sub.pick [0,1,2,3,9,44] (by kernel_rfl))
    · have h := ift_f b14 h
      obtain ⟨y1, y15, h⟩ := bnd_some h
      refine XW.reg (by kernel_rfl) ?_
      refine XO.go [11, 13, 15] 4 [0,1,2,3,9,13,15,40] [] [(0, vi p1), (1, vi p2), (2, vi p3), (3, vs p4), (9, .one (.pv (.rp [[pi p5.year, pi p5.month, pi p5.day, pi p5.hour, pi p5.minute, pi p5.second]] 0 0))), (13, .one (.pt 1 0 0 0)), (15, .one (.pt 2 0 0 0)), (40, vb (r2.2 != r3.2))] [.box [ci r1.1.year, ci r1.1.month, ci r1.1.day, ci r1.1.hour, ci r1.1.minute, ci r1.1.second], .box [ci r2.1.year, ci r2.1.month, ci r2.1.day, ci r2.1.hour, ci r2.1.minute, ci r2.1.second], .box [ci r3.1.year, ci r3.1.month, ci r3.1.day, ci r3.1.hour, ci r3.1.minute, ci r3.1.second]] [] (by kernel_rfl) trivial ?_
      refine XO.setb 40 false (B := (r2.2 != r3.2)) rfl b14 ?_
      refine XO.go [11, 13, 15] 3 [0,1,2,3,9,40,43] [] [(0, vi p1), (1, vi p2), (2, vi p3), (3, vs p4), (9, .one (.pv (.rp [[pi p5.year, pi p5.month, pi p5.day, pi p5.hour, pi p5.minute, pi p5.second]] 0 0))), (40, vb false), (43, vb (!((r2.1.year == r3.1.year) && ((r2.1.month == r3.1.month) && ((r2.1.day == r3.1.day) && ((r2.1.hour == r3.1.hour) && ((r2.1.minute == r3.1.minute) && ((r2.1.second == r3.1.second) && true))))))))] [.box [ci r1.1.year, ci r1.1.month, ci r1.1.day, ci r1.1.hour, ci r1.1.minute, ci r1.1.second], .box [ci r2.1.year, ci r2.1.month, ci r2.1.day, ci r2.1.hour, ci r2.1.minute, ci r2.1.second], .box [ci r3.1.year, ci r3.1.month, ci r3.1.day, ci r3.1.hour, ci r3.1.minute, ci r3.1.second]] [] (by kernel_rfl) trivial ?_
      rw [show (!((r2.1.year == r3.1.year) && ((r2.1.month == r3.1.month) && ((r2.1.day == r3.1.day) && ((r2.1.hour == r3.1.hour) && ((r2.1.minute == r3.1.minute) && ((r2.1.second == r3.1.second) && true))))))) = y1 from Option.some.inj y15]
      refine XO.go [11, 13, 15] 1 [0,1,2,3,9,44] [] [(0, vi p1), (1, vi p2), (2, vi p3), (3, vs p4), (9, .one (.pv (.rp [[pi p5.year, pi p5.month, pi p5.day, pi p5.hour, pi p5.minute, pi p5.second]] 0 0))), (44, vb y1)] [.box [ci r1.1.year, ci r1.1.month, ci r1.1.day, ci r1.1.hour, ci r1.1.minute, ci r1.1.second], .box [ci r2.1.year, ci r2.1.month, ci r2.1.day, ci r2.1.hour, ci r2.1.minute, ci r2.1.second], .box [ci r3.1.year, ci r3.1.month, ci r3.1.day, ci r3.1.hour, ci r3.1.minute, ci r3.1.second]] [] (by kernel_rfl) trivial ?_
      refine XO.done (by kernel_rfl) ?_
      exact hJ1 y1 h _ _ (Sub.pick [0,1,2,3,9,44] (by kernel_rfl))


end Go.Proofs.Ytdkmclmdemngfaa
