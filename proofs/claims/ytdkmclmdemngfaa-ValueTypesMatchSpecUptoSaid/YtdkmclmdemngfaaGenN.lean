/- Printed by a program: what the functions compute, and the proofs of their contracts. -/
import Derived.Test.YtdkmclmdemngfaaGenN2
namespace Go.Proofs.Ytdkmclmdemngfaa
open Go.SX Go
set_option linter.unusedVariables false
set_option linter.unusedSimpArgs false
set_option maxRecDepth 100000

def value_Walk_s8_j1 (z2 : (List (Int × Int))) : Option (Int × (List (Int × Int))) :=
    some ((0 : Int), z2)

def value_Walk_s8_l1 (q_value_Walk_s8 : (List GField) → (List (Int × Int)) → Option (Int × (List (Int × Int)))) (p1 : (List GField)) : Nat → (List (Int × Int)) → Int → Option (Int × (List (Int × Int)))
  | 0, _, _ => none
  | k1 + 1, z1, x1 =>
    ift (decide (x1 < (p1.length : Int)))
      (bnd (at? p1 x1) fun e1 =>
       bnd (value_CheckSchema_1 e1 z1) fun r1 =>
       ift (r1.1 != (0 : Int))
         (some (r1.1, r1.2))
         (bnd (q_value_Walk_s8 e1.type.fields r1.2) fun r2 =>
          ift (r2.1 != (0 : Int))
            (some (r2.1, r2.2))
            ((value_Walk_s8_l1 q_value_Walk_s8 p1 k1) r2.2 (IntKind.i64.wrap (x1 + (1 : Int))))))
      (value_Walk_s8_j1 z1)

def value_Walk_s8 : Nat → (List GField) → (List (Int × Int)) → Option (Int × (List (Int × Int)))
  | 0, _, _ => none
  | k0 + 1, p1, p2 =>
    value_Walk_s8_l1 (value_Walk_s8 k0) p1 BIG p2 (0 : Int)


theorem c_value_Walk_s8 : ∀ (k0 : Nat) (p1 : (List GField)) (p2 : (List (Int × Int))) (r : (Int × (List (Int × Int)))), value_Walk_s8 k0 p1 p2 = some r → MC Try.prog 36 [vl eField p1, .one (.fn 37 [.pt 0 0 0 0])] [.box [.mp 1], .raw (mapObj (kInt .i64) (eInt .i64) p2)] (vi r.1) [.box [.mp 1], .raw (mapObj (kInt .i64) (eInt .i64) r.2)]
  | 0, _, _, r, h => by rw [value_Walk_s8.eq_1] at h; cases h
  | k0 + 1, p1, p2, r, h => by
    rw [value_Walk_s8.eq_2] at h
    refine MC.of 2 (n := 30) (fn := Try.f36) (c := cd Try.f36 []) (by kernel_rfl) (by kernel_rfl) (by kernel_rfl) (Nat.le_of_ble_eq_true rfl) rfl ?_
    refine XW.seq (x := cd Try.f36 [0]) (y := cd Try.f36 [1]) (by kernel_rfl) fun K1 hK1 => ?_
    refine XW.reg (by kernel_rfl) ?_
    refine XO.go [6] 1 [0,1] [] [(0, vl eField p1), (1, .one (.fn 37 [.pt 0 0 0 0]))] [.box [.mp 1], .raw (mapObj (kInt .i64) (eInt .i64) p2)] [] (by kernel_rfl) trivial ?_
    refine XO.done (by kernel_rfl) ?_
    refine hK1 _ _ ?_
    refine XW.seq (x := cd Try.f36 [1,0]) (y := cd Try.f36 [1,1]) (by kernel_rfl) fun K2 hK2 => ?_
    have hJ1 : ∀ (z2 : (List (Int × Int))), value_Walk_s8_j1 z2 = some r → ∀ fr1 st1, Sub 30 2 [] fr1 st1 [] [.box [.mp 1], .raw (mapObj (kInt .i64) (eInt .i64) z2)] → K2 fr1 st1 := by
      intro z2 h fr1 st1 hS
      unfold value_Walk_s8_j1 at h
      refine hK2 _ _ (XW.sub hS ?_)
      refine XW.seq (x := cd Try.f36 [1,1,0]) (y := cd Try.f36 [1,1,1]) (by kernel_rfl) fun K21 hK21 => ?_
      refine XW.reg (by kernel_rfl) ?_
      refine XO.go [6] 1 [4] [] [(4, vi (0 : Int))] [.box [.mp 1], .raw (mapObj (kInt .i64) (eInt .i64) z2)] [] (by kernel_rfl) trivial ?_
      refine XO.done (by kernel_rfl) ?_
      refine hK21 _ _ ?_
      refine XW.ret (by kernel_rfl) ?_
      obtain rfl := Option.some.inj h
      exact FinM.fin (.inr rfl) [] [vi (0 : Int)] [] (by kernel_rfl) trivial (by kernel_rfl) (by kernel_rfl) (.one (.rfl _ rfl))
    refine XW.seq (x := cd Try.f36 [1,0,0]) (y := cd Try.f36 [1,0,1]) (by kernel_rfl) fun K3 hK3 => ?_
    refine XW.reg (by kernel_rfl) ?_
    refine XO.go [6] 2 [1,9,10] [] [(1, .one (.fn 37 [.pt 0 0 0 0])), (9, vl eField p1), (10, vi ((eField.els p1).length : Int))] [.box [.mp 1], .raw (mapObj (kInt .i64) (eInt .i64) p2)] [] (by kernel_rfl) trivial ?_
    rw [eField.len p1]
    refine XO.go [6] 1 [1,9,10,11] [] [(1, .one (.fn 37 [.pt 0 0 0 0])), (9, vl eField p1), (10, vi (p1.length : Int)), (11, vi (0 : Int))] [.box [.mp 1], .raw (mapObj (kInt .i64) (eInt .i64) p2)] [] (by kernel_rfl) trivial ?_
    refine XO.done (by kernel_rfl) ?_
    refine hK3 _ _ ?_
    refine XW.block (id := 0) (x := cd Try.f36 [1,0,1,0]) (by kernel_rfl) ?_
    refine XW.rounds' BIG (x := cd Try.f36 [1,0,1,0,0]) (by kernel_rfl) fun Q1 hQ1 => ?_
    have hL1 : ∀ (k1 : Nat) (z1 : (List (Int × Int))) (x1 : Int), value_Walk_s8_l1 (value_Walk_s8 k0) p1 k1 z1 x1 = some r → XR Try.prog 30 2 [] (cd Try.f36 [1,0,1,0,0]) Q1 k1 [(1, .one (.fn 37 [.pt 0 0 0 0])), (9, vl eField p1), (10, vi (p1.length : Int)), (11, vi x1)] [.box [.mp 1], .raw (mapObj (kInt .i64) (eInt .i64) z1)] := by
      intro k1
      induction k1 with
      | zero => intro z1 x1 h; rw [value_Walk_s8_l1.eq_1] at h; cases h
      | succ k1 ih1 =>
        intro z1 x1 h
        rw [value_Walk_s8_l1.eq_2] at h
        refine XW.seq (x := cd Try.f36 [1,0,1,0,0,0]) (y := cd Try.f36 [1,0,1,0,0,1]) (by kernel_rfl) fun K4 hK4 => ?_
        refine XW.reg (by kernel_rfl) ?_
        refine XO.go [6] 1 [1,9,10,11,12] [] [(1, .one (.fn 37 [.pt 0 0 0 0])), (9, vl eField p1), (10, vi (p1.length : Int)), (11, vi x1), (12, vb (decide (x1 < (p1.length : Int))))] [.box [.mp 1], .raw (mapObj (kInt .i64) (eInt .i64) z1)] [] (by kernel_rfl) trivial ?_
        refine XO.done (by kernel_rfl) ?_
        refine hK4 _ _ ?_
        refine XW.seq (x := cd Try.f36 [1,0,1,0,0,1,0]) (y := cd Try.f36 [1,0,1,0,0,1,1]) (by kernel_rfl) fun K5 hK5 => ?_
        refine XW.cond (x := .tmp 12) (a := cd Try.f36 [1,0,1,0,0,1,0,0]) (b := cd Try.f36 [1,0,1,0,0,1,0,1]) (t := (decide (x1 < (p1.length : Int)))) (by kernel_rfl) (by kernel_rfl) (fun b6 => ?_) (fun b6 => ?_)
        · have h := ift_t b6 h
          refine XW.skip (by kernel_rfl) ?_
          refine hK5 _ _ ?_
          refine XW.seq (x := cd Try.f36 [1,0,1,0,0,1,1,0]) (y := cd Try.f36 [1,0,1,0,0,1,1,1]) (by kernel_rfl) fun K7 hK7 => ?_
          refine XW.block (id := 1) (x := cd Try.f36 [1,0,1,0,0,1,1,0,0]) (by kernel_rfl) ?_
          refine XW.seq (x := cd Try.f36 [1,0,1,0,0,1,1,0,0,0]) (y := cd Try.f36 [1,0,1,0,0,1,1,0,0,1]) (by kernel_rfl) fun K8 hK8 => ?_
          obtain ⟨e1, a9, h⟩ := bnd_some h
          refine XW.reg (by kernel_rfl) ?_
          refine XO.go [6] 4 [1,6,9,10,11] [[pi e1.id, .s (.string e1.name), .s (.bool e1.need), pi e1.type.kind, pi e1.type.scale, .ro (eField.els e1.type.fields)]] [(1, .one (.fn 37 [.pt 0 0 0 0])), (6, .one (.pt 2 0 0 0)), (9, vl eField p1), (10, vi (p1.length : Int)), (11, vi x1)] [.box [.mp 1], .raw (mapObj (kInt .i64) (eInt .i64) z1), .box [ci e1.id, cst e1.name, cb e1.need, ci e1.type.kind, ci e1.type.scale, cl eField e1.type.fields]] [0 ≤ x1 ∧ x1 < ((eField.els p1).length : Int) ∧ elemsOk 6 (eField.els p1), (eField.els p1)[x1.toNat]? = some [pi e1.id, .s (.string e1.name), .s (.bool e1.need), pi e1.type.kind, pi e1.type.scale, .ro (eField.els e1.type.fields)]] (by kernel_rfl) (⟨eField.inb a9, ((eField.get a9).trans (by rcases e1 with ⟨_, _, _, ⟨_, _, _⟩⟩; rfl)), trivial⟩) ?_
          refine XO.done (by kernel_rfl) ?_
          refine hK8 _ _ ?_
          refine XW.seq (x := cd Try.f36 [1,0,1,0,0,1,1,0,0,1,0]) (y := cd Try.f36 [1,0,1,0,0,1,1,0,0,1,1]) (by kernel_rfl) fun K10 hK10 => ?_
          refine XW.seq (x := cd Try.f36 [1,0,1,0,0,1,1,0,0,1,0,0]) (y := cd Try.f36 [1,0,1,0,0,1,1,0,0,1,0,1]) (by kernel_rfl) fun K11 hK11 => ?_
          obtain ⟨r1, c12, h⟩ := bnd_some h
          refine XW.reg (by kernel_rfl) ?_
          refine XO.go [6] 2 [1,6,9,10,11,15,16] [] [(1, .one (.fn 37 [.pt 0 0 0 0])), (6, .one (.pt 2 0 0 0)), (9, vl eField p1), (10, vi (p1.length : Int)), (11, vi x1), (15, .one (.fn 37 [.pt 0 0 0 0])), (16, .ag [ci e1.id, cst e1.name, cb e1.need, ci e1.type.kind, ci e1.type.scale, cl eField e1.type.fields])] [.box [.mp 1], .raw (mapObj (kInt .i64) (eInt .i64) z1), .box [ci e1.id, cst e1.name, cb e1.need, ci e1.type.kind, ci e1.type.scale, cl eField e1.type.fields]] [] (by kernel_rfl) trivial ?_
          refine XO.calm 37 [.ag [ci e1.id, cst e1.name, cb e1.need, ci e1.type.kind, ci e1.type.scale, cl eField e1.type.fields], .one (.pt 0 0 0 0)] [.box [.mp 1], .raw (mapObj (kInt .i64) (eInt .i64) z1)] [.box [.mp 1], .raw (mapObj (kInt .i64) (eInt .i64) r1.2)] (vi r1.1) [0, 1] [(17, vi r1.1), (1, .one (.fn 37 [.pt 0 0 0 0])), (6, .one (.pt 2 0 0 0)), (9, vl eField p1), (10, vi (p1.length : Int)), (11, vi x1), (15, .one (.fn 37 [.pt 0 0 0 0])), (16, .ag [ci e1.id, cst e1.name, cb e1.need, ci e1.type.kind, ci e1.type.scale, cl eField e1.type.fields])] [.box [.mp 1], .raw (mapObj (kInt .i64) (eInt .i64) r1.2), .box [ci e1.id, cst e1.name, cb e1.need, ci e1.type.kind, ci e1.type.scale, cl eField e1.type.fields]] (by kernel_rfl) (c_value_CheckSchema_1 _ _ _ c12) (by kernel_rfl) (by kernel_rfl) (by kernel_rfl) (by kernel_rfl) ?_
          refine XO.go [6] 1 [1,6,7,9,10,11] [] [(1, .one (.fn 37 [.pt 0 0 0 0])), (6, .one (.pt 2 0 0 0)), (7, vi r1.1), (9, vl eField p1), (10, vi (p1.length : Int)), (11, vi x1)] [.box [.mp 1], .raw (mapObj (kInt .i64) (eInt .i64) r1.2), .box [ci e1.id, cst e1.name, cb e1.need, ci e1.type.kind, ci e1.type.scale, cl eField e1.type.fields]] [] (by kernel_rfl) trivial ?_
          refine XO.done (by kernel_rfl) ?_
          refine hK11 _ _ ?_
          refine XW.seq (x := cd Try.f36 [1,0,1,0,0,1,1,0,0,1,0,1,0]) (y := cd Try.f36 [1,0,1,0,0,1,1,0,0,1,0,1,1]) (by kernel_rfl) fun K13 hK13 => ?_
          refine XW.reg (by kernel_rfl) ?_
          refine XO.go [6] 2 [1,6,7,9,10,11,19] [] [(1, .one (.fn 37 [.pt 0 0 0 0])), (6, .one (.pt 2 0 0 0)), (7, vi r1.1), (9, vl eField p1), (10, vi (p1.length : Int)), (11, vi x1), (19, vb (r1.1 != (0 : Int)))] [.box [.mp 1], .raw (mapObj (kInt .i64) (eInt .i64) r1.2), .box [ci e1.id, cst e1.name, cb e1.need, ci e1.type.kind, ci e1.type.scale, cl eField e1.type.fields]] [] (by kernel_rfl) trivial ?_
          refine XO.done (by kernel_rfl) ?_
          refine hK13 _ _ ?_
          refine XW.cond (x := .tmp 19) (a := cd Try.f36 [1,0,1,0,0,1,1,0,0,1,0,1,1,0]) (b := cd Try.f36 [1,0,1,0,0,1,1,0,0,1,0,1,1,1]) (t := (r1.1 != (0 : Int))) (by kernel_rfl) (by kernel_rfl) (fun b14 => ?_) (fun b14 => ?_)
          · have h := ift_t b14 h
            refine XW.seq (x := cd Try.f36 [1,0,1,0,0,1,1,0,0,1,0,1,1,0,0]) (y := cd Try.f36 [1,0,1,0,0,1,1,0,0,1,0,1,1,0,1]) (by kernel_rfl) fun K15 hK15 => ?_
            refine XW.reg (by kernel_rfl) ?_
            refine XO.go [6] 2 [4] [] [(4, vi r1.1)] [.box [.mp 1], .raw (mapObj (kInt .i64) (eInt .i64) r1.2), .box [ci e1.id, cst e1.name, cb e1.need, ci e1.type.kind, ci e1.type.scale, cl eField e1.type.fields]] [] (by kernel_rfl) trivial ?_
            refine XO.done (by kernel_rfl) ?_
            refine hK15 _ _ ?_
            refine XW.ret (by kernel_rfl) ?_
            refine hQ1 _ _ _ ?_
            obtain rfl := Option.some.inj h
            exact FinM.fin (.inr rfl) [] [vi r1.1] [] (by kernel_rfl) trivial (by kernel_rfl) (by kernel_rfl) (.one (.rfl _ rfl))
          · have h := ift_f b14 h
            refine XW.skip (by kernel_rfl) ?_
            refine hK10 _ _ ?_
            refine XW.seq (x := cd Try.f36 [1,0,1,0,0,1,1,0,0,1,1,0]) (y := cd Try.f36 [1,0,1,0,0,1,1,0,0,1,1,1]) (by kernel_rfl) fun K16 hK16 => ?_
            obtain ⟨r2, c17, h⟩ := bnd_some h
            refine XW.reg (by kernel_rfl) ?_
            refine XO.go [6] 4 [1,9,10,11,23,24] [] [(1, .one (.fn 37 [.pt 0 0 0 0])), (9, vl eField p1), (10, vi (p1.length : Int)), (11, vi x1), (23, vl eField e1.type.fields), (24, .one (.fn 37 [.pt 0 0 0 0]))] [.box [.mp 1], .raw (mapObj (kInt .i64) (eInt .i64) r1.2), .box [ci e1.id, cst e1.name, cb e1.need, ci e1.type.kind, ci e1.type.scale, cl eField e1.type.fields]] [] (by kernel_rfl) trivial ?_
            refine XO.calm 36 [vl eField e1.type.fields, .one (.fn 37 [.pt 0 0 0 0])] [.box [.mp 1], .raw (mapObj (kInt .i64) (eInt .i64) r1.2)] [.box [.mp 1], .raw (mapObj (kInt .i64) (eInt .i64) r2.2)] (vi r2.1) [0, 1] [(25, vi r2.1), (1, .one (.fn 37 [.pt 0 0 0 0])), (9, vl eField p1), (10, vi (p1.length : Int)), (11, vi x1), (23, vl eField e1.type.fields), (24, .one (.fn 37 [.pt 0 0 0 0]))] [.box [.mp 1], .raw (mapObj (kInt .i64) (eInt .i64) r2.2), .box [ci e1.id, cst e1.name, cb e1.need, ci e1.type.kind, ci e1.type.scale, cl eField e1.type.fields]] (by kernel_rfl) (c_value_Walk_s8 k0 _ _ _ c17) (by kernel_rfl) (by kernel_rfl) (by kernel_rfl) (by kernel_rfl) ?_
            refine XO.go [6] 1 [1,8,9,10,11] [] [(1, .one (.fn 37 [.pt 0 0 0 0])), (8, vi r2.1), (9, vl eField p1), (10, vi (p1.length : Int)), (11, vi x1)] [.box [.mp 1], .raw (mapObj (kInt .i64) (eInt .i64) r2.2), .box [ci e1.id, cst e1.name, cb e1.need, ci e1.type.kind, ci e1.type.scale, cl eField e1.type.fields]] [] (by kernel_rfl) trivial ?_
            refine XO.done (by kernel_rfl) ?_
            refine hK16 _ _ ?_
            refine XW.seq (x := cd Try.f36 [1,0,1,0,0,1,1,0,0,1,1,1,0]) (y := cd Try.f36 [1,0,1,0,0,1,1,0,0,1,1,1,1]) (by kernel_rfl) fun K18 hK18 => ?_
            refine XW.reg (by kernel_rfl) ?_
            refine XO.go [6] 2 [1,8,9,10,11,27] [] [(1, .one (.fn 37 [.pt 0 0 0 0])), (8, vi r2.1), (9, vl eField p1), (10, vi (p1.length : Int)), (11, vi x1), (27, vb (r2.1 != (0 : Int)))] [.box [.mp 1], .raw (mapObj (kInt .i64) (eInt .i64) r2.2), .box [ci e1.id, cst e1.name, cb e1.need, ci e1.type.kind, ci e1.type.scale, cl eField e1.type.fields]] [] (by kernel_rfl) trivial ?_
            refine XO.done (by kernel_rfl) ?_
            refine hK18 _ _ ?_
            refine XW.cond (x := .tmp 27) (a := cd Try.f36 [1,0,1,0,0,1,1,0,0,1,1,1,1,0]) (b := cd Try.f36 [1,0,1,0,0,1,1,0,0,1,1,1,1,1]) (t := (r2.1 != (0 : Int))) (by kernel_rfl) (by kernel_rfl) (fun b19 => ?_) (fun b19 => ?_)
            · have h := ift_t b19 h
              refine XW.seq (x := cd Try.f36 [1,0,1,0,0,1,1,0,0,1,1,1,1,0,0]) (y := cd Try.f36 [1,0,1,0,0,1,1,0,0,1,1,1,1,0,1]) (by kernel_rfl) fun K20 hK20 => ?_
              refine XW.reg (by kernel_rfl) ?_
              refine XO.go [6] 2 [4] [] [(4, vi r2.1)] [.box [.mp 1], .raw (mapObj (kInt .i64) (eInt .i64) r2.2), .box [ci e1.id, cst e1.name, cb e1.need, ci e1.type.kind, ci e1.type.scale, cl eField e1.type.fields]] [] (by kernel_rfl) trivial ?_
              refine XO.done (by kernel_rfl) ?_
              refine hK20 _ _ ?_
              refine XW.ret (by kernel_rfl) ?_
              refine hQ1 _ _ _ ?_
              obtain rfl := Option.some.inj h
              exact FinM.fin (.inr rfl) [] [vi r2.1] [] (by kernel_rfl) trivial (by kernel_rfl) (by kernel_rfl) (.one (.rfl _ rfl))
            · have h := ift_f b19 h
              refine XW.skip (by kernel_rfl) ?_
              refine hK7 _ _ ?_
              refine XW.reg (by kernel_rfl) ?_
              refine XO.go [6] 2 [1,9,10,11] [] [(1, .one (.fn 37 [.pt 0 0 0 0])), (9, vl eField p1), (10, vi (p1.length : Int)), (11, vi (IntKind.i64.wrap (x1 + (1 : Int))))] [.box [.mp 1], .raw (mapObj (kInt .i64) (eInt .i64) r2.2), .box [ci e1.id, cst e1.name, cb e1.need, ci e1.type.kind, ci e1.type.scale, cl eField e1.type.fields]] [] (by kernel_rfl) trivial ?_
              refine XO.done (by kernel_rfl) ?_
              exact XR.sub (Sub.trans (Sub.pick (fr' := [(1, .one (.fn 37 [.pt 0 0 0 0])), (9, vl eField p1), (10, vi (p1.length : Int)), (11, vi (IntKind.i64.wrap (x1 + (1 : Int))))]) [1,9,10,11] (by kernel_rfl)) (Sub.take (fr' := [(1, .one (.fn 37 [.pt 0 0 0 0])), (9, vl eField p1), (10, vi (p1.length : Int)), (11, vi (IntKind.i64.wrap (x1 + (1 : Int))))]) 2 (by decide) (by kernel_rfl) (by kernel_rfl))) (ih1 r2.2 (IntKind.i64.wrap (x1 + (1 : Int))) h)
        · have h := ift_f b6 h
          refine XW.exit (id := 0) (by kernel_rfl) ?_
          refine hQ1 _ _ _ ?_
          exact hJ1 z1 h _ _ (Sub.pick [] (by kernel_rfl))
    exact XR.sub (Sub.pick [1,9,10,11] (by kernel_rfl)) (hL1 BIG p2 (0 : Int) h)

def value_CheckSchema (p1 : (List GField)) : Option Int :=
    bnd (value_CheckType (GType.mk (7 : Int) (0 : Int) p1)) fun r1 =>
    ift (r1 != (0 : Int))
      (some r1)
      (bnd (value_Walk_s8 BIG p1 []) fun r2 =>
       some r2.1)


theorem c_value_CheckSchema (p1 : (List GField)) (r : Int) (h : value_CheckSchema p1 = some r) : PC Try.prog 14 [vl eField p1] (vi r) := by
  unfold value_CheckSchema at h
  refine PC.of (n := 15) (fn := Try.f14) (c := cd Try.f14 []) (by kernel_rfl) (by kernel_rfl) (by kernel_rfl) (Nat.le_of_ble_eq_true rfl) ?_
  refine XW.seq (x := cd Try.f14 [0]) (y := cd Try.f14 [1]) (by kernel_rfl) fun K1 hK1 => ?_
  refine XW.reg (by kernel_rfl) ?_
  refine XO.go [4] 1 [0] [] [(0, vl eField p1)] [] [] (by kernel_rfl) trivial ?_
  refine XO.done (by kernel_rfl) ?_
  refine hK1 _ _ ?_
  refine XW.seq (x := cd Try.f14 [1,0]) (y := cd Try.f14 [1,1]) (by kernel_rfl) fun K2 hK2 => ?_
  refine XW.seq (x := cd Try.f14 [1,0,0]) (y := cd Try.f14 [1,0,1]) (by kernel_rfl) fun K3 hK3 => ?_
  obtain ⟨r1, c4, h⟩ := bnd_some h
  refine XW.reg (by kernel_rfl) ?_
  refine XO.go [4] 2 [0,6] [] [(0, vl eField p1), (6, .ag [ci (7 : Int), ci (0 : Int), cl eField p1])] [] [] (by kernel_rfl) trivial ?_
  refine XO.cal 13 [.ag [ci (7 : Int), ci (0 : Int), cl eField p1]] (vi r1) [(7, vi r1), (0, vl eField p1), (6, .ag [ci (7 : Int), ci (0 : Int), cl eField p1])] (by kernel_rfl) (c_value_CheckType _ _ c4) rfl rfl (by kernel_rfl) ?_
  refine XO.go [4] 1 [0,3] [] [(0, vl eField p1), (3, vi r1)] [] [] (by kernel_rfl) trivial ?_
  refine XO.done (by kernel_rfl) ?_
  refine hK3 _ _ ?_
  refine XW.seq (x := cd Try.f14 [1,0,1,0]) (y := cd Try.f14 [1,0,1,1]) (by kernel_rfl) fun K5 hK5 => ?_
  refine XW.reg (by kernel_rfl) ?_
  refine XO.go [4] 2 [0,3,9] [] [(0, vl eField p1), (3, vi r1), (9, vb (r1 != (0 : Int)))] [] [] (by kernel_rfl) trivial ?_
  refine XO.done (by kernel_rfl) ?_
  refine hK5 _ _ ?_
  refine XW.cond (x := .tmp 9) (a := cd Try.f14 [1,0,1,1,0]) (b := cd Try.f14 [1,0,1,1,1]) (t := (r1 != (0 : Int))) (by kernel_rfl) (by kernel_rfl) (fun b6 => ?_) (fun b6 => ?_)
  · have h := ift_t b6 h
    refine XW.seq (x := cd Try.f14 [1,0,1,1,0,0]) (y := cd Try.f14 [1,0,1,1,0,1]) (by kernel_rfl) fun K7 hK7 => ?_
    refine XW.reg (by kernel_rfl) ?_
    refine XO.go [4] 2 [2] [] [(2, vi r1)] [] [] (by kernel_rfl) trivial ?_
    refine XO.done (by kernel_rfl) ?_
    refine hK7 _ _ ?_
    refine XW.ret (by kernel_rfl) ?_
    obtain rfl := Option.some.inj h
    exact FinP.fin (.inr rfl) [] [vi r1] [] (by kernel_rfl) trivial (.one (.rfl _ rfl))
  · have h := ift_f b6 h
    refine XW.skip (by kernel_rfl) ?_
    refine hK2 _ _ ?_
    refine XW.seq (x := cd Try.f14 [1,1,0]) (y := cd Try.f14 [1,1,1]) (by kernel_rfl) fun K8 hK8 => ?_
    refine XW.reg (by kernel_rfl) ?_
    refine XO.mkm (kInt .i64) (eInt .i64) [(11, .one (.mp 0)), (0, vl eField p1), (3, vi r1), (9, vb (r1 != (0 : Int)))] [.raw (mapObj (kInt .i64) (eInt .i64) [])] (by kernel_rfl) (by kernel_rfl) (by kernel_rfl) ?_
    refine XO.go [4] 2 [0,4] [] [(0, vl eField p1), (4, .one (.pt 1 0 0 0))] [.raw (mapObj (kInt .i64) (eInt .i64) []), .box [.mp 0]] [] (by kernel_rfl) trivial ?_
    refine XO.done (by kernel_rfl) ?_
    refine hK8 _ _ ?_
    refine XW.seq (x := cd Try.f14 [1,1,1,0]) (y := cd Try.f14 [1,1,1,1]) (by kernel_rfl) fun K9 hK9 => ?_
    obtain ⟨r2, c10, h⟩ := bnd_some h
    refine XW.reg (by kernel_rfl) ?_
    refine XO.go [4] 2 [12,13] [] [(12, vl eField p1), (13, .one (.fn 37 [.pt 1 0 0 0]))] [.raw (mapObj (kInt .i64) (eInt .i64) []), .box [.mp 0]] [] (by kernel_rfl) trivial ?_
    refine XO.calm 36 [vl eField p1, .one (.fn 37 [.pt 0 0 0 0])] [.box [.mp 1], .raw (mapObj (kInt .i64) (eInt .i64) [])] [.box [.mp 1], .raw (mapObj (kInt .i64) (eInt .i64) r2.2)] (vi r2.1) [1, 0] [(14, vi r2.1), (12, vl eField p1), (13, .one (.fn 37 [.pt 1 0 0 0]))] [.raw (mapObj (kInt .i64) (eInt .i64) r2.2), .box [.mp 0]] (by kernel_rfl) (c_value_Walk_s8 BIG _ _ _ c10) (by kernel_rfl) (by kernel_rfl) (by kernel_rfl) (by kernel_rfl) ?_
    refine XO.go [4] 1 [2] [] [(2, vi r2.1)] [.raw (mapObj (kInt .i64) (eInt .i64) r2.2), .box [.mp 0]] [] (by kernel_rfl) trivial ?_
    refine XO.done (by kernel_rfl) ?_
    refine hK9 _ _ ?_
    refine XW.ret (by kernel_rfl) ?_
    obtain rfl := Option.some.inj h
    exact FinP.fin (.inr rfl) [] [vi r2.1] [] (by kernel_rfl) trivial (.one (.rfl _ rfl))

def ref1_Ids_j1 (l2 : List Int) : Option (List Int) :=
    some l2

def ref1_Ids_l1 (q_ref1_Ids : (List GField) → Option (List Int)) (p1 : (List GField)) : Nat → List Int → Int → Option (List Int)
  | 0, _, _ => none
  | k1 + 1, l1, x1 =>
    ift (decide (x1 < (p1.length : Int)))
      (bnd (at? p1 x1) fun e1 =>
       grd (l1.length + 1 ≤ 4294967296) <|
       bnd (q_ref1_Ids e1.type.fields) fun r1 =>
       grd ((l1 ++ [e1.id]).length + r1.length ≤ 4294967296) <|
       (ref1_Ids_l1 q_ref1_Ids p1 k1) ((l1 ++ [e1.id]) ++ r1) (IntKind.i64.wrap (x1 + (1 : Int))))
      (ref1_Ids_j1 l1)

def ref1_Ids : Nat → (List GField) → Option (List Int)
  | 0, _ => none
  | k0 + 1, p1 =>
    ref1_Ids_l1 (ref1_Ids k0) p1 BIG [] (0 : Int)


theorem c_ref1_Ids : ∀ (k0 : Nat) (p1 : (List GField)) (r : (List Int)), ref1_Ids k0 p1 = some r → PC Try.prog 38 [vl eField p1] (vl eI r)
  | 0, _, r, h => by rw [ref1_Ids.eq_1] at h; cases h
  | k0 + 1, p1, r, h => by
    rw [ref1_Ids.eq_2] at h
    refine PC.of (n := 29) (fn := Try.f38) (c := cd Try.f38 []) (by kernel_rfl) (by kernel_rfl) (by kernel_rfl) (Nat.le_of_ble_eq_true rfl) ?_
    refine XW.seq (x := cd Try.f38 [0]) (y := cd Try.f38 [1]) (by kernel_rfl) fun K1 hK1 => ?_
    refine XW.reg (by kernel_rfl) ?_
    refine XO.go [] 1 [0] [] [(0, vl eField p1)] [] [] (by kernel_rfl) trivial ?_
    refine XO.done (by kernel_rfl) ?_
    refine hK1 _ _ ?_
    refine XW.seq (x := cd Try.f38 [1,0]) (y := cd Try.f38 [1,1]) (by kernel_rfl) fun K2 hK2 => ?_
    refine XW.reg (by kernel_rfl) ?_
    refine XO.go [] 1 [0,3] [] [(0, vl eField p1), (3, .one (.pv (.s (.slice none 0 0))))] [] [] (by kernel_rfl) trivial ?_
    refine XO.done (by kernel_rfl) ?_
    refine hK2 _ _ ?_
    refine XW.seq (x := cd Try.f38 [1,1,0]) (y := cd Try.f38 [1,1,1]) (by kernel_rfl) fun K3 hK3 => ?_
    have hJ1 : ∀ (l2 : List Int), ref1_Ids_j1 l2 = some r → ∀ fr1 st1, Sub 29 0 [] fr1 st1 [(3, .one (.sl 0 1 0 l2.length))] [.arr 1 (eI.els l2)] → K3 fr1 st1 := by
      intro l2 h fr1 st1 hS
      unfold ref1_Ids_j1 at h
      refine hK3 _ _ (XW.sub hS ?_)
      refine XW.seq (x := cd Try.f38 [1,1,1,0]) (y := cd Try.f38 [1,1,1,1]) (by kernel_rfl) fun K15 hK15 => ?_
      refine XW.reg (by kernel_rfl) ?_
      refine XO.go [] 2 [2] [] [(2, .one (.sl 0 1 0 l2.length))] [.arr 1 (eI.els l2)] [] (by kernel_rfl) trivial ?_
      refine XO.done (by kernel_rfl) ?_
      refine hK15 _ _ ?_
      refine XW.ret (by kernel_rfl) ?_
      obtain rfl := Option.some.inj h
      exact FinP.fin (.inr rfl) [] [.one (.sl 0 1 0 l2.length)] [] (by kernel_rfl) trivial (.one (cf_sl eI l2 rfl rfl rfl))
    refine XW.seq (x := cd Try.f38 [1,1,0,0]) (y := cd Try.f38 [1,1,0,1]) (by kernel_rfl) fun K4 hK4 => ?_
    refine XW.reg (by kernel_rfl) ?_
    refine XO.go [] 2 [0,3,6] [] [(0, vl eField p1), (3, .one (.pv (.s (.slice none 0 0)))), (6, vi ((eField.els p1).length : Int))] [] [] (by kernel_rfl) trivial ?_
    rw [eField.len p1]
    refine XO.go [] 1 [0,3,6,7] [] [(0, vl eField p1), (3, .one (.pv (.s (.slice none 0 0)))), (6, vi (p1.length : Int)), (7, vi (0 : Int))] [] [] (by kernel_rfl) trivial ?_
    refine XO.done (by kernel_rfl) ?_
    refine hK4 _ _ ?_
    refine XW.block (id := 0) (x := cd Try.f38 [1,1,0,1,0]) (by kernel_rfl) ?_
    refine XW.sub (Sub.list (t := 3) (sz := 1) rfl) ?_
    refine XW.rounds' BIG (x := cd Try.f38 [1,1,0,1,0,0]) (by kernel_rfl) fun Q1 hQ1 => ?_
    have hL1 : ∀ (k1 : Nat) (l1 : List Int) (x1 : Int), ref1_Ids_l1 (ref1_Ids k0) p1 k1 l1 x1 = some r → XR Try.prog 29 0 [] (cd Try.f38 [1,1,0,1,0,0]) Q1 k1 [(0, vl eField p1), (3, .one (.sl 0 1 0 l1.length)), (6, vi (p1.length : Int)), (7, vi x1)] [.arr 1 (eI.els l1)] := by
      intro k1
      induction k1 with
      | zero => intro l1 x1 h; rw [ref1_Ids_l1.eq_1] at h; cases h
      | succ k1 ih1 =>
        intro l1 x1 h
        rw [ref1_Ids_l1.eq_2] at h
        refine XW.seq (x := cd Try.f38 [1,1,0,1,0,0,0]) (y := cd Try.f38 [1,1,0,1,0,0,1]) (by kernel_rfl) fun K5 hK5 => ?_
        refine XW.reg (by kernel_rfl) ?_
        refine XO.go [] 1 [0,3,6,7,8] [] [(0, vl eField p1), (3, .one (.sl 0 1 0 l1.length)), (6, vi (p1.length : Int)), (7, vi x1), (8, vb (decide (x1 < (p1.length : Int))))] [.arr 1 (eI.els l1)] [] (by kernel_rfl) trivial ?_
        refine XO.done (by kernel_rfl) ?_
        refine hK5 _ _ ?_
        refine XW.seq (x := cd Try.f38 [1,1,0,1,0,0,1,0]) (y := cd Try.f38 [1,1,0,1,0,0,1,1]) (by kernel_rfl) fun K6 hK6 => ?_
        refine XW.cond (x := .tmp 8) (a := cd Try.f38 [1,1,0,1,0,0,1,0,0]) (b := cd Try.f38 [1,1,0,1,0,0,1,0,1]) (t := (decide (x1 < (p1.length : Int)))) (by kernel_rfl) (by kernel_rfl) (fun b7 => ?_) (fun b7 => ?_)
        · have h := ift_t b7 h
          refine XW.skip (by kernel_rfl) ?_
          refine hK6 _ _ ?_
          refine XW.seq (x := cd Try.f38 [1,1,0,1,0,0,1,1,0]) (y := cd Try.f38 [1,1,0,1,0,0,1,1,1]) (by kernel_rfl) fun K8 hK8 => ?_
          refine XW.block (id := 1) (x := cd Try.f38 [1,1,0,1,0,0,1,1,0,0]) (by kernel_rfl) ?_
          refine XW.seq (x := cd Try.f38 [1,1,0,1,0,0,1,1,0,0,0]) (y := cd Try.f38 [1,1,0,1,0,0,1,1,0,0,1]) (by kernel_rfl) fun K9 hK9 => ?_
          refine XW.reg (by kernel_rfl) ?_
          refine XO.go [] 2 [0,3,4,6,7] [] [(0, vl eField p1), (3, .one (.sl 0 1 0 l1.length)), (4, vi x1), (6, vi (p1.length : Int)), (7, vi x1)] [.arr 1 (eI.els l1)] [] (by kernel_rfl) trivial ?_
          refine XO.done (by kernel_rfl) ?_
          refine hK9 _ _ ?_
          refine XW.seq (x := cd Try.f38 [1,1,0,1,0,0,1,1,0,0,1,0]) (y := cd Try.f38 [1,1,0,1,0,0,1,1,0,0,1,1]) (by kernel_rfl) fun K10 hK10 => ?_
          obtain ⟨e1, a11, h⟩ := bnd_some h
          obtain ⟨g12, h⟩ := grd_some h
          refine XW.reg (by kernel_rfl) ?_
          refine XO.go [] 8 [0,4,6,7,17] [[pi e1.id, .s (.string e1.name), .s (.bool e1.need), pi e1.type.kind, pi e1.type.scale, .ro (eField.els e1.type.fields)]] [(0, vl eField p1), (4, vi x1), (6, vi (p1.length : Int)), (7, vi x1), (17, .one (.sl 0 1 0 (l1.length + (eI.els [e1.id]).length)))] [.arr 1 (eI.els l1 ++ eI.els [e1.id])] [0 ≤ x1 ∧ x1 < ((eField.els p1).length : Int) ∧ elemsOk 6 (eField.els p1), (eField.els p1)[x1.toNat]? = some [pi e1.id, .s (.string e1.name), .s (.bool e1.need), pi e1.type.kind, pi e1.type.scale, .ro (eField.els e1.type.fields)], elemsOk 1 (eI.els [e1.id]), l1.length = (eI.els l1).length, l1.length + (eI.els [e1.id]).length ≤ 4294967296] (by kernel_rfl) (⟨eField.inb a11, ((eField.get a11).trans (by rcases e1 with ⟨_, _, _, ⟨_, _, _⟩⟩; rfl)), eI.ok _, (eI.len l1).symm, g12, trivial⟩) ?_
          rw [show l1.length + (eI.els [e1.id]).length = (l1 ++ [e1.id]).length from eI.lapp _ _]
          rw [show eI.els l1 ++ eI.els [e1.id] = eI.els (l1 ++ [e1.id]) from eI.app2 _ _]
          refine XO.go [] 1 [0,3,4,6,7] [] [(0, vl eField p1), (3, .one (.sl 0 1 0 ((l1 ++ [e1.id]).length))), (4, vi x1), (6, vi (p1.length : Int)), (7, vi x1)] [.arr 1 (eI.els (l1 ++ [e1.id]))] [] (by kernel_rfl) trivial ?_
          refine XO.done (by kernel_rfl) ?_
          refine hK10 _ _ ?_
          obtain ⟨r1, c13, h⟩ := bnd_some h
          obtain ⟨g14, h⟩ := grd_some h
          refine XW.reg (by kernel_rfl) ?_
          refine XO.go [] 7 [0,6,7,18,24] [[pi e1.id, .s (.string e1.name), .s (.bool e1.need), pi e1.type.kind, pi e1.type.scale, .ro (eField.els e1.type.fields)]] [(0, vl eField p1), (6, vi (p1.length : Int)), (7, vi x1), (18, .one (.sl 0 1 0 ((l1 ++ [e1.id]).length))), (24, vl eField e1.type.fields)] [.arr 1 (eI.els (l1 ++ [e1.id]))] [0 ≤ x1 ∧ x1 < ((eField.els p1).length : Int) ∧ elemsOk 6 (eField.els p1), (eField.els p1)[x1.toNat]? = some [pi e1.id, .s (.string e1.name), .s (.bool e1.need), pi e1.type.kind, pi e1.type.scale, .ro (eField.els e1.type.fields)]] (by kernel_rfl) (⟨eField.inb a11, ((eField.get a11).trans (by rcases e1 with ⟨_, _, _, ⟨_, _, _⟩⟩; rfl)), trivial⟩) ?_
          refine XO.cal 38 [vl eField e1.type.fields] (vl eI r1) [(25, vl eI r1), (0, vl eField p1), (6, vi (p1.length : Int)), (7, vi x1), (18, .one (.sl 0 1 0 ((l1 ++ [e1.id]).length))), (24, vl eField e1.type.fields)] (by kernel_rfl) (c_ref1_Ids k0 _ _ c13) rfl rfl (by kernel_rfl) ?_
          refine XO.go [] 1 [0,6,7,26] [] [(0, vl eField p1), (6, vi (p1.length : Int)), (7, vi x1), (26, .one (.sl 0 1 0 ((l1 ++ [e1.id]).length + (eI.els r1).length)))] [.arr 1 (eI.els (l1 ++ [e1.id]) ++ eI.els r1)] [elemsOk 1 (eI.els r1), (l1 ++ [e1.id]).length = (eI.els (l1 ++ [e1.id])).length, (l1 ++ [e1.id]).length + (eI.els r1).length ≤ 4294967296] (by kernel_rfl) (⟨eI.ok _, (eI.len (l1 ++ [e1.id])).symm, (by rw [eI.len]; exact g14), trivial⟩) ?_
          rw [show (l1 ++ [e1.id]).length + (eI.els r1).length = ((l1 ++ [e1.id]) ++ r1).length from eI.lapp _ _]
          rw [show eI.els (l1 ++ [e1.id]) ++ eI.els r1 = eI.els ((l1 ++ [e1.id]) ++ r1) from eI.app2 _ _]
          refine XO.go [] 1 [0,3,6,7] [] [(0, vl eField p1), (3, .one (.sl 0 1 0 (((l1 ++ [e1.id]) ++ r1).length))), (6, vi (p1.length : Int)), (7, vi x1)] [.arr 1 (eI.els ((l1 ++ [e1.id]) ++ r1))] [] (by kernel_rfl) trivial ?_
          refine XO.done (by kernel_rfl) ?_
          refine hK8 _ _ ?_
          refine XW.reg (by kernel_rfl) ?_
          refine XO.go [] 2 [0,3,6,7] [] [(0, vl eField p1), (3, .one (.sl 0 1 0 (((l1 ++ [e1.id]) ++ r1).length))), (6, vi (p1.length : Int)), (7, vi (IntKind.i64.wrap (x1 + (1 : Int))))] [.arr 1 (eI.els ((l1 ++ [e1.id]) ++ r1))] [] (by kernel_rfl) trivial ?_
          refine XO.done (by kernel_rfl) ?_
          exact XR.sub (Sub.pick [0,3,6,7] (by kernel_rfl)) (ih1 ((l1 ++ [e1.id]) ++ r1) (IntKind.i64.wrap (x1 + (1 : Int))) h)
        · have h := ift_f b7 h
          refine XW.exit (id := 0) (by kernel_rfl) ?_
          refine hQ1 _ _ _ ?_
          exact hJ1 l1 h _ _ (Sub.pick [3] (by kernel_rfl))
    exact XR.sub (Sub.pick [0,3,6,7] (by kernel_rfl)) (hL1 BIG [] (0 : Int) h)

def ref1_CheckSchema_j1 (rec1 : Int → Option Int) (x1 : Int) : Option Int :=
    rec1 (IntKind.i64.wrap (x1 + (1 : Int)))

def ref1_CheckSchema_l2 (rec1 : Int → Option Int) (r2 : (List Int)) (x1 : Int) (e1 : Int) : Nat → Int → Option Int
  | 0, _ => none
  | k2 + 1, x2 =>
    ift (decide (x2 < x1))
      (bnd (at? r2 x2) fun e2 =>
       ift (e2 == e1)
         (some (5 : Int))
         ((ref1_CheckSchema_l2 rec1 r2 x1 e1 k2) (IntKind.i64.wrap (x2 + (1 : Int)))))
      (ref1_CheckSchema_j1 rec1 x1)

def ref1_CheckSchema_j2 : Option Int :=
    some (0 : Int)

def ref1_CheckSchema_l1 (r2 : (List Int)) : Nat → Int → Option Int
  | 0, _ => none
  | k1 + 1, x1 =>
    ift (decide (x1 < (r2.length : Int)))
      (bnd (at? r2 x1) fun e1 =>
       ift (decide (e1 < (1 : Int)))
         (some (3 : Int))
         (ref1_CheckSchema_l2 (ref1_CheckSchema_l1 r2 k1) r2 x1 e1 BIG (0 : Int)))
      (ref1_CheckSchema_j2)

def ref1_CheckSchema (p1 : (List GField)) : Option Int :=
    bnd (ref1_CheckType (GType.mk (7 : Int) (0 : Int) p1)) fun r1 =>
    ift (r1 != (0 : Int))
      (some r1)
      (bnd (ref1_Ids BIG p1) fun r2 =>
       ref1_CheckSchema_l1 r2 BIG (0 : Int))


theorem c_ref1_CheckSchema (p1 : (List GField)) (r : Int) (h : ref1_CheckSchema p1 = some r) : PC Try.prog 15 [vl eField p1] (vi r) := by
  unfold ref1_CheckSchema at h
  refine PC.of (n := 40) (fn := Try.f15) (c := cd Try.f15 []) (by kernel_rfl) (by kernel_rfl) (by kernel_rfl) (Nat.le_of_ble_eq_true rfl) ?_
  refine XW.seq (x := cd Try.f15 [0]) (y := cd Try.f15 [1]) (by kernel_rfl) fun K1 hK1 => ?_
  refine XW.reg (by kernel_rfl) ?_
  refine XO.go [] 1 [0] [] [(0, vl eField p1)] [] [] (by kernel_rfl) trivial ?_
  refine XO.done (by kernel_rfl) ?_
  refine hK1 _ _ ?_
  refine XW.seq (x := cd Try.f15 [1,0]) (y := cd Try.f15 [1,1]) (by kernel_rfl) fun K2 hK2 => ?_
  refine XW.seq (x := cd Try.f15 [1,0,0]) (y := cd Try.f15 [1,0,1]) (by kernel_rfl) fun K3 hK3 => ?_
  obtain ⟨r1, c4, h⟩ := bnd_some h
  refine XW.reg (by kernel_rfl) ?_
  refine XO.go [] 2 [0,8] [] [(0, vl eField p1), (8, .ag [ci (7 : Int), ci (0 : Int), cl eField p1])] [] [] (by kernel_rfl) trivial ?_
  refine XO.cal 12 [.ag [ci (7 : Int), ci (0 : Int), cl eField p1]] (vi r1) [(9, vi r1), (0, vl eField p1), (8, .ag [ci (7 : Int), ci (0 : Int), cl eField p1])] (by kernel_rfl) (c_ref1_CheckType _ _ c4) rfl rfl (by kernel_rfl) ?_
  refine XO.go [] 1 [0,3] [] [(0, vl eField p1), (3, vi r1)] [] [] (by kernel_rfl) trivial ?_
  refine XO.done (by kernel_rfl) ?_
  refine hK3 _ _ ?_
  refine XW.seq (x := cd Try.f15 [1,0,1,0]) (y := cd Try.f15 [1,0,1,1]) (by kernel_rfl) fun K5 hK5 => ?_
  refine XW.reg (by kernel_rfl) ?_
  refine XO.go [] 2 [0,3,11] [] [(0, vl eField p1), (3, vi r1), (11, vb (r1 != (0 : Int)))] [] [] (by kernel_rfl) trivial ?_
  refine XO.done (by kernel_rfl) ?_
  refine hK5 _ _ ?_
  refine XW.cond (x := .tmp 11) (a := cd Try.f15 [1,0,1,1,0]) (b := cd Try.f15 [1,0,1,1,1]) (t := (r1 != (0 : Int))) (by kernel_rfl) (by kernel_rfl) (fun b6 => ?_) (fun b6 => ?_)
  · have h := ift_t b6 h
    refine XW.seq (x := cd Try.f15 [1,0,1,1,0,0]) (y := cd Try.f15 [1,0,1,1,0,1]) (by kernel_rfl) fun K7 hK7 => ?_
    refine XW.reg (by kernel_rfl) ?_
    refine XO.go [] 2 [2] [] [(2, vi r1)] [] [] (by kernel_rfl) trivial ?_
    refine XO.done (by kernel_rfl) ?_
    refine hK7 _ _ ?_
    refine XW.ret (by kernel_rfl) ?_
    obtain rfl := Option.some.inj h
    exact FinP.fin (.inr rfl) [] [vi r1] [] (by kernel_rfl) trivial (.one (.rfl _ rfl))
  · have h := ift_f b6 h
    refine XW.skip (by kernel_rfl) ?_
    refine hK2 _ _ ?_
    refine XW.seq (x := cd Try.f15 [1,1,0]) (y := cd Try.f15 [1,1,1]) (by kernel_rfl) fun K8 hK8 => ?_
    obtain ⟨r2, c9, h⟩ := bnd_some h
    refine XW.reg (by kernel_rfl) ?_
    refine XO.go [] 1 [13] [] [(13, vl eField p1)] [] [] (by kernel_rfl) trivial ?_
    refine XO.cal 38 [vl eField p1] (vl eI r2) [(14, vl eI r2), (13, vl eField p1)] (by kernel_rfl) (c_ref1_Ids BIG _ _ c9) rfl rfl (by kernel_rfl) ?_
    refine XO.go [] 1 [4] [] [(4, vl eI r2)] [] [] (by kernel_rfl) trivial ?_
    refine XO.done (by kernel_rfl) ?_
    refine hK8 _ _ ?_
    refine XW.seq (x := cd Try.f15 [1,1,1,0]) (y := cd Try.f15 [1,1,1,1]) (by kernel_rfl) fun K10 hK10 => ?_
    have hJ2 : ∀ (_ : Unit), ref1_CheckSchema_j2 = some r → ∀ fr1 st1, Sub 40 0 [] fr1 st1 [] [] → K10 fr1 st1 := by
      intro _ h fr1 st1 hS
      unfold ref1_CheckSchema_j2 at h
      refine hK10 _ _ (XW.sub hS ?_)
      refine XW.seq (x := cd Try.f15 [1,1,1,1,0]) (y := cd Try.f15 [1,1,1,1,1]) (by kernel_rfl) fun K31 hK31 => ?_
      refine XW.reg (by kernel_rfl) ?_
      refine XO.go [] 1 [2] [] [(2, vi (0 : Int))] [] [] (by kernel_rfl) trivial ?_
      refine XO.done (by kernel_rfl) ?_
      refine hK31 _ _ ?_
      refine XW.ret (by kernel_rfl) ?_
      obtain rfl := Option.some.inj h
      exact FinP.fin (.inr rfl) [] [vi (0 : Int)] [] (by kernel_rfl) trivial (.one (.rfl _ rfl))
    refine XW.seq (x := cd Try.f15 [1,1,1,0,0]) (y := cd Try.f15 [1,1,1,0,1]) (by kernel_rfl) fun K11 hK11 => ?_
    refine XW.reg (by kernel_rfl) ?_
    refine XO.go [] 2 [4,16] [] [(4, vl eI r2), (16, vi ((eI.els r2).length : Int))] [] [] (by kernel_rfl) trivial ?_
    rw [eI.len r2]
    refine XO.go [] 1 [4,16,17] [] [(4, vl eI r2), (16, vi (r2.length : Int)), (17, vi (0 : Int))] [] [] (by kernel_rfl) trivial ?_
    refine XO.done (by kernel_rfl) ?_
    refine hK11 _ _ ?_
    refine XW.block (id := 0) (x := cd Try.f15 [1,1,1,0,1,0]) (by kernel_rfl) ?_
    refine XW.rounds' BIG (x := cd Try.f15 [1,1,1,0,1,0,0]) (by kernel_rfl) fun Q1 hQ1 => ?_
    have hL1 : ∀ (k1 : Nat) (x1 : Int), ref1_CheckSchema_l1 r2 k1 x1 = some r → XR Try.prog 40 0 [] (cd Try.f15 [1,1,1,0,1,0,0]) Q1 k1 [(4, vl eI r2), (16, vi (r2.length : Int)), (17, vi x1)] [] := by
      intro k1
      induction k1 with
      | zero => intro x1 h; rw [ref1_CheckSchema_l1.eq_1] at h; cases h
      | succ k1 ih1 =>
        intro x1 h
        rw [ref1_CheckSchema_l1.eq_2] at h
        refine XW.seq (x := cd Try.f15 [1,1,1,0,1,0,0,0]) (y := cd Try.f15 [1,1,1,0,1,0,0,1]) (by kernel_rfl) fun K12 hK12 => ?_
        refine XW.reg (by kernel_rfl) ?_
        refine XO.go [] 1 [4,16,17,18] [] [(4, vl eI r2), (16, vi (r2.length : Int)), (17, vi x1), (18, vb (decide (x1 < (r2.length : Int))))] [] [] (by kernel_rfl) trivial ?_
        refine XO.done (by kernel_rfl) ?_
        refine hK12 _ _ ?_
        refine XW.seq (x := cd Try.f15 [1,1,1,0,1,0,0,1,0]) (y := cd Try.f15 [1,1,1,0,1,0,0,1,1]) (by kernel_rfl) fun K13 hK13 => ?_
        refine XW.cond (x := .tmp 18) (a := cd Try.f15 [1,1,1,0,1,0,0,1,0,0]) (b := cd Try.f15 [1,1,1,0,1,0,0,1,0,1]) (t := (decide (x1 < (r2.length : Int)))) (by kernel_rfl) (by kernel_rfl) (fun b14 => ?_) (fun b14 => ?_)
        · have h := ift_t b14 h
          refine XW.skip (by kernel_rfl) ?_
          refine hK13 _ _ ?_
          refine XW.seq (x := cd Try.f15 [1,1,1,0,1,0,0,1,1,0]) (y := cd Try.f15 [1,1,1,0,1,0,0,1,1,1]) (by kernel_rfl) fun K15 hK15 => ?_
          have hJ1 : ∀ (_ : Unit), ref1_CheckSchema_j1 (ref1_CheckSchema_l1 r2 k1) x1 = some r → ∀ fr1 st1, Sub 40 0 [] fr1 st1 [(4, vl eI r2), (16, vi (r2.length : Int)), (17, vi x1)] [] → K15 fr1 st1 := by
            intro _ h fr1 st1 hS
            unfold ref1_CheckSchema_j1 at h
            refine hK15 _ _ (XW.sub hS ?_)
            refine XW.reg (by kernel_rfl) ?_
            refine XO.go [] 2 [4,16,17] [] [(4, vl eI r2), (16, vi (r2.length : Int)), (17, vi (IntKind.i64.wrap (x1 + (1 : Int))))] [] [] (by kernel_rfl) trivial ?_
            refine XO.done (by kernel_rfl) ?_
            exact XR.sub (Sub.pick [4,16,17] (by kernel_rfl)) (ih1 (IntKind.i64.wrap (x1 + (1 : Int))) h)
          refine XW.block (id := 1) (x := cd Try.f15 [1,1,1,0,1,0,0,1,1,0,0]) (by kernel_rfl) ?_
          refine XW.seq (x := cd Try.f15 [1,1,1,0,1,0,0,1,1,0,0,0]) (y := cd Try.f15 [1,1,1,0,1,0,0,1,1,0,0,1]) (by kernel_rfl) fun K16 hK16 => ?_
          refine XW.reg (by kernel_rfl) ?_
          refine XO.go [] 2 [4,5,16,17] [] [(4, vl eI r2), (5, vi x1), (16, vi (r2.length : Int)), (17, vi x1)] [] [] (by kernel_rfl) trivial ?_
          refine XO.done (by kernel_rfl) ?_
          refine hK16 _ _ ?_
          refine XW.seq (x := cd Try.f15 [1,1,1,0,1,0,0,1,1,0,0,1,0]) (y := cd Try.f15 [1,1,1,0,1,0,0,1,1,0,0,1,1]) (by kernel_rfl) fun K17 hK17 => ?_
          refine XW.seq (x := cd Try.f15 [1,1,1,0,1,0,0,1,1,0,0,1,0,0]) (y := cd Try.f15 [1,1,1,0,1,0,0,1,1,0,0,1,0,1]) (by kernel_rfl) fun K18 hK18 => ?_
          obtain ⟨e1, a19, h⟩ := bnd_some h
          refine XW.reg (by kernel_rfl) ?_
          refine XO.go [] 5 [4,5,16,17,24] [[pi e1]] [(4, vl eI r2), (5, vi x1), (16, vi (r2.length : Int)), (17, vi x1), (24, vb (decide (e1 < (1 : Int))))] [] [0 ≤ x1 ∧ x1 < ((eI.els r2).length : Int) ∧ elemsOk 1 (eI.els r2), (eI.els r2)[x1.toNat]? = some [pi e1]] (by kernel_rfl) (⟨eI.inb a19, (eI.get a19), trivial⟩) ?_
          refine XO.done (by kernel_rfl) ?_
          refine hK18 _ _ ?_
          refine XW.cond (x := .tmp 24) (a := cd Try.f15 [1,1,1,0,1,0,0,1,1,0,0,1,0,1,0]) (b := cd Try.f15 [1,1,1,0,1,0,0,1,1,0,0,1,0,1,1]) (t := (decide (e1 < (1 : Int)))) (by kernel_rfl) (by kernel_rfl) (fun b20 => ?_) (fun b20 => ?_)
          · have h := ift_t b20 h
            refine XW.seq (x := cd Try.f15 [1,1,1,0,1,0,0,1,1,0,0,1,0,1,0,0]) (y := cd Try.f15 [1,1,1,0,1,0,0,1,1,0,0,1,0,1,0,1]) (by kernel_rfl) fun K21 hK21 => ?_
            refine XW.reg (by kernel_rfl) ?_
            refine XO.go [] 1 [2] [] [(2, vi (3 : Int))] [] [] (by kernel_rfl) trivial ?_
            refine XO.done (by kernel_rfl) ?_
            refine hK21 _ _ ?_
            refine XW.ret (by kernel_rfl) ?_
            refine hQ1 _ _ _ ?_
            obtain rfl := Option.some.inj h
            exact FinP.fin (.inr rfl) [] [vi (3 : Int)] [] (by kernel_rfl) trivial (.one (.rfl _ rfl))
          · have h := ift_f b20 h
            refine XW.skip (by kernel_rfl) ?_
            refine hK17 _ _ ?_
            refine XW.seq (x := cd Try.f15 [1,1,1,0,1,0,0,1,1,0,0,1,1,0]) (y := cd Try.f15 [1,1,1,0,1,0,0,1,1,0,0,1,1,1]) (by kernel_rfl) fun K22 hK22 => ?_
            refine XW.reg (by kernel_rfl) ?_
            refine XO.go [] 1 [4,5,6,16,17] [] [(4, vl eI r2), (5, vi x1), (6, vi (0 : Int)), (16, vi (r2.length : Int)), (17, vi x1)] [] [] (by kernel_rfl) trivial ?_
            refine XO.done (by kernel_rfl) ?_
            refine hK22 _ _ ?_
            refine XW.block (id := 2) (x := cd Try.f15 [1,1,1,0,1,0,0,1,1,0,0,1,1,1,0]) (by kernel_rfl) ?_
            refine XW.rounds' BIG (x := cd Try.f15 [1,1,1,0,1,0,0,1,1,0,0,1,1,1,0,0]) (by kernel_rfl) fun Q2 hQ2 => ?_
            have hL2 : ∀ (k2 : Nat) (x2 : Int), ref1_CheckSchema_l2 (ref1_CheckSchema_l1 r2 k1) r2 x1 e1 k2 x2 = some r → XR Try.prog 40 0 [] (cd Try.f15 [1,1,1,0,1,0,0,1,1,0,0,1,1,1,0,0]) Q2 k2 [(4, vl eI r2), (5, vi x1), (6, vi x2), (16, vi (r2.length : Int)), (17, vi x1)] [] := by
              intro k2
              induction k2 with
              | zero => intro x2 h; rw [ref1_CheckSchema_l2.eq_1] at h; cases h
              | succ k2 ih2 =>
                intro x2 h
                rw [ref1_CheckSchema_l2.eq_2] at h
                refine XW.seq (x := cd Try.f15 [1,1,1,0,1,0,0,1,1,0,0,1,1,1,0,0,0]) (y := cd Try.f15 [1,1,1,0,1,0,0,1,1,0,0,1,1,1,0,0,1]) (by kernel_rfl) fun K23 hK23 => ?_
                refine XW.seq (x := cd Try.f15 [1,1,1,0,1,0,0,1,1,0,0,1,1,1,0,0,0,0]) (y := cd Try.f15 [1,1,1,0,1,0,0,1,1,0,0,1,1,1,0,0,0,1]) (by kernel_rfl) fun K24 hK24 => ?_
                refine XW.reg (by kernel_rfl) ?_
                refine XO.go [] 3 [4,5,6,16,17,27] [] [(4, vl eI r2), (5, vi x1), (6, vi x2), (16, vi (r2.length : Int)), (17, vi x1), (27, vb (decide (x2 < x1)))] [] [] (by kernel_rfl) trivial ?_
                refine XO.done (by kernel_rfl) ?_
                refine hK24 _ _ ?_
                refine XW.cond (x := .tmp 27) (a := cd Try.f15 [1,1,1,0,1,0,0,1,1,0,0,1,1,1,0,0,0,1,0]) (b := cd Try.f15 [1,1,1,0,1,0,0,1,1,0,0,1,1,1,0,0,0,1,1]) (t := (decide (x2 < x1))) (by kernel_rfl) (by kernel_rfl) (fun b25 => ?_) (fun b25 => ?_)
                · have h := ift_t b25 h
                  refine XW.skip (by kernel_rfl) ?_
                  refine hK23 _ _ ?_
                  refine XW.seq (x := cd Try.f15 [1,1,1,0,1,0,0,1,1,0,0,1,1,1,0,0,1,0]) (y := cd Try.f15 [1,1,1,0,1,0,0,1,1,0,0,1,1,1,0,0,1,1]) (by kernel_rfl) fun K26 hK26 => ?_
                  refine XW.block (id := 3) (x := cd Try.f15 [1,1,1,0,1,0,0,1,1,0,0,1,1,1,0,0,1,0,0]) (by kernel_rfl) ?_
                  refine XW.seq (x := cd Try.f15 [1,1,1,0,1,0,0,1,1,0,0,1,1,1,0,0,1,0,0,0]) (y := cd Try.f15 [1,1,1,0,1,0,0,1,1,0,0,1,1,1,0,0,1,0,0,1]) (by kernel_rfl) fun K27 hK27 => ?_
                  obtain ⟨e2, a28, h⟩ := bnd_some h
                  refine XW.drwS 8 [(37, vi e1), (36, .one (.pv (.rp (eI.els r2) x1.toNat 0))), (35, vi x1), (34, vl eI r2), (33, vi e2), (32, .one (.pv (.rp (eI.els r2) x2.toNat 0))), (31, vi x2), (30, vl eI r2), (4, vl eI r2), (5, vi x1), (6, vi x2), (16, vi (r2.length : Int)), (17, vi x1), (27, vb (decide (x2 < x1)))] (by kernel_rfl) (by kernel_rfl) ?_ ?_
                  · refine DX.go 8 [[pi e2], [pi e1]] [(37, vi e1), (36, .one (.pv (.rp (eI.els r2) x1.toNat 0))), (35, vi x1), (34, vl eI r2), (33, vi e2), (32, .one (.pv (.rp (eI.els r2) x2.toNat 0))), (31, vi x2), (30, vl eI r2), (4, vl eI r2), (5, vi x1), (6, vi x2), (16, vi (r2.length : Int)), (17, vi x1), (27, vb (decide (x2 < x1)))] [0 ≤ x2 ∧ x2 < ((eI.els r2).length : Int) ∧ elemsOk 1 (eI.els r2), (eI.els r2)[x2.toNat]? = some [pi e2], 0 ≤ x1 ∧ x1 < ((eI.els r2).length : Int) ∧ elemsOk 1 (eI.els r2), (eI.els r2)[x1.toNat]? = some [pi e1]] (by kernel_rfl) (⟨eI.inb a28, (eI.get a28), eI.inb a19, (eI.get a19), trivial⟩) ?_
                    exact DX.done (by kernel_rfl)
                  refine XO.go [] 1 [4,5,6,16,17,38] [] [(4, vl eI r2), (5, vi x1), (6, vi x2), (16, vi (r2.length : Int)), (17, vi x1), (38, vb (e2 == e1))] [] [] (by kernel_rfl) trivial ?_
                  refine XO.done (by kernel_rfl) ?_
                  refine hK27 _ _ ?_
                  refine XW.cond (x := .tmp 38) (a := cd Try.f15 [1,1,1,0,1,0,0,1,1,0,0,1,1,1,0,0,1,0,0,1,0]) (b := cd Try.f15 [1,1,1,0,1,0,0,1,1,0,0,1,1,1,0,0,1,0,0,1,1]) (t := (e2 == e1)) (by kernel_rfl) (by kernel_rfl) (fun b29 => ?_) (fun b29 => ?_)
                  · have h := ift_t b29 h
                    refine XW.seq (x := cd Try.f15 [1,1,1,0,1,0,0,1,1,0,0,1,1,1,0,0,1,0,0,1,0,0]) (y := cd Try.f15 [1,1,1,0,1,0,0,1,1,0,0,1,1,1,0,0,1,0,0,1,0,1]) (by kernel_rfl) fun K30 hK30 => ?_
                    refine XW.reg (by kernel_rfl) ?_
                    refine XO.go [] 1 [2] [] [(2, vi (5 : Int))] [] [] (by kernel_rfl) trivial ?_
                    refine XO.done (by kernel_rfl) ?_
                    refine hK30 _ _ ?_
                    refine XW.ret (by kernel_rfl) ?_
                    refine hQ2 _ _ _ ?_
                    refine hQ1 _ _ _ ?_
                    obtain rfl := Option.some.inj h
                    exact FinP.fin (.inr rfl) [] [vi (5 : Int)] [] (by kernel_rfl) trivial (.one (.rfl _ rfl))
                  · have h := ift_f b29 h
                    refine XW.skip (by kernel_rfl) ?_
                    refine hK26 _ _ ?_
                    refine XW.reg (by kernel_rfl) ?_
                    refine XO.go [] 3 [4,5,6,16,17] [] [(4, vl eI r2), (5, vi x1), (6, vi (IntKind.i64.wrap (x2 + (1 : Int)))), (16, vi (r2.length : Int)), (17, vi x1)] [] [] (by kernel_rfl) trivial ?_
                    refine XO.done (by kernel_rfl) ?_
                    exact XR.sub (Sub.pick [4,5,6,16,17] (by kernel_rfl)) (ih2 (IntKind.i64.wrap (x2 + (1 : Int))) h)
                · have h := ift_f b25 h
                  refine XW.exit (id := 2) (by kernel_rfl) ?_
                  refine hQ2 _ _ _ ?_
                  exact hJ1 () h _ _ (Sub.pick [4,16,17] (by kernel_rfl))
            exact XR.sub (Sub.pick [4,5,6,16,17] (by kernel_rfl)) (hL2 BIG (0 : Int) h)
        · have h := ift_f b14 h
          refine XW.exit (id := 0) (by kernel_rfl) ?_
          refine hQ1 _ _ _ ?_
          exact hJ2 () h _ _ (Sub.pick [] (by kernel_rfl))
    exact XR.sub (Sub.pick [4,16,17] (by kernel_rfl)) (hL1 BIG (0 : Int) h)

def slices_EqualFunc_api_Field_api_Field_api_Field_api_Field_s9_j1 : Option Bool :=
    some true

def slices_EqualFunc_api_Field_api_Field_api_Field_api_Field_s9_l1 (q_value_SameType_1 : GField → GField → Option Bool) (p1 : (List GField)) (p2 : (List GField)) : Nat → Int → Option Bool
  | 0, _ => none
  | k1 + 1, x1 =>
    ift (decide (x1 < (p1.length : Int)))
      (bnd (at? p1 x1) fun e1 =>
       bnd (at? p2 x1) fun e2 =>
       bnd (q_value_SameType_1 e1 e2) fun r1 =>
       ift (!r1)
         (some false)
         ((slices_EqualFunc_api_Field_api_Field_api_Field_api_Field_s9_l1 q_value_SameType_1 p1 p2 k1) (IntKind.i64.wrap (x1 + (1 : Int)))))
      (slices_EqualFunc_api_Field_api_Field_api_Field_api_Field_s9_j1)

def value_SameType_j1 (x1 : Bool) : Option Bool :=
    some x1

def value_SameType_1_j1 (x1 : Bool) : Option Bool :=
    some x1

mutual

def slices_EqualFunc_api_Field_api_Field_api_Field_api_Field_s9 : Nat → (List GField) → (List GField) → Option Bool
  | 0, _, _ => none
  | k0 + 1, p1, p2 =>
    ift ((p1.length : Int) != (p2.length : Int))
      (some false)
      (slices_EqualFunc_api_Field_api_Field_api_Field_api_Field_s9_l1 (value_SameType_1 k0) p1 p2 BIG (0 : Int))

def value_SameType : Nat → GType → GType → Option Bool
  | 0, _, _ => none
  | k0 + 1, p1, p2 =>
    ift (p1.kind == p2.kind)
      (ift (p1.scale == p2.scale)
         (bnd ((slices_EqualFunc_api_Field_api_Field_api_Field_api_Field_s9 k0) p1.fields p2.fields) fun r1 =>
          value_SameType_j1 r1)
         (value_SameType_j1 false))
      (value_SameType_j1 false)

def value_SameType_1 : Nat → GField → GField → Option Bool
  | 0, _, _ => none
  | k0 + 1, p1, p2 =>
    ift (p1.name.toList == p2.name.toList)
      (ift (p1.need == p2.need)
         (bnd ((value_SameType k0) p1.type p2.type) fun r1 =>
          value_SameType_1_j1 r1)
         (value_SameType_1_j1 false))
      (value_SameType_1_j1 false)

end


mutual

theorem c_slices_EqualFunc_api_Field_api_Field_api_Field_api_Field_s9 : ∀ (k0 : Nat) (p1 : (List GField)) (p2 : (List GField)) (r : Bool), slices_EqualFunc_api_Field_api_Field_api_Field_api_Field_s9 k0 p1 p2 = some r → PC Try.prog 39 [vl eField p1, vl eField p2, .one (.pv (.fn 40 []))] (vb r)
  | 0, _, _, r, h => by rw [slices_EqualFunc_api_Field_api_Field_api_Field_api_Field_s9.eq_1] at h; cases h
  | k0 + 1, p1, p2, r, h => by
    rw [slices_EqualFunc_api_Field_api_Field_api_Field_api_Field_s9.eq_2] at h
    refine PC.of (n := 32) (fn := Try.f39) (c := cd Try.f39 []) (by kernel_rfl) (by kernel_rfl) (by kernel_rfl) (Nat.le_of_ble_eq_true rfl) ?_
    refine XW.seq (x := cd Try.f39 [0]) (y := cd Try.f39 [1]) (by kernel_rfl) fun K1 hK1 => ?_
    refine XW.reg (by kernel_rfl) ?_
    refine XO.go [8, 9] 1 [0,1,2] [] [(0, vl eField p1), (1, vl eField p2), (2, .one (.pv (.fn 40 [])))] [] [] (by kernel_rfl) trivial ?_
    refine XO.done (by kernel_rfl) ?_
    refine hK1 _ _ ?_
    refine XW.seq (x := cd Try.f39 [1,0]) (y := cd Try.f39 [1,1]) (by kernel_rfl) fun K2 hK2 => ?_
    refine XW.seq (x := cd Try.f39 [1,0,0]) (y := cd Try.f39 [1,0,1]) (by kernel_rfl) fun K3 hK3 => ?_
    refine XW.reg (by kernel_rfl) ?_
    refine XO.go [8, 9] 2 [0,1,2,11] [] [(0, vl eField p1), (1, vl eField p2), (2, .one (.pv (.fn 40 []))), (11, vi ((eField.els p1).length : Int))] [] [] (by kernel_rfl) trivial ?_
    rw [eField.len p1]
    refine XO.go [8, 9] 2 [0,1,2,11,13] [] [(0, vl eField p1), (1, vl eField p2), (2, .one (.pv (.fn 40 []))), (11, vi (p1.length : Int)), (13, vi ((eField.els p2).length : Int))] [] [] (by kernel_rfl) trivial ?_
    rw [eField.len p2]
    refine XO.go [8, 9] 1 [0,1,2,14] [] [(0, vl eField p1), (1, vl eField p2), (2, .one (.pv (.fn 40 []))), (14, vb ((p1.length : Int) != (p2.length : Int)))] [] [] (by kernel_rfl) trivial ?_
    refine XO.done (by kernel_rfl) ?_
    refine hK3 _ _ ?_
    refine XW.cond (x := .tmp 14) (a := cd Try.f39 [1,0,1,0]) (b := cd Try.f39 [1,0,1,1]) (t := ((p1.length : Int) != (p2.length : Int))) (by kernel_rfl) (by kernel_rfl) (fun b4 => ?_) (fun b4 => ?_)
    · have h := ift_t b4 h
      refine XW.seq (x := cd Try.f39 [1,0,1,0,0]) (y := cd Try.f39 [1,0,1,0,1]) (by kernel_rfl) fun K5 hK5 => ?_
      refine XW.reg (by kernel_rfl) ?_
      refine XO.go [8, 9] 1 [6] [] [(6, vb false)] [] [] (by kernel_rfl) trivial ?_
      refine XO.done (by kernel_rfl) ?_
      refine hK5 _ _ ?_
      refine XW.ret (by kernel_rfl) ?_
      obtain rfl := Option.some.inj h
      exact FinP.fin (.inr rfl) [] [vb false] [] (by kernel_rfl) trivial (.one (.rfl _ rfl))
    · have h := ift_f b4 h
      refine XW.skip (by kernel_rfl) ?_
      refine hK2 _ _ ?_
      refine XW.seq (x := cd Try.f39 [1,1,0]) (y := cd Try.f39 [1,1,1]) (by kernel_rfl) fun K6 hK6 => ?_
      have hJ1 : ∀ (_ : Unit), slices_EqualFunc_api_Field_api_Field_api_Field_api_Field_s9_j1 = some r → ∀ fr1 st1, Sub 32 0 [] fr1 st1 [] [] → K6 fr1 st1 := by
        intro _ h fr1 st1 hS
        unfold slices_EqualFunc_api_Field_api_Field_api_Field_api_Field_s9_j1 at h
        refine hK6 _ _ (XW.sub hS ?_)
        refine XW.seq (x := cd Try.f39 [1,1,1,0]) (y := cd Try.f39 [1,1,1,1]) (by kernel_rfl) fun K20 hK20 => ?_
        refine XW.reg (by kernel_rfl) ?_
        refine XO.go [8, 9] 1 [6] [] [(6, vb true)] [] [] (by kernel_rfl) trivial ?_
        refine XO.done (by kernel_rfl) ?_
        refine hK20 _ _ ?_
        refine XW.ret (by kernel_rfl) ?_
        obtain rfl := Option.some.inj h
        exact FinP.fin (.inr rfl) [] [vb true] [] (by kernel_rfl) trivial (.one (.rfl _ rfl))
      refine XW.seq (x := cd Try.f39 [1,1,0,0]) (y := cd Try.f39 [1,1,0,1]) (by kernel_rfl) fun K7 hK7 => ?_
      refine XW.reg (by kernel_rfl) ?_
      refine XO.go [8, 9] 2 [1,2,15,16] [] [(1, vl eField p2), (2, .one (.pv (.fn 40 []))), (15, vl eField p1), (16, vi ((eField.els p1).length : Int))] [] [] (by kernel_rfl) trivial ?_
      rw [eField.len p1]
      refine XO.go [8, 9] 1 [1,2,15,16,17] [] [(1, vl eField p2), (2, .one (.pv (.fn 40 []))), (15, vl eField p1), (16, vi (p1.length : Int)), (17, vi (0 : Int))] [] [] (by kernel_rfl) trivial ?_
      refine XO.done (by kernel_rfl) ?_
      refine hK7 _ _ ?_
      refine XW.block (id := 0) (x := cd Try.f39 [1,1,0,1,0]) (by kernel_rfl) ?_
      refine XW.rounds' BIG (x := cd Try.f39 [1,1,0,1,0,0]) (by kernel_rfl) fun Q1 hQ1 => ?_
      have hL1 : ∀ (k1 : Nat) (x1 : Int), slices_EqualFunc_api_Field_api_Field_api_Field_api_Field_s9_l1 (value_SameType_1 k0) p1 p2 k1 x1 = some r → XR Try.prog 32 0 [] (cd Try.f39 [1,1,0,1,0,0]) Q1 k1 [(1, vl eField p2), (2, .one (.pv (.fn 40 []))), (15, vl eField p1), (16, vi (p1.length : Int)), (17, vi x1)] [] := by
        intro k1
        induction k1 with
        | zero => intro x1 h; rw [slices_EqualFunc_api_Field_api_Field_api_Field_api_Field_s9_l1.eq_1] at h; cases h
        | succ k1 ih1 =>
          intro x1 h
          rw [slices_EqualFunc_api_Field_api_Field_api_Field_api_Field_s9_l1.eq_2] at h
          refine XW.seq (x := cd Try.f39 [1,1,0,1,0,0,0]) (y := cd Try.f39 [1,1,0,1,0,0,1]) (by kernel_rfl) fun K8 hK8 => ?_
          refine XW.reg (by kernel_rfl) ?_
          refine XO.go [8, 9] 1 [1,2,15,16,17,18] [] [(1, vl eField p2), (2, .one (.pv (.fn 40 []))), (15, vl eField p1), (16, vi (p1.length : Int)), (17, vi x1), (18, vb (decide (x1 < (p1.length : Int))))] [] [] (by kernel_rfl) trivial ?_
          refine XO.done (by kernel_rfl) ?_
          refine hK8 _ _ ?_
          refine XW.seq (x := cd Try.f39 [1,1,0,1,0,0,1,0]) (y := cd Try.f39 [1,1,0,1,0,0,1,1]) (by kernel_rfl) fun K9 hK9 => ?_
          refine XW.cond (x := .tmp 18) (a := cd Try.f39 [1,1,0,1,0,0,1,0,0]) (b := cd Try.f39 [1,1,0,1,0,0,1,0,1]) (t := (decide (x1 < (p1.length : Int)))) (by kernel_rfl) (by kernel_rfl) (fun b10 => ?_) (fun b10 => ?_)
          · have h := ift_t b10 h
            refine XW.skip (by kernel_rfl) ?_
            refine hK9 _ _ ?_
            refine XW.seq (x := cd Try.f39 [1,1,0,1,0,0,1,1,0]) (y := cd Try.f39 [1,1,0,1,0,0,1,1,1]) (by kernel_rfl) fun K11 hK11 => ?_
            refine XW.block (id := 1) (x := cd Try.f39 [1,1,0,1,0,0,1,1,0,0]) (by kernel_rfl) ?_
            refine XW.seq (x := cd Try.f39 [1,1,0,1,0,0,1,1,0,0,0]) (y := cd Try.f39 [1,1,0,1,0,0,1,1,0,0,1]) (by kernel_rfl) fun K12 hK12 => ?_
            obtain ⟨e1, a13, h⟩ := bnd_some h
            refine XW.reg (by kernel_rfl) ?_
            refine XO.go [8, 9] 6 [1,2,7,8,15,16,17] [[pi e1.id, .s (.string e1.name), .s (.bool e1.need), pi e1.type.kind, pi e1.type.scale, .ro (eField.els e1.type.fields)]] [(1, vl eField p2), (2, .one (.pv (.fn 40 []))), (7, vi x1), (8, .one (.pt 0 0 0 0)), (15, vl eField p1), (16, vi (p1.length : Int)), (17, vi x1)] [.box [ci e1.id, cst e1.name, cb e1.need, ci e1.type.kind, ci e1.type.scale, cl eField e1.type.fields]] [0 ≤ x1 ∧ x1 < ((eField.els p1).length : Int) ∧ elemsOk 6 (eField.els p1), (eField.els p1)[x1.toNat]? = some [pi e1.id, .s (.string e1.name), .s (.bool e1.need), pi e1.type.kind, pi e1.type.scale, .ro (eField.els e1.type.fields)]] (by kernel_rfl) (⟨eField.inb a13, ((eField.get a13).trans (by rcases e1 with ⟨_, _, _, ⟨_, _, _⟩⟩; rfl)), trivial⟩) ?_
            refine XO.done (by kernel_rfl) ?_
            refine hK12 _ _ ?_
            refine XW.seq (x := cd Try.f39 [1,1,0,1,0,0,1,1,0,0,1,0]) (y := cd Try.f39 [1,1,0,1,0,0,1,1,0,0,1,1]) (by kernel_rfl) fun K14 hK14 => ?_
            obtain ⟨e2, a15, h⟩ := bnd_some h
            refine XW.reg (by kernel_rfl) ?_
            refine XO.go [8, 9] 6 [1,2,8,9,15,16,17] [[pi e2.id, .s (.string e2.name), .s (.bool e2.need), pi e2.type.kind, pi e2.type.scale, .ro (eField.els e2.type.fields)]] [(1, vl eField p2), (2, .one (.pv (.fn 40 []))), (8, .one (.pt 0 0 0 0)), (9, .one (.pt 1 0 0 0)), (15, vl eField p1), (16, vi (p1.length : Int)), (17, vi x1)] [.box [ci e1.id, cst e1.name, cb e1.need, ci e1.type.kind, ci e1.type.scale, cl eField e1.type.fields], .box [ci e2.id, cst e2.name, cb e2.need, ci e2.type.kind, ci e2.type.scale, cl eField e2.type.fields]] [0 ≤ x1 ∧ x1 < ((eField.els p2).length : Int) ∧ elemsOk 6 (eField.els p2), (eField.els p2)[x1.toNat]? = some [pi e2.id, .s (.string e2.name), .s (.bool e2.need), pi e2.type.kind, pi e2.type.scale, .ro (eField.els e2.type.fields)]] (by kernel_rfl) (⟨eField.inb a15, ((eField.get a15).trans (by rcases e2 with ⟨_, _, _, ⟨_, _, _⟩⟩; rfl)), trivial⟩) ?_
            refine XO.done (by kernel_rfl) ?_
            refine hK14 _ _ ?_
            refine XW.seq (x := cd Try.f39 [1,1,0,1,0,0,1,1,0,0,1,1,0]) (y := cd Try.f39 [1,1,0,1,0,0,1,1,0,0,1,1,1]) (by kernel_rfl) fun K16 hK16 => ?_
            obtain ⟨r1, c17, h⟩ := bnd_some h
            refine XW.reg (by kernel_rfl) ?_
            refine XO.go [8, 9] 3 [1,2,15,16,17,26,27,28] [] [(1, vl eField p2), (2, .one (.pv (.fn 40 []))), (15, vl eField p1), (16, vi (p1.length : Int)), (17, vi x1), (26, .one (.pv (.fn 40 []))), (27, .ag [ci e1.id, cst e1.name, cb e1.need, ci e1.type.kind, ci e1.type.scale, cl eField e1.type.fields]), (28, .ag [ci e2.id, cst e2.name, cb e2.need, ci e2.type.kind, ci e2.type.scale, cl eField e2.type.fields])] [.box [ci e1.id, cst e1.name, cb e1.need, ci e1.type.kind, ci e1.type.scale, cl eField e1.type.fields], .box [ci e2.id, cst e2.name, cb e2.need, ci e2.type.kind, ci e2.type.scale, cl eField e2.type.fields]] [] (by kernel_rfl) trivial ?_
            refine XO.cal 40 [.ag [ci e1.id, cst e1.name, cb e1.need, ci e1.type.kind, ci e1.type.scale, cl eField e1.type.fields], .ag [ci e2.id, cst e2.name, cb e2.need, ci e2.type.kind, ci e2.type.scale, cl eField e2.type.fields]] (vb r1) [(29, vb r1), (1, vl eField p2), (2, .one (.pv (.fn 40 []))), (15, vl eField p1), (16, vi (p1.length : Int)), (17, vi x1), (26, .one (.pv (.fn 40 []))), (27, .ag [ci e1.id, cst e1.name, cb e1.need, ci e1.type.kind, ci e1.type.scale, cl eField e1.type.fields]), (28, .ag [ci e2.id, cst e2.name, cb e2.need, ci e2.type.kind, ci e2.type.scale, cl eField e2.type.fields])] (by kernel_rfl) (c_value_SameType_1 k0 _ _ _ c17) rfl rfl (by kernel_rfl) ?_
            refine XO.go [8, 9] 1 [1,2,15,16,17,30] [] [(1, vl eField p2), (2, .one (.pv (.fn 40 []))), (15, vl eField p1), (16, vi (p1.length : Int)), (17, vi x1), (30, vb (!r1))] [.box [ci e1.id, cst e1.name, cb e1.need, ci e1.type.kind, ci e1.type.scale, cl eField e1.type.fields], .box [ci e2.id, cst e2.name, cb e2.need, ci e2.type.kind, ci e2.type.scale, cl eField e2.type.fields]] [] (by kernel_rfl) trivial ?_
            refine XO.done (by kernel_rfl) ?_
            refine hK16 _ _ ?_
            refine XW.cond (x := .tmp 30) (a := cd Try.f39 [1,1,0,1,0,0,1,1,0,0,1,1,1,0]) (b := cd Try.f39 [1,1,0,1,0,0,1,1,0,0,1,1,1,1]) (t := (!r1)) (by kernel_rfl) (by kernel_rfl) (fun b18 => ?_) (fun b18 => ?_)
            · have h := ift_t b18 h
              refine XW.seq (x := cd Try.f39 [1,1,0,1,0,0,1,1,0,0,1,1,1,0,0]) (y := cd Try.f39 [1,1,0,1,0,0,1,1,0,0,1,1,1,0,1]) (by kernel_rfl) fun K19 hK19 => ?_
              refine XW.reg (by kernel_rfl) ?_
              refine XO.go [8, 9] 1 [6] [] [(6, vb false)] [.box [ci e1.id, cst e1.name, cb e1.need, ci e1.type.kind, ci e1.type.scale, cl eField e1.type.fields], .box [ci e2.id, cst e2.name, cb e2.need, ci e2.type.kind, ci e2.type.scale, cl eField e2.type.fields]] [] (by kernel_rfl) trivial ?_
              refine XO.done (by kernel_rfl) ?_
              refine hK19 _ _ ?_
              refine XW.ret (by kernel_rfl) ?_
              refine hQ1 _ _ _ ?_
              obtain rfl := Option.some.inj h
              exact FinP.fin (.inr rfl) [] [vb false] [] (by kernel_rfl) trivial (.one (.rfl _ rfl))
            · have h := ift_f b18 h
              refine XW.skip (by kernel_rfl) ?_
              refine hK11 _ _ ?_
              refine XW.reg (by kernel_rfl) ?_
              refine XO.go [8, 9] 2 [1,2,15,16,17] [] [(1, vl eField p2), (2, .one (.pv (.fn 40 []))), (15, vl eField p1), (16, vi (p1.length : Int)), (17, vi (IntKind.i64.wrap (x1 + (1 : Int))))] [.box [ci e1.id, cst e1.name, cb e1.need, ci e1.type.kind, ci e1.type.scale, cl eField e1.type.fields], .box [ci e2.id, cst e2.name, cb e2.need, ci e2.type.kind, ci e2.type.scale, cl eField e2.type.fields]] [] (by kernel_rfl) trivial ?_
              refine XO.done (by kernel_rfl) ?_
              exact XR.sub (Sub.trans (Sub.pick (fr' := [(1, vl eField p2), (2, .one (.pv (.fn 40 []))), (15, vl eField p1), (16, vi (p1.length : Int)), (17, vi (IntKind.i64.wrap (x1 + (1 : Int))))]) [1,2,15,16,17] (by kernel_rfl)) (Sub.take (fr' := [(1, vl eField p2), (2, .one (.pv (.fn 40 []))), (15, vl eField p1), (16, vi (p1.length : Int)), (17, vi (IntKind.i64.wrap (x1 + (1 : Int))))]) 0 (Nat.zero_le _) (by kernel_rfl) (by kernel_rfl))) (ih1 (IntKind.i64.wrap (x1 + (1 : Int))) h)
          · have h := ift_f b10 h
            refine XW.exit (id := 0) (by kernel_rfl) ?_
            refine hQ1 _ _ _ ?_
            exact hJ1 () h _ _ (Sub.pick [] (by kernel_rfl))
      exact XR.sub (Sub.pick [1,2,15,16,17] (by kernel_rfl)) (hL1 BIG (0 : Int) h)

theorem c_value_SameType : ∀ (k0 : Nat) (p1 : GType) (p2 : GType) (r : Bool), value_SameType k0 p1 p2 = some r → PC Try.prog 16 [.ag [ci p1.kind, ci p1.scale, cl eField p1.fields], .ag [ci p2.kind, ci p2.scale, cl eField p2.fields]] (vb r)
  | 0, _, _, r, h => by rw [value_SameType.eq_1] at h; cases h
  | k0 + 1, p1, p2, r, h => by
    rw [value_SameType.eq_2] at h
    refine PC.of (n := 24) (fn := Try.f16) (c := cd Try.f16 []) (by kernel_rfl) (by kernel_rfl) (by kernel_rfl) (Nat.le_of_ble_eq_true rfl) ?_
    refine XW.seq (x := cd Try.f16 [0]) (y := cd Try.f16 [1]) (by kernel_rfl) fun K1 hK1 => ?_
    refine XW.reg (by kernel_rfl) ?_
    refine XO.go [] 3 [2,3] [] [(2, .one (.pv (.rp [[pi p1.kind, pi p1.scale, .ro (eField.els p1.fields)]] 0 0))), (3, .one (.pv (.rp [[pi p2.kind, pi p2.scale, .ro (eField.els p2.fields)]] 0 0)))] [] [] (by kernel_rfl) trivial ?_
    refine XO.done (by kernel_rfl) ?_
    refine hK1 _ _ ?_
    refine XW.seq (x := cd Try.f16 [1,0]) (y := cd Try.f16 [1,1]) (by kernel_rfl) fun K2 hK2 => ?_
    have hJ1 : ∀ (x1 : Bool), value_SameType_j1 x1 = some r → ∀ fr1 st1, Sub 24 0 [] fr1 st1 [(4, vb x1)] [] → K2 fr1 st1 := by
      intro x1 h fr1 st1 hS
      unfold value_SameType_j1 at h
      refine hK2 _ _ (XW.sub hS ?_)
      refine XW.ret (by kernel_rfl) ?_
      obtain rfl := Option.some.inj h
      exact FinP.fin (.inr rfl) [] [vb x1] [] (by kernel_rfl) trivial (.one (.rfl _ rfl))
    rcases Bool.eq_false_or_eq_true (p1.kind == p2.kind) with b3 | b3
    · have h := ift_t b3 h
      rcases Bool.eq_false_or_eq_true (p1.scale == p2.scale) with b4 | b4
      · have h := ift_t b4 h
        obtain ⟨r1, c5, h⟩ := bnd_some h
        refine XW.reg (by kernel_rfl) ?_
        refine XO.go [] 6 [2,3,10] [[pi p1.kind, pi p1.scale, .ro (eField.els p1.fields)], [pi p2.kind, pi p2.scale, .ro (eField.els p2.fields)]] [(2, .one (.pv (.rp [[pi p1.kind, pi p1.scale, .ro (eField.els p1.fields)]] 0 0))), (3, .one (.pv (.rp [[pi p2.kind, pi p2.scale, .ro (eField.els p2.fields)]] 0 0))), (10, vb (p1.kind == p2.kind))] [] [([[pi p1.kind, pi p1.scale, .ro (eField.els p1.fields)]] : List (List PV))[0]? = some [pi p1.kind, pi p1.scale, .ro (eField.els p1.fields)], ([[pi p2.kind, pi p2.scale, .ro (eField.els p2.fields)]] : List (List PV))[0]? = some [pi p2.kind, pi p2.scale, .ro (eField.els p2.fields)]] (by kernel_rfl) (⟨rfl, rfl, trivial⟩) ?_
        refine XO.setb 10 true (B := (p1.kind == p2.kind)) rfl b3 ?_
        refine XO.go [] 7 [2,3,17] [[pi p1.kind, pi p1.scale, .ro (eField.els p1.fields)], [pi p2.kind, pi p2.scale, .ro (eField.els p2.fields)]] [(2, .one (.pv (.rp [[pi p1.kind, pi p1.scale, .ro (eField.els p1.fields)]] 0 0))), (3, .one (.pv (.rp [[pi p2.kind, pi p2.scale, .ro (eField.els p2.fields)]] 0 0))), (17, vb (p1.scale == p2.scale))] [] [([[pi p1.kind, pi p1.scale, .ro (eField.els p1.fields)]] : List (List PV))[0]? = some [pi p1.kind, pi p1.scale, .ro (eField.els p1.fields)], ([[pi p2.kind, pi p2.scale, .ro (eField.els p2.fields)]] : List (List PV))[0]? = some [pi p2.kind, pi p2.scale, .ro (eField.els p2.fields)]] (by kernel_rfl) (⟨rfl, rfl, trivial⟩) ?_
        refine XO.setb 17 true (B := (p1.scale == p2.scale)) rfl b4 ?_
        refine XO.go [] 4 [17,19,21] [[pi p1.kind, pi p1.scale, .ro (eField.els p1.fields)], [pi p2.kind, pi p2.scale, .ro (eField.els p2.fields)]] [(17, vb true), (19, vl eField p1.fields), (21, vl eField p2.fields)] [] [([[pi p1.kind, pi p1.scale, .ro (eField.els p1.fields)]] : List (List PV))[0]? = some [pi p1.kind, pi p1.scale, .ro (eField.els p1.fields)], ([[pi p2.kind, pi p2.scale, .ro (eField.els p2.fields)]] : List (List PV))[0]? = some [pi p2.kind, pi p2.scale, .ro (eField.els p2.fields)]] (by kernel_rfl) (⟨rfl, rfl, trivial⟩) ?_
        refine XO.cal 39 [vl eField p1.fields, vl eField p2.fields, .one (.pv (.fn 40 []))] (vb r1) [(22, vb r1), (17, vb true), (19, vl eField p1.fields), (21, vl eField p2.fields)] (by kernel_rfl) (c_slices_EqualFunc_api_Field_api_Field_api_Field_api_Field_s9 k0 _ _ _ c5) rfl rfl (by kernel_rfl) ?_
        refine XO.go [] 2 [4] [] [(4, vb r1)] [] [] (by kernel_rfl) trivial ?_
        refine XO.done (by kernel_rfl) ?_
        exact hJ1 r1 h _ _ (Sub.pick [4] (by kernel_rfl))
      · have h := ift_f b4 h
        refine XW.reg (by kernel_rfl) ?_
        refine XO.go [] 6 [2,3,10] [[pi p1.kind, pi p1.scale, .ro (eField.els p1.fields)], [pi p2.kind, pi p2.scale, .ro (eField.els p2.fields)]] [(2, .one (.pv (.rp [[pi p1.kind, pi p1.scale, .ro (eField.els p1.fields)]] 0 0))), (3, .one (.pv (.rp [[pi p2.kind, pi p2.scale, .ro (eField.els p2.fields)]] 0 0))), (10, vb (p1.kind == p2.kind))] [] [([[pi p1.kind, pi p1.scale, .ro (eField.els p1.fields)]] : List (List PV))[0]? = some [pi p1.kind, pi p1.scale, .ro (eField.els p1.fields)], ([[pi p2.kind, pi p2.scale, .ro (eField.els p2.fields)]] : List (List PV))[0]? = some [pi p2.kind, pi p2.scale, .ro (eField.els p2.fields)]] (by kernel_rfl) (⟨rfl, rfl, trivial⟩) ?_
        refine XO.setb 10 true (B := (p1.kind == p2.kind)) rfl b3 ?_
        refine XO.go [] 7 [2,3,17] [[pi p1.kind, pi p1.scale, .ro (eField.els p1.fields)], [pi p2.kind, pi p2.scale, .ro (eField.els p2.fields)]] [(2, .one (.pv (.rp [[pi p1.kind, pi p1.scale, .ro (eField.els p1.fields)]] 0 0))), (3, .one (.pv (.rp [[pi p2.kind, pi p2.scale, .ro (eField.els p2.fields)]] 0 0))), (17, vb (p1.scale == p2.scale))] [] [([[pi p1.kind, pi p1.scale, .ro (eField.els p1.fields)]] : List (List PV))[0]? = some [pi p1.kind, pi p1.scale, .ro (eField.els p1.fields)], ([[pi p2.kind, pi p2.scale, .ro (eField.els p2.fields)]] : List (List PV))[0]? = some [pi p2.kind, pi p2.scale, .ro (eField.els p2.fields)]] (by kernel_rfl) (⟨rfl, rfl, trivial⟩) ?_
        refine XO.setb 17 false (B := (p1.scale == p2.scale)) rfl b4 ?_
        refine XO.go [] 7 [4] [] [(4, vb false)] [] [] (by kernel_rfl) trivial ?_
        refine XO.done (by kernel_rfl) ?_
        exact hJ1 false h _ _ (Sub.pick [4] (by kernel_rfl))
    · have h := ift_f b3 h
      refine XW.reg (by kernel_rfl) ?_
      refine XO.go [] 6 [2,3,10] [[pi p1.kind, pi p1.scale, .ro (eField.els p1.fields)], [pi p2.kind, pi p2.scale, .ro (eField.els p2.fields)]] [(2, .one (.pv (.rp [[pi p1.kind, pi p1.scale, .ro (eField.els p1.fields)]] 0 0))), (3, .one (.pv (.rp [[pi p2.kind, pi p2.scale, .ro (eField.els p2.fields)]] 0 0))), (10, vb (p1.kind == p2.kind))] [] [([[pi p1.kind, pi p1.scale, .ro (eField.els p1.fields)]] : List (List PV))[0]? = some [pi p1.kind, pi p1.scale, .ro (eField.els p1.fields)], ([[pi p2.kind, pi p2.scale, .ro (eField.els p2.fields)]] : List (List PV))[0]? = some [pi p2.kind, pi p2.scale, .ro (eField.els p2.fields)]] (by kernel_rfl) (⟨rfl, rfl, trivial⟩) ?_
      refine XO.setb 10 false (B := (p1.kind == p2.kind)) rfl b3 ?_
      refine XO.go [] 14 [4] [] [(4, vb false)] [] [] (by kernel_rfl) trivial ?_
      refine XO.done (by kernel_rfl) ?_
      exact hJ1 false h _ _ (Sub.pick [4] (by kernel_rfl))

theorem c_value_SameType_1 : ∀ (k0 : Nat) (p1 : GField) (p2 : GField) (r : Bool), value_SameType_1 k0 p1 p2 = some r → PC Try.prog 40 [.ag [ci p1.id, cst p1.name, cb p1.need, ci p1.type.kind, ci p1.type.scale, cl eField p1.type.fields], .ag [ci p2.id, cst p2.name, cb p2.need, ci p2.type.kind, ci p2.type.scale, cl eField p2.type.fields]] (vb r)
  | 0, _, _, r, h => by rw [value_SameType_1.eq_1] at h; cases h
  | k0 + 1, p1, p2, r, h => by
    rw [value_SameType_1.eq_2] at h
    refine PC.of (n := 24) (fn := Try.f40) (c := cd Try.f40 []) (by kernel_rfl) (by kernel_rfl) (by kernel_rfl) (Nat.le_of_ble_eq_true rfl) ?_
    refine XW.seq (x := cd Try.f40 [0]) (y := cd Try.f40 [1]) (by kernel_rfl) fun K1 hK1 => ?_
    refine XW.reg (by kernel_rfl) ?_
    refine XO.go [] 3 [2,3] [] [(2, .one (.pv (.rp [[pi p1.id, .s (.string p1.name), .s (.bool p1.need), pi p1.type.kind, pi p1.type.scale, .ro (eField.els p1.type.fields)]] 0 0))), (3, .one (.pv (.rp [[pi p2.id, .s (.string p2.name), .s (.bool p2.need), pi p2.type.kind, pi p2.type.scale, .ro (eField.els p2.type.fields)]] 0 0)))] [] [] (by kernel_rfl) trivial ?_
    refine XO.done (by kernel_rfl) ?_
    refine hK1 _ _ ?_
    refine XW.seq (x := cd Try.f40 [1,0]) (y := cd Try.f40 [1,1]) (by kernel_rfl) fun K2 hK2 => ?_
    have hJ1 : ∀ (x1 : Bool), value_SameType_1_j1 x1 = some r → ∀ fr1 st1, Sub 24 0 [] fr1 st1 [(4, vb x1)] [] → K2 fr1 st1 := by
      intro x1 h fr1 st1 hS
      unfold value_SameType_1_j1 at h
      refine hK2 _ _ (XW.sub hS ?_)
      refine XW.ret (by kernel_rfl) ?_
      obtain rfl := Option.some.inj h
      exact FinP.fin (.inr rfl) [] [vb x1] [] (by kernel_rfl) trivial (.one (.rfl _ rfl))
    rcases Bool.eq_false_or_eq_true (p1.name.toList == p2.name.toList) with b3 | b3
    · have h := ift_t b3 h
      rcases Bool.eq_false_or_eq_true (p1.need == p2.need) with b4 | b4
      · have h := ift_t b4 h
        obtain ⟨r1, c5, h⟩ := bnd_some h
        refine XW.reg (by kernel_rfl) ?_
        refine XO.go [] 6 [2,3,10] [[pi p1.id, .s (.string p1.name), .s (.bool p1.need), pi p1.type.kind, pi p1.type.scale, .ro (eField.els p1.type.fields)], [pi p2.id, .s (.string p2.name), .s (.bool p2.need), pi p2.type.kind, pi p2.type.scale, .ro (eField.els p2.type.fields)]] [(2, .one (.pv (.rp [[pi p1.id, .s (.string p1.name), .s (.bool p1.need), pi p1.type.kind, pi p1.type.scale, .ro (eField.els p1.type.fields)]] 0 0))), (3, .one (.pv (.rp [[pi p2.id, .s (.string p2.name), .s (.bool p2.need), pi p2.type.kind, pi p2.type.scale, .ro (eField.els p2.type.fields)]] 0 0))), (10, vb (p1.name.toList == p2.name.toList))] [] [([[pi p1.id, .s (.string p1.name), .s (.bool p1.need), pi p1.type.kind, pi p1.type.scale, .ro (eField.els p1.type.fields)]] : List (List PV))[0]? = some [pi p1.id, .s (.string p1.name), .s (.bool p1.need), pi p1.type.kind, pi p1.type.scale, .ro (eField.els p1.type.fields)], ([[pi p2.id, .s (.string p2.name), .s (.bool p2.need), pi p2.type.kind, pi p2.type.scale, .ro (eField.els p2.type.fields)]] : List (List PV))[0]? = some [pi p2.id, .s (.string p2.name), .s (.bool p2.need), pi p2.type.kind, pi p2.type.scale, .ro (eField.els p2.type.fields)]] (by kernel_rfl) (⟨rfl, rfl, trivial⟩) ?_
        refine XO.setb 10 true (B := (p1.name.toList == p2.name.toList)) rfl b3 ?_
        refine XO.go [] 7 [2,3,17] [[pi p1.id, .s (.string p1.name), .s (.bool p1.need), pi p1.type.kind, pi p1.type.scale, .ro (eField.els p1.type.fields)], [pi p2.id, .s (.string p2.name), .s (.bool p2.need), pi p2.type.kind, pi p2.type.scale, .ro (eField.els p2.type.fields)]] [(2, .one (.pv (.rp [[pi p1.id, .s (.string p1.name), .s (.bool p1.need), pi p1.type.kind, pi p1.type.scale, .ro (eField.els p1.type.fields)]] 0 0))), (3, .one (.pv (.rp [[pi p2.id, .s (.string p2.name), .s (.bool p2.need), pi p2.type.kind, pi p2.type.scale, .ro (eField.els p2.type.fields)]] 0 0))), (17, vb (p1.need == p2.need))] [] [([[pi p1.id, .s (.string p1.name), .s (.bool p1.need), pi p1.type.kind, pi p1.type.scale, .ro (eField.els p1.type.fields)]] : List (List PV))[0]? = some [pi p1.id, .s (.string p1.name), .s (.bool p1.need), pi p1.type.kind, pi p1.type.scale, .ro (eField.els p1.type.fields)], ([[pi p2.id, .s (.string p2.name), .s (.bool p2.need), pi p2.type.kind, pi p2.type.scale, .ro (eField.els p2.type.fields)]] : List (List PV))[0]? = some [pi p2.id, .s (.string p2.name), .s (.bool p2.need), pi p2.type.kind, pi p2.type.scale, .ro (eField.els p2.type.fields)]] (by kernel_rfl) (⟨rfl, rfl, trivial⟩) ?_
        refine XO.setb 17 true (B := (p1.need == p2.need)) rfl b4 ?_
        refine XO.go [] 4 [17,19,21] [[pi p1.id, .s (.string p1.name), .s (.bool p1.need), pi p1.type.kind, pi p1.type.scale, .ro (eField.els p1.type.fields)], [pi p2.id, .s (.string p2.name), .s (.bool p2.need), pi p2.type.kind, pi p2.type.scale, .ro (eField.els p2.type.fields)]] [(17, vb true), (19, .ag [ci p1.type.kind, ci p1.type.scale, cl eField p1.type.fields]), (21, .ag [ci p2.type.kind, ci p2.type.scale, cl eField p2.type.fields])] [] [([[pi p1.id, .s (.string p1.name), .s (.bool p1.need), pi p1.type.kind, pi p1.type.scale, .ro (eField.els p1.type.fields)]] : List (List PV))[0]? = some [pi p1.id, .s (.string p1.name), .s (.bool p1.need), pi p1.type.kind, pi p1.type.scale, .ro (eField.els p1.type.fields)], ([[pi p2.id, .s (.string p2.name), .s (.bool p2.need), pi p2.type.kind, pi p2.type.scale, .ro (eField.els p2.type.fields)]] : List (List PV))[0]? = some [pi p2.id, .s (.string p2.name), .s (.bool p2.need), pi p2.type.kind, pi p2.type.scale, .ro (eField.els p2.type.fields)]] (by kernel_rfl) (⟨rfl, rfl, trivial⟩) ?_
        refine XO.cal 16 [.ag [ci p1.type.kind, ci p1.type.scale, cl eField p1.type.fields], .ag [ci p2.type.kind, ci p2.type.scale, cl eField p2.type.fields]] (vb r1) [(22, vb r1), (17, vb true), (19, .ag [ci p1.type.kind, ci p1.type.scale, cl eField p1.type.fields]), (21, .ag [ci p2.type.kind, ci p2.type.scale, cl eField p2.type.fields])] (by kernel_rfl) (c_value_SameType k0 _ _ _ c5) rfl rfl (by kernel_rfl) ?_
        refine XO.go [] 2 [4] [] [(4, vb r1)] [] [] (by kernel_rfl) trivial ?_
        refine XO.done (by kernel_rfl) ?_
        exact hJ1 r1 h _ _ (Sub.pick [4] (by kernel_rfl))
      · have h := ift_f b4 h
        refine XW.reg (by kernel_rfl) ?_
        refine XO.go [] 6 [2,3,10] [[pi p1.id, .s (.string p1.name), .s (.bool p1.need), pi p1.type.kind, pi p1.type.scale, .ro (eField.els p1.type.fields)], [pi p2.id, .s (.string p2.name), .s (.bool p2.need), pi p2.type.kind, pi p2.type.scale, .ro (eField.els p2.type.fields)]] [(2, .one (.pv (.rp [[pi p1.id, .s (.string p1.name), .s (.bool p1.need), pi p1.type.kind, pi p1.type.scale, .ro (eField.els p1.type.fields)]] 0 0))), (3, .one (.pv (.rp [[pi p2.id, .s (.string p2.name), .s (.bool p2.need), pi p2.type.kind, pi p2.type.scale, .ro (eField.els p2.type.fields)]] 0 0))), (10, vb (p1.name.toList == p2.name.toList))] [] [([[pi p1.id, .s (.string p1.name), .s (.bool p1.need), pi p1.type.kind, pi p1.type.scale, .ro (eField.els p1.type.fields)]] : List (List PV))[0]? = some [pi p1.id, .s (.string p1.name), .s (.bool p1.need), pi p1.type.kind, pi p1.type.scale, .ro (eField.els p1.type.fields)], ([[pi p2.id, .s (.string p2.name), .s (.bool p2.need), pi p2.type.kind, pi p2.type.scale, .ro (eField.els p2.type.fields)]] : List (List PV))[0]? = some [pi p2.id, .s (.string p2.name), .s (.bool p2.need), pi p2.type.kind, pi p2.type.scale, .ro (eField.els p2.type.fields)]] (by kernel_rfl) (⟨rfl, rfl, trivial⟩) ?_
        refine XO.setb 10 true (B := (p1.name.toList == p2.name.toList)) rfl b3 ?_
        refine XO.go [] 7 [2,3,17] [[pi p1.id, .s (.string p1.name), .s (.bool p1.need), pi p1.type.kind, pi p1.type.scale, .ro (eField.els p1.type.fields)], [pi p2.id, .s (.string p2.name), .s (.bool p2.need), pi p2.type.kind, pi p2.type.scale, .ro (eField.els p2.type.fields)]] [(2, .one (.pv (.rp [[pi p1.id, .s (.string p1.name), .s (.bool p1.need), pi p1.type.kind, pi p1.type.scale, .ro (eField.els p1.type.fields)]] 0 0))), (3, .one (.pv (.rp [[pi p2.id, .s (.string p2.name), .s (.bool p2.need), pi p2.type.kind, pi p2.type.scale, .ro (eField.els p2.type.fields)]] 0 0))), (17, vb (p1.need == p2.need))] [] [([[pi p1.id, .s (.string p1.name), .s (.bool p1.need), pi p1.type.kind, pi p1.type.scale, .ro (eField.els p1.type.fields)]] : List (List PV))[0]? = some [pi p1.id, .s (.string p1.name), .s (.bool p1.need), pi p1.type.kind, pi p1.type.scale, .ro (eField.els p1.type.fields)], ([[pi p2.id, .s (.string p2.name), .s (.bool p2.need), pi p2.type.kind, pi p2.type.scale, .ro (eField.els p2.type.fields)]] : List (List PV))[0]? = some [pi p2.id, .s (.string p2.name), .s (.bool p2.need), pi p2.type.kind, pi p2.type.scale, .ro (eField.els p2.type.fields)]] (by kernel_rfl) (⟨rfl, rfl, trivial⟩) ?_
        refine XO.setb 17 false (B := (p1.need == p2.need)) rfl b4 ?_
        refine XO.go [] 7 [4] [] [(4, vb false)] [] [] (by kernel_rfl) trivial ?_
        refine XO.done (by kernel_rfl) ?_
        exact hJ1 false h _ _ (Sub.pick [4] (by kernel_rfl))
    · have h := ift_f b3 h
      refine XW.reg (by kernel_rfl) ?_
      refine XO.go [] 6 [2,3,10] [[pi p1.id, .s (.string p1.name), .s (.bool p1.need), pi p1.type.kind, pi p1.type.scale, .ro (eField.els p1.type.fields)], [pi p2.id, .s (.string p2.name), .s (.bool p2.need), pi p2.type.kind, pi p2.type.scale, .ro (eField.els p2.type.fields)]] [(2, .one (.pv (.rp [[pi p1.id, .s (.string p1.name), .s (.bool p1.need), pi p1.type.kind, pi p1.type.scale, .ro (eField.els p1.type.fields)]] 0 0))), (3, .one (.pv (.rp [[pi p2.id, .s (.string p2.name), .s (.bool p2.need), pi p2.type.kind, pi p2.type.scale, .ro (eField.els p2.type.fields)]] 0 0))), (10, vb (p1.name.toList == p2.name.toList))] [] [([[pi p1.id, .s (.string p1.name), .s (.bool p1.need), pi p1.type.kind, pi p1.type.scale, .ro (eField.els p1.type.fields)]] : List (List PV))[0]? = some [pi p1.id, .s (.string p1.name), .s (.bool p1.need), pi p1.type.kind, pi p1.type.scale, .ro (eField.els p1.type.fields)], ([[pi p2.id, .s (.string p2.name), .s (.bool p2.need), pi p2.type.kind, pi p2.type.scale, .ro (eField.els p2.type.fields)]] : List (List PV))[0]? = some [pi p2.id, .s (.string p2.name), .s (.bool p2.need), pi p2.type.kind, pi p2.type.scale, .ro (eField.els p2.type.fields)]] (by kernel_rfl) (⟨rfl, rfl, trivial⟩) ?_
      refine XO.setb 10 false (B := (p1.name.toList == p2.name.toList)) rfl b3 ?_
      refine XO.go [] 14 [4] [] [(4, vb false)] [] [] (by kernel_rfl) trivial ?_
      refine XO.done (by kernel_rfl) ?_
      exact hJ1 false h _ _ (Sub.pick [4] (by kernel_rfl))

end

def ref1_SameType_j2 (rec1 : Int → Option Bool) (x2 : Int) (x3 : Bool) : Option Bool :=
    ift x3
      (some false)
      (rec1 (IntKind.i64.wrap (x2 + (1 : Int))))

def ref1_SameType_j3 : Option Bool :=
    some true

def ref1_SameType_l1 (q_ref1_SameType : GType → GType → Option Bool) (p1 : GType) (p2 : GType) : Nat → Int → Option Bool
  | 0, _ => none
  | k1 + 1, x2 =>
    ift (decide (x2 < (p1.fields.length : Int)))
      (bnd (at? p1.fields x2) fun e1 =>
       bnd (at? p2.fields x2) fun e2 =>
       ift (!(e1.name.toList == e2.name.toList))
         (ref1_SameType_j2 (ref1_SameType_l1 q_ref1_SameType p1 p2 k1) x2 true)
         (ift (!(e1.need == e2.need))
            (ref1_SameType_j2 (ref1_SameType_l1 q_ref1_SameType p1 p2 k1) x2 true)
            (bnd (q_ref1_SameType e1.type e2.type) fun r1 =>
             ref1_SameType_j2 (ref1_SameType_l1 q_ref1_SameType p1 p2 k1) x2 (!r1))))
      (ref1_SameType_j3)

def ref1_SameType_j1 (q_ref1_SameType : GType → GType → Option Bool) (p1 : GType) (p2 : GType) (x1 : Bool) : Option Bool :=
    ift x1
      (some false)
      (ref1_SameType_l1 q_ref1_SameType p1 p2 BIG (0 : Int))

def ref1_SameType : Nat → GType → GType → Option Bool
  | 0, _, _ => none
  | k0 + 1, p1, p2 =>
    ift (p1.kind != p2.kind)
      (ref1_SameType_j1 (ref1_SameType k0) p1 p2 true)
      (ift (p1.scale != p2.scale)
         (ref1_SameType_j1 (ref1_SameType k0) p1 p2 true)
         (ref1_SameType_j1 (ref1_SameType k0) p1 p2 ((p1.fields.length : Int) != (p2.fields.length : Int))))


theorem c_ref1_SameType : ∀ (k0 : Nat) (p1 : GType) (p2 : GType) (r : Bool), ref1_SameType k0 p1 p2 = some r → PC Try.prog 17 [.ag [ci p1.kind, ci p1.scale, cl eField p1.fields], .ag [ci p2.kind, ci p2.scale, cl eField p2.fields]] (vb r)
  | 0, _, _, r, h => by rw [ref1_SameType.eq_1] at h; cases h
  | k0 + 1, p1, p2, r, h => by
    rw [ref1_SameType.eq_2] at h
    refine PC.of (n := 66) (fn := Try.f17) (c := cd Try.f17 []) (by kernel_rfl) (by kernel_rfl) (by kernel_rfl) (Nat.le_of_ble_eq_true rfl) ?_
    refine XW.seq (x := cd Try.f17 [0]) (y := cd Try.f17 [1]) (by kernel_rfl) fun K1 hK1 => ?_
    refine XW.reg (by kernel_rfl) ?_
    refine XO.go [6, 7] 3 [2,3] [] [(2, .one (.pv (.rp [[pi p1.kind, pi p1.scale, .ro (eField.els p1.fields)]] 0 0))), (3, .one (.pv (.rp [[pi p2.kind, pi p2.scale, .ro (eField.els p2.fields)]] 0 0)))] [] [] (by kernel_rfl) trivial ?_
    refine XO.done (by kernel_rfl) ?_
    refine hK1 _ _ ?_
    refine XW.seq (x := cd Try.f17 [1,0]) (y := cd Try.f17 [1,1]) (by kernel_rfl) fun K2 hK2 => ?_
    refine XW.seq (x := cd Try.f17 [1,0,0]) (y := cd Try.f17 [1,0,1]) (by kernel_rfl) fun K3 hK3 => ?_
    have hJ1 : ∀ (x1 : Bool), ref1_SameType_j1 (ref1_SameType k0) p1 p2 x1 = some r → ∀ fr1 st1, Sub 66 0 [] fr1 st1 [(2, .one (.pv (.rp [[pi p1.kind, pi p1.scale, .ro (eField.els p1.fields)]] 0 0))), (3, .one (.pv (.rp [[pi p2.kind, pi p2.scale, .ro (eField.els p2.fields)]] 0 0))), (28, vb x1)] [] → K3 fr1 st1 := by
      intro x1 h fr1 st1 hS
      unfold ref1_SameType_j1 at h
      refine hK3 _ _ (XW.sub hS ?_)
      refine XW.cond (x := .tmp 28) (a := cd Try.f17 [1,0,1,0]) (b := cd Try.f17 [1,0,1,1]) (t := x1) (by kernel_rfl) (by kernel_rfl) (fun b6 => ?_) (fun b6 => ?_)
      · have h := ift_t b6 h
        refine XW.seq (x := cd Try.f17 [1,0,1,0,0]) (y := cd Try.f17 [1,0,1,0,1]) (by kernel_rfl) fun K7 hK7 => ?_
        refine XW.reg (by kernel_rfl) ?_
        refine XO.go [6, 7] 1 [4] [] [(4, vb false)] [] [] (by kernel_rfl) trivial ?_
        refine XO.done (by kernel_rfl) ?_
        refine hK7 _ _ ?_
        refine XW.ret (by kernel_rfl) ?_
        obtain rfl := Option.some.inj h
        exact FinP.fin (.inr rfl) [] [vb false] [] (by kernel_rfl) trivial (.one (.rfl _ rfl))
      · have h := ift_f b6 h
        refine XW.skip (by kernel_rfl) ?_
        refine hK2 _ _ ?_
        refine XW.seq (x := cd Try.f17 [1,1,0]) (y := cd Try.f17 [1,1,1]) (by kernel_rfl) fun K8 hK8 => ?_
        have hJ3 : ∀ (_ : Unit), ref1_SameType_j3 = some r → ∀ fr1 st1, Sub 66 0 [] fr1 st1 [] [] → K8 fr1 st1 := by
          intro _ h fr1 st1 hS
          unfold ref1_SameType_j3 at h
          refine hK8 _ _ (XW.sub hS ?_)
          refine XW.seq (x := cd Try.f17 [1,1,1,0]) (y := cd Try.f17 [1,1,1,1]) (by kernel_rfl) fun K24 hK24 => ?_
          refine XW.reg (by kernel_rfl) ?_
          refine XO.go [6, 7] 1 [4] [] [(4, vb true)] [] [] (by kernel_rfl) trivial ?_
          refine XO.done (by kernel_rfl) ?_
          refine hK24 _ _ ?_
          refine XW.ret (by kernel_rfl) ?_
          obtain rfl := Option.some.inj h
          exact FinP.fin (.inr rfl) [] [vb true] [] (by kernel_rfl) trivial (.one (.rfl _ rfl))
        refine XW.seq (x := cd Try.f17 [1,1,0,0]) (y := cd Try.f17 [1,1,0,1]) (by kernel_rfl) fun K9 hK9 => ?_
        refine XW.reg (by kernel_rfl) ?_
        refine XO.go [6, 7] 3 [2,3,31] [[pi p1.kind, pi p1.scale, .ro (eField.els p1.fields)]] [(2, .one (.pv (.rp [[pi p1.kind, pi p1.scale, .ro (eField.els p1.fields)]] 0 0))), (3, .one (.pv (.rp [[pi p2.kind, pi p2.scale, .ro (eField.els p2.fields)]] 0 0))), (31, vi ((eField.els p1.fields).length : Int))] [] [([[pi p1.kind, pi p1.scale, .ro (eField.els p1.fields)]] : List (List PV))[0]? = some [pi p1.kind, pi p1.scale, .ro (eField.els p1.fields)]] (by kernel_rfl) (⟨rfl, trivial⟩) ?_
        rw [eField.len p1.fields]
        refine XO.go [6, 7] 1 [2,3,31,32] [] [(2, .one (.pv (.rp [[pi p1.kind, pi p1.scale, .ro (eField.els p1.fields)]] 0 0))), (3, .one (.pv (.rp [[pi p2.kind, pi p2.scale, .ro (eField.els p2.fields)]] 0 0))), (31, vi (p1.fields.length : Int)), (32, vi (0 : Int))] [] [] (by kernel_rfl) trivial ?_
        refine XO.done (by kernel_rfl) ?_
        refine hK9 _ _ ?_
        refine XW.block (id := 0) (x := cd Try.f17 [1,1,0,1,0]) (by kernel_rfl) ?_
        refine XW.rounds' BIG (x := cd Try.f17 [1,1,0,1,0,0]) (by kernel_rfl) fun Q1 hQ1 => ?_
        have hL1 : ∀ (k1 : Nat) (x2 : Int), ref1_SameType_l1 (ref1_SameType k0) p1 p2 k1 x2 = some r → XR Try.prog 66 0 [] (cd Try.f17 [1,1,0,1,0,0]) Q1 k1 [(2, .one (.pv (.rp [[pi p1.kind, pi p1.scale, .ro (eField.els p1.fields)]] 0 0))), (3, .one (.pv (.rp [[pi p2.kind, pi p2.scale, .ro (eField.els p2.fields)]] 0 0))), (31, vi (p1.fields.length : Int)), (32, vi x2)] [] := by
          intro k1
          induction k1 with
          | zero => intro x2 h; rw [ref1_SameType_l1.eq_1] at h; cases h
          | succ k1 ih1 =>
            intro x2 h
            rw [ref1_SameType_l1.eq_2] at h
            refine XW.seq (x := cd Try.f17 [1,1,0,1,0,0,0]) (y := cd Try.f17 [1,1,0,1,0,0,1]) (by kernel_rfl) fun K10 hK10 => ?_
            refine XW.reg (by kernel_rfl) ?_
            refine XO.go [6, 7] 1 [2,3,31,32,33] [] [(2, .one (.pv (.rp [[pi p1.kind, pi p1.scale, .ro (eField.els p1.fields)]] 0 0))), (3, .one (.pv (.rp [[pi p2.kind, pi p2.scale, .ro (eField.els p2.fields)]] 0 0))), (31, vi (p1.fields.length : Int)), (32, vi x2), (33, vb (decide (x2 < (p1.fields.length : Int))))] [] [] (by kernel_rfl) trivial ?_
            refine XO.done (by kernel_rfl) ?_
            refine hK10 _ _ ?_
            refine XW.seq (x := cd Try.f17 [1,1,0,1,0,0,1,0]) (y := cd Try.f17 [1,1,0,1,0,0,1,1]) (by kernel_rfl) fun K11 hK11 => ?_
            refine XW.cond (x := .tmp 33) (a := cd Try.f17 [1,1,0,1,0,0,1,0,0]) (b := cd Try.f17 [1,1,0,1,0,0,1,0,1]) (t := (decide (x2 < (p1.fields.length : Int)))) (by kernel_rfl) (by kernel_rfl) (fun b12 => ?_) (fun b12 => ?_)
            · have h := ift_t b12 h
              refine XW.skip (by kernel_rfl) ?_
              refine hK11 _ _ ?_
              refine XW.seq (x := cd Try.f17 [1,1,0,1,0,0,1,1,0]) (y := cd Try.f17 [1,1,0,1,0,0,1,1,1]) (by kernel_rfl) fun K13 hK13 => ?_
              refine XW.block (id := 1) (x := cd Try.f17 [1,1,0,1,0,0,1,1,0,0]) (by kernel_rfl) ?_
              refine XW.seq (x := cd Try.f17 [1,1,0,1,0,0,1,1,0,0,0]) (y := cd Try.f17 [1,1,0,1,0,0,1,1,0,0,1]) (by kernel_rfl) fun K14 hK14 => ?_
              refine XW.reg (by kernel_rfl) ?_
              refine XO.go [6, 7] 2 [2,3,5,31,32] [] [(2, .one (.pv (.rp [[pi p1.kind, pi p1.scale, .ro (eField.els p1.fields)]] 0 0))), (3, .one (.pv (.rp [[pi p2.kind, pi p2.scale, .ro (eField.els p2.fields)]] 0 0))), (5, vi x2), (31, vi (p1.fields.length : Int)), (32, vi x2)] [] [] (by kernel_rfl) trivial ?_
              refine XO.done (by kernel_rfl) ?_
              refine hK14 _ _ ?_
              refine XW.seq (x := cd Try.f17 [1,1,0,1,0,0,1,1,0,0,1,0]) (y := cd Try.f17 [1,1,0,1,0,0,1,1,0,0,1,1]) (by kernel_rfl) fun K15 hK15 => ?_
              obtain ⟨e1, a16, h⟩ := bnd_some h
              obtain ⟨e2, a17, h⟩ := bnd_some h
              refine XW.sub (Sub.dead 2) ?_
              refine XW.drwG 13 [0, 1, 2] [([], []), ([], []), ([], []), ([], []), ([], []), ([], []), ([], []), ([], []), ([], []), ([], []), ([0], [0]), ([1], [1]), ([0], [0])] [(7, .one (.pt 1 0 0 0)), (6, .one (.pt 0 0 0 0)), (44, .ag [ci e2.id, cst e2.name, cb e2.need, ci e2.type.kind, ci e2.type.scale, cl eField e2.type.fields]), (43, .one (.pv (.rp (eField.els p2.fields) x2.toNat 0))), (42, vi x2), (41, vl eField p2.fields), (40, .one (.pv (.rp [[pi p2.kind, pi p2.scale, .ro (eField.els p2.fields)]] 0 2))), (39, .ag [ci e1.id, cst e1.name, cb e1.need, ci e1.type.kind, ci e1.type.scale, cl eField e1.type.fields]), (38, .one (.pv (.rp (eField.els p1.fields) x2.toNat 0))), (37, vi x2), (36, vl eField p1.fields), (35, .one (.pv (.rp [[pi p1.kind, pi p1.scale, .ro (eField.els p1.fields)]] 0 2))), (2, .one (.pv (.rp [[pi p1.kind, pi p1.scale, .ro (eField.els p1.fields)]] 0 0))), (3, .one (.pv (.rp [[pi p2.kind, pi p2.scale, .ro (eField.els p2.fields)]] 0 0))), (5, vi x2), (31, vi (p1.fields.length : Int)), (32, vi x2)] [.box [ci e1.id, cst e1.name, cb e1.need, ci e1.type.kind, ci e1.type.scale, cl eField e1.type.fields], .box [ci (0 : Int), cst ByteArray.empty, cb false, ci (0 : Int), ci (0 : Int), .pv (.s (.slice none 0 0))]] (by kernel_rfl) (by kernel_rfl) ?_ ?_
              · refine GY.go 10 [[pi p1.kind, pi p1.scale, .ro (eField.els p1.fields)], [pi e1.id, .s (.string e1.name), .s (.bool e1.need), pi e1.type.kind, pi e1.type.scale, .ro (eField.els e1.type.fields)], [pi p2.kind, pi p2.scale, .ro (eField.els p2.fields)], [pi e2.id, .s (.string e2.name), .s (.bool e2.need), pi e2.type.kind, pi e2.type.scale, .ro (eField.els e2.type.fields)]] [(44, .ag [ci e2.id, cst e2.name, cb e2.need, ci e2.type.kind, ci e2.type.scale, cl eField e2.type.fields]), (43, .one (.pv (.rp (eField.els p2.fields) x2.toNat 0))), (42, vi x2), (41, vl eField p2.fields), (40, .one (.pv (.rp [[pi p2.kind, pi p2.scale, .ro (eField.els p2.fields)]] 0 2))), (39, .ag [ci e1.id, cst e1.name, cb e1.need, ci e1.type.kind, ci e1.type.scale, cl eField e1.type.fields]), (38, .one (.pv (.rp (eField.els p1.fields) x2.toNat 0))), (37, vi x2), (36, vl eField p1.fields), (35, .one (.pv (.rp [[pi p1.kind, pi p1.scale, .ro (eField.els p1.fields)]] 0 2))), (2, .one (.pv (.rp [[pi p1.kind, pi p1.scale, .ro (eField.els p1.fields)]] 0 0))), (3, .one (.pv (.rp [[pi p2.kind, pi p2.scale, .ro (eField.els p2.fields)]] 0 0))), (5, vi x2), (31, vi (p1.fields.length : Int)), (32, vi x2)] [([[pi p1.kind, pi p1.scale, .ro (eField.els p1.fields)]] : List (List PV))[0]? = some [pi p1.kind, pi p1.scale, .ro (eField.els p1.fields)], 0 ≤ x2 ∧ x2 < ((eField.els p1.fields).length : Int) ∧ elemsOk 6 (eField.els p1.fields), (eField.els p1.fields)[x2.toNat]? = some [pi e1.id, .s (.string e1.name), .s (.bool e1.need), pi e1.type.kind, pi e1.type.scale, .ro (eField.els e1.type.fields)], ([[pi p2.kind, pi p2.scale, .ro (eField.els p2.fields)]] : List (List PV))[0]? = some [pi p2.kind, pi p2.scale, .ro (eField.els p2.fields)], 0 ≤ x2 ∧ x2 < ((eField.els p2.fields).length : Int) ∧ elemsOk 6 (eField.els p2.fields), (eField.els p2.fields)[x2.toNat]? = some [pi e2.id, .s (.string e2.name), .s (.bool e2.need), pi e2.type.kind, pi e2.type.scale, .ro (eField.els e2.type.fields)]] (by kernel_rfl) (⟨rfl, eField.inb a16, ((eField.get a16).trans (by rcases e1 with ⟨_, _, _, ⟨_, _, _⟩⟩; rfl)), rfl, eField.inb a17, ((eField.get a17).trans (by rcases e2 with ⟨_, _, _, ⟨_, _, _⟩⟩; rfl)), trivial⟩) ?_
                refine GY.new true 0 [] [(6, .one (.pt 0 0 0 0)), (44, .ag [ci e2.id, cst e2.name, cb e2.need, ci e2.type.kind, ci e2.type.scale, cl eField e2.type.fields]), (43, .one (.pv (.rp (eField.els p2.fields) x2.toNat 0))), (42, vi x2), (41, vl eField p2.fields), (40, .one (.pv (.rp [[pi p2.kind, pi p2.scale, .ro (eField.els p2.fields)]] 0 2))), (39, .ag [ci e1.id, cst e1.name, cb e1.need, ci e1.type.kind, ci e1.type.scale, cl eField e1.type.fields]), (38, .one (.pv (.rp (eField.els p1.fields) x2.toNat 0))), (37, vi x2), (36, vl eField p1.fields), (35, .one (.pv (.rp [[pi p1.kind, pi p1.scale, .ro (eField.els p1.fields)]] 0 2))), (2, .one (.pv (.rp [[pi p1.kind, pi p1.scale, .ro (eField.els p1.fields)]] 0 0))), (3, .one (.pv (.rp [[pi p2.kind, pi p2.scale, .ro (eField.els p2.fields)]] 0 0))), (5, vi x2), (31, vi (p1.fields.length : Int)), (32, vi x2)] [0] [.box [ci (0 : Int), cst ByteArray.empty, cb false, ci (0 : Int), ci (0 : Int), .pv (.s (.slice none 0 0))], .dead] [] (by kernel_rfl) (by kernel_rfl) trivial ?_
                refine GY.new true 1 [] [(7, .one (.pt 1 0 0 0)), (6, .one (.pt 0 0 0 0)), (44, .ag [ci e2.id, cst e2.name, cb e2.need, ci e2.type.kind, ci e2.type.scale, cl eField e2.type.fields]), (43, .one (.pv (.rp (eField.els p2.fields) x2.toNat 0))), (42, vi x2), (41, vl eField p2.fields), (40, .one (.pv (.rp [[pi p2.kind, pi p2.scale, .ro (eField.els p2.fields)]] 0 2))), (39, .ag [ci e1.id, cst e1.name, cb e1.need, ci e1.type.kind, ci e1.type.scale, cl eField e1.type.fields]), (38, .one (.pv (.rp (eField.els p1.fields) x2.toNat 0))), (37, vi x2), (36, vl eField p1.fields), (35, .one (.pv (.rp [[pi p1.kind, pi p1.scale, .ro (eField.els p1.fields)]] 0 2))), (2, .one (.pv (.rp [[pi p1.kind, pi p1.scale, .ro (eField.els p1.fields)]] 0 0))), (3, .one (.pv (.rp [[pi p2.kind, pi p2.scale, .ro (eField.els p2.fields)]] 0 0))), (5, vi x2), (31, vi (p1.fields.length : Int)), (32, vi x2)] [1] [.box [ci (0 : Int), cst ByteArray.empty, cb false, ci (0 : Int), ci (0 : Int), .pv (.s (.slice none 0 0))], .box [ci (0 : Int), cst ByteArray.empty, cb false, ci (0 : Int), ci (0 : Int), .pv (.s (.slice none 0 0))]] [] (by kernel_rfl) (by kernel_rfl) trivial ?_
                refine GY.wr [] [(7, .one (.pt 1 0 0 0)), (6, .one (.pt 0 0 0 0)), (44, .ag [ci e2.id, cst e2.name, cb e2.need, ci e2.type.kind, ci e2.type.scale, cl eField e2.type.fields]), (43, .one (.pv (.rp (eField.els p2.fields) x2.toNat 0))), (42, vi x2), (41, vl eField p2.fields), (40, .one (.pv (.rp [[pi p2.kind, pi p2.scale, .ro (eField.els p2.fields)]] 0 2))), (39, .ag [ci e1.id, cst e1.name, cb e1.need, ci e1.type.kind, ci e1.type.scale, cl eField e1.type.fields]), (38, .one (.pv (.rp (eField.els p1.fields) x2.toNat 0))), (37, vi x2), (36, vl eField p1.fields), (35, .one (.pv (.rp [[pi p1.kind, pi p1.scale, .ro (eField.els p1.fields)]] 0 2))), (2, .one (.pv (.rp [[pi p1.kind, pi p1.scale, .ro (eField.els p1.fields)]] 0 0))), (3, .one (.pv (.rp [[pi p2.kind, pi p2.scale, .ro (eField.els p2.fields)]] 0 0))), (5, vi x2), (31, vi (p1.fields.length : Int)), (32, vi x2)] [0] [.box [ci e1.id, cst e1.name, cb e1.need, ci e1.type.kind, ci e1.type.scale, cl eField e1.type.fields], .box [ci (0 : Int), cst ByteArray.empty, cb false, ci (0 : Int), ci (0 : Int), .pv (.s (.slice none 0 0))]] [] (by kernel_rfl) (by kernel_rfl) trivial ?_
                exact GY.done (by kernel_rfl) (by kernel_rfl)
              refine XO.go [6, 7] 1 [2,3,6,7,31,32] [] [(2, .one (.pv (.rp [[pi p1.kind, pi p1.scale, .ro (eField.els p1.fields)]] 0 0))), (3, .one (.pv (.rp [[pi p2.kind, pi p2.scale, .ro (eField.els p2.fields)]] 0 0))), (6, .one (.pt 0 0 0 0)), (7, .one (.pt 1 0 0 0)), (31, vi (p1.fields.length : Int)), (32, vi x2)] [.box [ci e1.id, cst e1.name, cb e1.need, ci e1.type.kind, ci e1.type.scale, cl eField e1.type.fields], .box [ci e2.id, cst e2.name, cb e2.need, ci e2.type.kind, ci e2.type.scale, cl eField e2.type.fields]] [] (by kernel_rfl) trivial ?_
              refine XO.done (by kernel_rfl) ?_
              refine hK15 _ _ ?_
              refine XW.seq (x := cd Try.f17 [1,1,0,1,0,0,1,1,0,0,1,1,0]) (y := cd Try.f17 [1,1,0,1,0,0,1,1,0,0,1,1,1]) (by kernel_rfl) fun K18 hK18 => ?_
              have hJ2 : ∀ (x3 : Bool), ref1_SameType_j2 (ref1_SameType_l1 (ref1_SameType k0) p1 p2 k1) x2 x3 = some r → ∀ fr1 st1, Sub 66 0 [] fr1 st1 [(2, .one (.pv (.rp [[pi p1.kind, pi p1.scale, .ro (eField.els p1.fields)]] 0 0))), (3, .one (.pv (.rp [[pi p2.kind, pi p2.scale, .ro (eField.els p2.fields)]] 0 0))), (31, vi (p1.fields.length : Int)), (32, vi x2), (64, vb x3)] [.box [ci e1.id, cst e1.name, cb e1.need, ci e1.type.kind, ci e1.type.scale, cl eField e1.type.fields], .box [ci e2.id, cst e2.name, cb e2.need, ci e2.type.kind, ci e2.type.scale, cl eField e2.type.fields]] → K18 fr1 st1 := by
                intro x3 h fr1 st1 hS
                unfold ref1_SameType_j2 at h
                refine hK18 _ _ (XW.sub hS ?_)
                refine XW.cond (x := .tmp 64) (a := cd Try.f17 [1,1,0,1,0,0,1,1,0,0,1,1,1,0]) (b := cd Try.f17 [1,1,0,1,0,0,1,1,0,0,1,1,1,1]) (t := x3) (by kernel_rfl) (by kernel_rfl) (fun b22 => ?_) (fun b22 => ?_)
                · have h := ift_t b22 h
                  refine XW.seq (x := cd Try.f17 [1,1,0,1,0,0,1,1,0,0,1,1,1,0,0]) (y := cd Try.f17 [1,1,0,1,0,0,1,1,0,0,1,1,1,0,1]) (by kernel_rfl) fun K23 hK23 => ?_
                  refine XW.reg (by kernel_rfl) ?_
                  refine XO.go [6, 7] 1 [4] [] [(4, vb false)] [.box [ci e1.id, cst e1.name, cb e1.need, ci e1.type.kind, ci e1.type.scale, cl eField e1.type.fields], .box [ci e2.id, cst e2.name, cb e2.need, ci e2.type.kind, ci e2.type.scale, cl eField e2.type.fields]] [] (by kernel_rfl) trivial ?_
                  refine XO.done (by kernel_rfl) ?_
                  refine hK23 _ _ ?_
                  refine XW.ret (by kernel_rfl) ?_
                  refine hQ1 _ _ _ ?_
                  obtain rfl := Option.some.inj h
                  exact FinP.fin (.inr rfl) [] [vb false] [] (by kernel_rfl) trivial (.one (.rfl _ rfl))
                · have h := ift_f b22 h
                  refine XW.skip (by kernel_rfl) ?_
                  refine hK13 _ _ ?_
                  refine XW.reg (by kernel_rfl) ?_
                  refine XO.go [6, 7] 2 [2,3,31,32] [] [(2, .one (.pv (.rp [[pi p1.kind, pi p1.scale, .ro (eField.els p1.fields)]] 0 0))), (3, .one (.pv (.rp [[pi p2.kind, pi p2.scale, .ro (eField.els p2.fields)]] 0 0))), (31, vi (p1.fields.length : Int)), (32, vi (IntKind.i64.wrap (x2 + (1 : Int))))] [.box [ci e1.id, cst e1.name, cb e1.need, ci e1.type.kind, ci e1.type.scale, cl eField e1.type.fields], .box [ci e2.id, cst e2.name, cb e2.need, ci e2.type.kind, ci e2.type.scale, cl eField e2.type.fields]] [] (by kernel_rfl) trivial ?_
                  refine XO.done (by kernel_rfl) ?_
                  exact XR.sub (Sub.trans (Sub.pick (fr' := [(2, .one (.pv (.rp [[pi p1.kind, pi p1.scale, .ro (eField.els p1.fields)]] 0 0))), (3, .one (.pv (.rp [[pi p2.kind, pi p2.scale, .ro (eField.els p2.fields)]] 0 0))), (31, vi (p1.fields.length : Int)), (32, vi (IntKind.i64.wrap (x2 + (1 : Int))))]) [2,3,31,32] (by kernel_rfl)) (Sub.take (fr' := [(2, .one (.pv (.rp [[pi p1.kind, pi p1.scale, .ro (eField.els p1.fields)]] 0 0))), (3, .one (.pv (.rp [[pi p2.kind, pi p2.scale, .ro (eField.els p2.fields)]] 0 0))), (31, vi (p1.fields.length : Int)), (32, vi (IntKind.i64.wrap (x2 + (1 : Int))))]) 0 (Nat.zero_le _) (by kernel_rfl) (by kernel_rfl))) (ih1 (IntKind.i64.wrap (x2 + (1 : Int))) h)
              rcases Bool.eq_false_or_eq_true (!(e1.name.toList == e2.name.toList)) with b19 | b19
              · have h := ift_t b19 h
                refine XW.reg (by kernel_rfl) ?_
                refine XO.go [6, 7] 6 [2,3,6,7,31,32,50] [] [(2, .one (.pv (.rp [[pi p1.kind, pi p1.scale, .ro (eField.els p1.fields)]] 0 0))), (3, .one (.pv (.rp [[pi p2.kind, pi p2.scale, .ro (eField.els p2.fields)]] 0 0))), (6, .one (.pt 0 0 0 0)), (7, .one (.pt 1 0 0 0)), (31, vi (p1.fields.length : Int)), (32, vi x2), (50, vb (!(e1.name.toList == e2.name.toList)))] [.box [ci e1.id, cst e1.name, cb e1.need, ci e1.type.kind, ci e1.type.scale, cl eField e1.type.fields], .box [ci e2.id, cst e2.name, cb e2.need, ci e2.type.kind, ci e2.type.scale, cl eField e2.type.fields]] [] (by kernel_rfl) trivial ?_
                refine XO.setb 50 true (B := (!(e1.name.toList == e2.name.toList))) rfl b19 ?_
                refine XO.go [6, 7] 14 [2,3,31,32,64] [] [(2, .one (.pv (.rp [[pi p1.kind, pi p1.scale, .ro (eField.els p1.fields)]] 0 0))), (3, .one (.pv (.rp [[pi p2.kind, pi p2.scale, .ro (eField.els p2.fields)]] 0 0))), (31, vi (p1.fields.length : Int)), (32, vi x2), (64, vb true)] [.box [ci e1.id, cst e1.name, cb e1.need, ci e1.type.kind, ci e1.type.scale, cl eField e1.type.fields], .box [ci e2.id, cst e2.name, cb e2.need, ci e2.type.kind, ci e2.type.scale, cl eField e2.type.fields]] [] (by kernel_rfl) trivial ?_
                refine XO.done (by kernel_rfl) ?_
                exact hJ2 true h _ _ (Sub.pick [2,3,31,32,64] (by kernel_rfl))
              · have h := ift_f b19 h
                rcases Bool.eq_false_or_eq_true (!(e1.need == e2.need)) with b20 | b20
                · have h := ift_t b20 h
                  refine XW.reg (by kernel_rfl) ?_
                  refine XO.go [6, 7] 6 [2,3,6,7,31,32,50] [] [(2, .one (.pv (.rp [[pi p1.kind, pi p1.scale, .ro (eField.els p1.fields)]] 0 0))), (3, .one (.pv (.rp [[pi p2.kind, pi p2.scale, .ro (eField.els p2.fields)]] 0 0))), (6, .one (.pt 0 0 0 0)), (7, .one (.pt 1 0 0 0)), (31, vi (p1.fields.length : Int)), (32, vi x2), (50, vb (!(e1.name.toList == e2.name.toList)))] [.box [ci e1.id, cst e1.name, cb e1.need, ci e1.type.kind, ci e1.type.scale, cl eField e1.type.fields], .box [ci e2.id, cst e2.name, cb e2.need, ci e2.type.kind, ci e2.type.scale, cl eField e2.type.fields]] [] (by kernel_rfl) trivial ?_
                  refine XO.setb 50 false (B := (!(e1.name.toList == e2.name.toList))) rfl b19 ?_
                  refine XO.go [6, 7] 7 [2,3,6,7,31,32,57] [] [(2, .one (.pv (.rp [[pi p1.kind, pi p1.scale, .ro (eField.els p1.fields)]] 0 0))), (3, .one (.pv (.rp [[pi p2.kind, pi p2.scale, .ro (eField.els p2.fields)]] 0 0))), (6, .one (.pt 0 0 0 0)), (7, .one (.pt 1 0 0 0)), (31, vi (p1.fields.length : Int)), (32, vi x2), (57, vb (!(e1.need == e2.need)))] [.box [ci e1.id, cst e1.name, cb e1.need, ci e1.type.kind, ci e1.type.scale, cl eField e1.type.fields], .box [ci e2.id, cst e2.name, cb e2.need, ci e2.type.kind, ci e2.type.scale, cl eField e2.type.fields]] [] (by kernel_rfl) trivial ?_
                  refine XO.setb 57 true (B := (!(e1.need == e2.need))) rfl b20 ?_
                  refine XO.go [6, 7] 7 [2,3,31,32,64] [] [(2, .one (.pv (.rp [[pi p1.kind, pi p1.scale, .ro (eField.els p1.fields)]] 0 0))), (3, .one (.pv (.rp [[pi p2.kind, pi p2.scale, .ro (eField.els p2.fields)]] 0 0))), (31, vi (p1.fields.length : Int)), (32, vi x2), (64, vb true)] [.box [ci e1.id, cst e1.name, cb e1.need, ci e1.type.kind, ci e1.type.scale, cl eField e1.type.fields], .box [ci e2.id, cst e2.name, cb e2.need, ci e2.type.kind, ci e2.type.scale, cl eField e2.type.fields]] [] (by kernel_rfl) trivial ?_
                  refine XO.done (by kernel_rfl) ?_
                  exact hJ2 true h _ _ (Sub.pick [2,3,31,32,64] (by kernel_rfl))
                · have h := ift_f b20 h
                  obtain ⟨r1, c21, h⟩ := bnd_some h
                  refine XW.reg (by kernel_rfl) ?_
                  refine XO.go [6, 7] 6 [2,3,6,7,31,32,50] [] [(2, .one (.pv (.rp [[pi p1.kind, pi p1.scale, .ro (eField.els p1.fields)]] 0 0))), (3, .one (.pv (.rp [[pi p2.kind, pi p2.scale, .ro (eField.els p2.fields)]] 0 0))), (6, .one (.pt 0 0 0 0)), (7, .one (.pt 1 0 0 0)), (31, vi (p1.fields.length : Int)), (32, vi x2), (50, vb (!(e1.name.toList == e2.name.toList)))] [.box [ci e1.id, cst e1.name, cb e1.need, ci e1.type.kind, ci e1.type.scale, cl eField e1.type.fields], .box [ci e2.id, cst e2.name, cb e2.need, ci e2.type.kind, ci e2.type.scale, cl eField e2.type.fields]] [] (by kernel_rfl) trivial ?_
                  refine XO.setb 50 false (B := (!(e1.name.toList == e2.name.toList))) rfl b19 ?_
                  refine XO.go [6, 7] 7 [2,3,6,7,31,32,57] [] [(2, .one (.pv (.rp [[pi p1.kind, pi p1.scale, .ro (eField.els p1.fields)]] 0 0))), (3, .one (.pv (.rp [[pi p2.kind, pi p2.scale, .ro (eField.els p2.fields)]] 0 0))), (6, .one (.pt 0 0 0 0)), (7, .one (.pt 1 0 0 0)), (31, vi (p1.fields.length : Int)), (32, vi x2), (57, vb (!(e1.need == e2.need)))] [.box [ci e1.id, cst e1.name, cb e1.need, ci e1.type.kind, ci e1.type.scale, cl eField e1.type.fields], .box [ci e2.id, cst e2.name, cb e2.need, ci e2.type.kind, ci e2.type.scale, cl eField e2.type.fields]] [] (by kernel_rfl) trivial ?_
                  refine XO.setb 57 false (B := (!(e1.need == e2.need))) rfl b20 ?_
                  refine XO.go [6, 7] 4 [2,3,31,32,57,59,61] [] [(2, .one (.pv (.rp [[pi p1.kind, pi p1.scale, .ro (eField.els p1.fields)]] 0 0))), (3, .one (.pv (.rp [[pi p2.kind, pi p2.scale, .ro (eField.els p2.fields)]] 0 0))), (31, vi (p1.fields.length : Int)), (32, vi x2), (57, vb false), (59, .ag [ci e1.type.kind, ci e1.type.scale, cl eField e1.type.fields]), (61, .ag [ci e2.type.kind, ci e2.type.scale, cl eField e2.type.fields])] [.box [ci e1.id, cst e1.name, cb e1.need, ci e1.type.kind, ci e1.type.scale, cl eField e1.type.fields], .box [ci e2.id, cst e2.name, cb e2.need, ci e2.type.kind, ci e2.type.scale, cl eField e2.type.fields]] [] (by kernel_rfl) trivial ?_
                  refine XO.cal 17 [.ag [ci e1.type.kind, ci e1.type.scale, cl eField e1.type.fields], .ag [ci e2.type.kind, ci e2.type.scale, cl eField e2.type.fields]] (vb r1) [(62, vb r1), (2, .one (.pv (.rp [[pi p1.kind, pi p1.scale, .ro (eField.els p1.fields)]] 0 0))), (3, .one (.pv (.rp [[pi p2.kind, pi p2.scale, .ro (eField.els p2.fields)]] 0 0))), (31, vi (p1.fields.length : Int)), (32, vi x2), (57, vb false), (59, .ag [ci e1.type.kind, ci e1.type.scale, cl eField e1.type.fields]), (61, .ag [ci e2.type.kind, ci e2.type.scale, cl eField e2.type.fields])] (by kernel_rfl) (c_ref1_SameType k0 _ _ _ c21) rfl rfl (by kernel_rfl) ?_
                  refine XO.go [6, 7] 2 [2,3,31,32,64] [] [(2, .one (.pv (.rp [[pi p1.kind, pi p1.scale, .ro (eField.els p1.fields)]] 0 0))), (3, .one (.pv (.rp [[pi p2.kind, pi p2.scale, .ro (eField.els p2.fields)]] 0 0))), (31, vi (p1.fields.length : Int)), (32, vi x2), (64, vb (!r1))] [.box [ci e1.id, cst e1.name, cb e1.need, ci e1.type.kind, ci e1.type.scale, cl eField e1.type.fields], .box [ci e2.id, cst e2.name, cb e2.need, ci e2.type.kind, ci e2.type.scale, cl eField e2.type.fields]] [] (by kernel_rfl) trivial ?_
                  refine XO.done (by kernel_rfl) ?_
                  exact hJ2 (!r1) h _ _ (Sub.pick [2,3,31,32,64] (by kernel_rfl))
            · have h := ift_f b12 h
              refine XW.exit (id := 0) (by kernel_rfl) ?_
              refine hQ1 _ _ _ ?_
              exact hJ3 () h _ _ (Sub.pick [] (by kernel_rfl))
        exact XR.sub (Sub.pick [2,3,31,32] (by kernel_rfl)) (hL1 BIG (0 : Int) h)
    rcases Bool.eq_false_or_eq_true (p1.kind != p2.kind) with b4 | b4
    · have h := ift_t b4 h
      refine XW.reg (by kernel_rfl) ?_
      refine XO.go [6, 7] 6 [2,3,13] [[pi p1.kind, pi p1.scale, .ro (eField.els p1.fields)], [pi p2.kind, pi p2.scale, .ro (eField.els p2.fields)]] [(2, .one (.pv (.rp [[pi p1.kind, pi p1.scale, .ro (eField.els p1.fields)]] 0 0))), (3, .one (.pv (.rp [[pi p2.kind, pi p2.scale, .ro (eField.els p2.fields)]] 0 0))), (13, vb (p1.kind != p2.kind))] [] [([[pi p1.kind, pi p1.scale, .ro (eField.els p1.fields)]] : List (List PV))[0]? = some [pi p1.kind, pi p1.scale, .ro (eField.els p1.fields)], ([[pi p2.kind, pi p2.scale, .ro (eField.els p2.fields)]] : List (List PV))[0]? = some [pi p2.kind, pi p2.scale, .ro (eField.els p2.fields)]] (by kernel_rfl) (⟨rfl, rfl, trivial⟩) ?_
      refine XO.setb 13 true (B := (p1.kind != p2.kind)) rfl b4 ?_
      refine XO.go [6, 7] 15 [2,3,28] [] [(2, .one (.pv (.rp [[pi p1.kind, pi p1.scale, .ro (eField.els p1.fields)]] 0 0))), (3, .one (.pv (.rp [[pi p2.kind, pi p2.scale, .ro (eField.els p2.fields)]] 0 0))), (28, vb true)] [] [] (by kernel_rfl) trivial ?_
      refine XO.done (by kernel_rfl) ?_
      exact hJ1 true h _ _ (Sub.pick [2,3,28] (by kernel_rfl))
    · have h := ift_f b4 h
      rcases Bool.eq_false_or_eq_true (p1.scale != p2.scale) with b5 | b5
      · have h := ift_t b5 h
        refine XW.reg (by kernel_rfl) ?_
        refine XO.go [6, 7] 6 [2,3,13] [[pi p1.kind, pi p1.scale, .ro (eField.els p1.fields)], [pi p2.kind, pi p2.scale, .ro (eField.els p2.fields)]] [(2, .one (.pv (.rp [[pi p1.kind, pi p1.scale, .ro (eField.els p1.fields)]] 0 0))), (3, .one (.pv (.rp [[pi p2.kind, pi p2.scale, .ro (eField.els p2.fields)]] 0 0))), (13, vb (p1.kind != p2.kind))] [] [([[pi p1.kind, pi p1.scale, .ro (eField.els p1.fields)]] : List (List PV))[0]? = some [pi p1.kind, pi p1.scale, .ro (eField.els p1.fields)], ([[pi p2.kind, pi p2.scale, .ro (eField.els p2.fields)]] : List (List PV))[0]? = some [pi p2.kind, pi p2.scale, .ro (eField.els p2.fields)]] (by kernel_rfl) (⟨rfl, rfl, trivial⟩) ?_
        refine XO.setb 13 false (B := (p1.kind != p2.kind)) rfl b4 ?_
        refine XO.go [6, 7] 7 [2,3,20] [[pi p1.kind, pi p1.scale, .ro (eField.els p1.fields)], [pi p2.kind, pi p2.scale, .ro (eField.els p2.fields)]] [(2, .one (.pv (.rp [[pi p1.kind, pi p1.scale, .ro (eField.els p1.fields)]] 0 0))), (3, .one (.pv (.rp [[pi p2.kind, pi p2.scale, .ro (eField.els p2.fields)]] 0 0))), (20, vb (p1.scale != p2.scale))] [] [([[pi p1.kind, pi p1.scale, .ro (eField.els p1.fields)]] : List (List PV))[0]? = some [pi p1.kind, pi p1.scale, .ro (eField.els p1.fields)], ([[pi p2.kind, pi p2.scale, .ro (eField.els p2.fields)]] : List (List PV))[0]? = some [pi p2.kind, pi p2.scale, .ro (eField.els p2.fields)]] (by kernel_rfl) (⟨rfl, rfl, trivial⟩) ?_
        refine XO.setb 20 true (B := (p1.scale != p2.scale)) rfl b5 ?_
        refine XO.go [6, 7] 8 [2,3,28] [] [(2, .one (.pv (.rp [[pi p1.kind, pi p1.scale, .ro (eField.els p1.fields)]] 0 0))), (3, .one (.pv (.rp [[pi p2.kind, pi p2.scale, .ro (eField.els p2.fields)]] 0 0))), (28, vb true)] [] [] (by kernel_rfl) trivial ?_
        refine XO.done (by kernel_rfl) ?_
        exact hJ1 true h _ _ (Sub.pick [2,3,28] (by kernel_rfl))
      · have h := ift_f b5 h
        refine XW.reg (by kernel_rfl) ?_
        refine XO.go [6, 7] 6 [2,3,13] [[pi p1.kind, pi p1.scale, .ro (eField.els p1.fields)], [pi p2.kind, pi p2.scale, .ro (eField.els p2.fields)]] [(2, .one (.pv (.rp [[pi p1.kind, pi p1.scale, .ro (eField.els p1.fields)]] 0 0))), (3, .one (.pv (.rp [[pi p2.kind, pi p2.scale, .ro (eField.els p2.fields)]] 0 0))), (13, vb (p1.kind != p2.kind))] [] [([[pi p1.kind, pi p1.scale, .ro (eField.els p1.fields)]] : List (List PV))[0]? = some [pi p1.kind, pi p1.scale, .ro (eField.els p1.fields)], ([[pi p2.kind, pi p2.scale, .ro (eField.els p2.fields)]] : List (List PV))[0]? = some [pi p2.kind, pi p2.scale, .ro (eField.els p2.fields)]] (by kernel_rfl) (⟨rfl, rfl, trivial⟩) ?_
        refine XO.setb 13 false (B := (p1.kind != p2.kind)) rfl b4 ?_
        refine XO.go [6, 7] 7 [2,3,20] [[pi p1.kind, pi p1.scale, .ro (eField.els p1.fields)], [pi p2.kind, pi p2.scale, .ro (eField.els p2.fields)]] [(2, .one (.pv (.rp [[pi p1.kind, pi p1.scale, .ro (eField.els p1.fields)]] 0 0))), (3, .one (.pv (.rp [[pi p2.kind, pi p2.scale, .ro (eField.els p2.fields)]] 0 0))), (20, vb (p1.scale != p2.scale))] [] [([[pi p1.kind, pi p1.scale, .ro (eField.els p1.fields)]] : List (List PV))[0]? = some [pi p1.kind, pi p1.scale, .ro (eField.els p1.fields)], ([[pi p2.kind, pi p2.scale, .ro (eField.els p2.fields)]] : List (List PV))[0]? = some [pi p2.kind, pi p2.scale, .ro (eField.els p2.fields)]] (by kernel_rfl) (⟨rfl, rfl, trivial⟩) ?_
        refine XO.setb 20 false (B := (p1.scale != p2.scale)) rfl b5 ?_
        refine XO.go [6, 7] 3 [2,3,20,23] [[pi p1.kind, pi p1.scale, .ro (eField.els p1.fields)]] [(2, .one (.pv (.rp [[pi p1.kind, pi p1.scale, .ro (eField.els p1.fields)]] 0 0))), (3, .one (.pv (.rp [[pi p2.kind, pi p2.scale, .ro (eField.els p2.fields)]] 0 0))), (20, vb false), (23, vi ((eField.els p1.fields).length : Int))] [] [([[pi p1.kind, pi p1.scale, .ro (eField.els p1.fields)]] : List (List PV))[0]? = some [pi p1.kind, pi p1.scale, .ro (eField.els p1.fields)]] (by kernel_rfl) (⟨rfl, trivial⟩) ?_
        rw [eField.len p1.fields]
        refine XO.go [6, 7] 3 [2,3,20,23,26] [[pi p2.kind, pi p2.scale, .ro (eField.els p2.fields)]] [(2, .one (.pv (.rp [[pi p1.kind, pi p1.scale, .ro (eField.els p1.fields)]] 0 0))), (3, .one (.pv (.rp [[pi p2.kind, pi p2.scale, .ro (eField.els p2.fields)]] 0 0))), (20, vb false), (23, vi (p1.fields.length : Int)), (26, vi ((eField.els p2.fields).length : Int))] [] [([[pi p2.kind, pi p2.scale, .ro (eField.els p2.fields)]] : List (List PV))[0]? = some [pi p2.kind, pi p2.scale, .ro (eField.els p2.fields)]] (by kernel_rfl) (⟨rfl, trivial⟩) ?_
        rw [eField.len p2.fields]
        refine XO.go [6, 7] 2 [2,3,28] [] [(2, .one (.pv (.rp [[pi p1.kind, pi p1.scale, .ro (eField.els p1.fields)]] 0 0))), (3, .one (.pv (.rp [[pi p2.kind, pi p2.scale, .ro (eField.els p2.fields)]] 0 0))), (28, vb ((p1.fields.length : Int) != (p2.fields.length : Int)))] [] [] (by kernel_rfl) trivial ?_
        refine XO.done (by kernel_rfl) ?_
        exact hJ1 ((p1.fields.length : Int) != (p2.fields.length : Int)) h _ _ (Sub.pick [2,3,28] (by kernel_rfl))

def law1_ValueTypesMatchSpec_j1 (x1 : Bool) : Option Bool :=
    some x1

def law1_ValueTypesMatchSpec (p1 : GType) (p2 : GType) (p3 : (List GField)) : Option Bool :=
    bnd (value_CheckType (GType.mk (0 : Int) (0 : Int) [])) fun r1 =>
    ift (r1 == (3 : Int))
      (bnd (value_CheckType p1) fun r2 =>
       bnd (ref1_CheckType p1) fun r3 =>
       ift (r2 == r3)
         (bnd (value_CheckSchema p3) fun r4 =>
          bnd (ref1_CheckSchema p3) fun r5 =>
          ift (r4 == r5)
            (bnd (value_SameType BIG p1 p2) fun r6 =>
             bnd (ref1_SameType BIG p1 p2) fun r7 =>
             law1_ValueTypesMatchSpec_j1 (r6 == r7))
            (law1_ValueTypesMatchSpec_j1 false))
         (law1_ValueTypesMatchSpec_j1 false))
      (law1_ValueTypesMatchSpec_j1 false)


theorem c_law1_ValueTypesMatchSpec (p1 : GType) (p2 : GType) (p3 : (List GField)) (r : Bool) (h : law1_ValueTypesMatchSpec p1 p2 p3 = some r) : PC Try.prog 4 [.ag [ci p1.kind, ci p1.scale, cl eField p1.fields], .ag [ci p2.kind, ci p2.scale, cl eField p2.fields], vl eField p3] (vb r) := by
  unfold law1_ValueTypesMatchSpec at h
  refine PC.of (n := 33) (fn := Try.f4) (c := cd Try.f4 []) (by kernel_rfl) (by kernel_rfl) (by kernel_rfl) (Nat.le_of_ble_eq_true rfl) ?_
  refine XW.seq (x := cd Try.f4 [0]) (y := cd Try.f4 [1]) (by kernel_rfl) fun K1 hK1 => ?_
  refine XW.reg (by kernel_rfl) ?_
  refine XO.go [] 3 [2,3,4] [] [(2, vl eField p3), (3, .one (.pv (.rp [[pi p1.kind, pi p1.scale, .ro (eField.els p1.fields)]] 0 0))), (4, .one (.pv (.rp [[pi p2.kind, pi p2.scale, .ro (eField.els p2.fields)]] 0 0)))] [] [] (by kernel_rfl) trivial ?_
  refine XO.done (by kernel_rfl) ?_
  refine hK1 _ _ ?_
  refine XW.seq (x := cd Try.f4 [1,0]) (y := cd Try.f4 [1,1]) (by kernel_rfl) fun K2 hK2 => ?_
  have hJ1 : ∀ (x1 : Bool), law1_ValueTypesMatchSpec_j1 x1 = some r → ∀ fr1 st1, Sub 33 0 [] fr1 st1 [(6, vb x1)] [] → K2 fr1 st1 := by
    intro x1 h fr1 st1 hS
    unfold law1_ValueTypesMatchSpec_j1 at h
    refine hK2 _ _ (XW.sub hS ?_)
    refine XW.ret (by kernel_rfl) ?_
    obtain rfl := Option.some.inj h
    exact FinP.fin (.inr rfl) [] [vb x1] [] (by kernel_rfl) trivial (.one (.rfl _ rfl))
  obtain ⟨r1, c3, h⟩ := bnd_some h
  rcases Bool.eq_false_or_eq_true (r1 == (3 : Int)) with b4 | b4
  · have h := ift_t b4 h
    obtain ⟨r2, c5, h⟩ := bnd_some h
    obtain ⟨r3, c6, h⟩ := bnd_some h
    rcases Bool.eq_false_or_eq_true (r2 == r3) with b7 | b7
    · have h := ift_t b7 h
      obtain ⟨r4, c8, h⟩ := bnd_some h
      obtain ⟨r5, c9, h⟩ := bnd_some h
      rcases Bool.eq_false_or_eq_true (r4 == r5) with b10 | b10
      · have h := ift_t b10 h
        obtain ⟨r6, c11, h⟩ := bnd_some h
        obtain ⟨r7, c12, h⟩ := bnd_some h
        refine XW.drwS 23 [(29, .ag [ci p2.kind, ci p2.scale, cl eField p2.fields]), (28, .ag [ci p1.kind, ci p1.scale, cl eField p1.fields]), (27, vb r6), (26, .ag [ci p2.kind, ci p2.scale, cl eField p2.fields]), (25, .ag [ci p1.kind, ci p1.scale, cl eField p1.fields]), (24, vb true), (23, vb (r4 == r5)), (22, vb (r4 == r5)), (21, vi r5), (20, vl eField p3), (19, vi r4), (18, vl eField p3), (17, vb true), (16, vb (r2 == r3)), (15, vb (r2 == r3)), (14, vi r3), (13, .ag [ci p1.kind, ci p1.scale, cl eField p1.fields]), (12, vi r2), (11, .ag [ci p1.kind, ci p1.scale, cl eField p1.fields]), (10, vb true), (9, vb (r1 == (3 : Int))), (8, vi r1), (7, .ag [ci (0 : Int), ci (0 : Int), .pv (.s (.slice none 0 0))]), (2, vl eField p3), (3, .one (.pv (.rp [[pi p1.kind, pi p1.scale, .ro (eField.els p1.fields)]] 0 0))), (4, .one (.pv (.rp [[pi p2.kind, pi p2.scale, .ro (eField.els p2.fields)]] 0 0)))] (by kernel_rfl) (by kernel_rfl) ?_ ?_
        · refine DX.go 1 [] [(7, .ag [ci (0 : Int), ci (0 : Int), .pv (.s (.slice none 0 0))]), (2, vl eField p3), (3, .one (.pv (.rp [[pi p1.kind, pi p1.scale, .ro (eField.els p1.fields)]] 0 0))), (4, .one (.pv (.rp [[pi p2.kind, pi p2.scale, .ro (eField.els p2.fields)]] 0 0)))] [] (by kernel_rfl) trivial ?_
          refine DX.cal 13 [.ag [ci (0 : Int), ci (0 : Int), .pv (.s (.slice none 0 0))]] (vi r1) [(8, vi r1), (7, .ag [ci (0 : Int), ci (0 : Int), .pv (.s (.slice none 0 0))]), (2, vl eField p3), (3, .one (.pv (.rp [[pi p1.kind, pi p1.scale, .ro (eField.els p1.fields)]] 0 0))), (4, .one (.pv (.rp [[pi p2.kind, pi p2.scale, .ro (eField.els p2.fields)]] 0 0)))] (by kernel_rfl) (PC.le (c_value_CheckType _ _ c3) ⟨ALe.agc ⟨.rfl _, .rfl _, .nl, trivial⟩, trivial⟩) rfl rfl (by kernel_rfl) ?_
          refine DX.go 2 [] [(10, vb (r1 == (3 : Int))), (9, vb (r1 == (3 : Int))), (8, vi r1), (7, .ag [ci (0 : Int), ci (0 : Int), .pv (.s (.slice none 0 0))]), (2, vl eField p3), (3, .one (.pv (.rp [[pi p1.kind, pi p1.scale, .ro (eField.els p1.fields)]] 0 0))), (4, .one (.pv (.rp [[pi p2.kind, pi p2.scale, .ro (eField.els p2.fields)]] 0 0)))] [] (by kernel_rfl) trivial ?_
          refine DX.eq (fr1 := [(10, vb true), (9, vb (r1 == (3 : Int))), (8, vi r1), (7, .ag [ci (0 : Int), ci (0 : Int), .pv (.s (.slice none 0 0))]), (2, vl eField p3), (3, .one (.pv (.rp [[pi p1.kind, pi p1.scale, .ro (eField.els p1.fields)]] 0 0))), (4, .one (.pv (.rp [[pi p2.kind, pi p2.scale, .ro (eField.els p2.fields)]] 0 0)))]) (by rw [b4]) ?_
          refine DX.go 1 [[pi p1.kind, pi p1.scale, .ro (eField.els p1.fields)]] [(11, .ag [ci p1.kind, ci p1.scale, cl eField p1.fields]), (10, vb true), (9, vb (r1 == (3 : Int))), (8, vi r1), (7, .ag [ci (0 : Int), ci (0 : Int), .pv (.s (.slice none 0 0))]), (2, vl eField p3), (3, .one (.pv (.rp [[pi p1.kind, pi p1.scale, .ro (eField.els p1.fields)]] 0 0))), (4, .one (.pv (.rp [[pi p2.kind, pi p2.scale, .ro (eField.els p2.fields)]] 0 0)))] [([[pi p1.kind, pi p1.scale, .ro (eField.els p1.fields)]] : List (List PV))[0]? = some [pi p1.kind, pi p1.scale, .ro (eField.els p1.fields)]] (by kernel_rfl) (⟨rfl, trivial⟩) ?_
          refine DX.cal 13 [.ag [ci p1.kind, ci p1.scale, cl eField p1.fields]] (vi r2) [(12, vi r2), (11, .ag [ci p1.kind, ci p1.scale, cl eField p1.fields]), (10, vb true), (9, vb (r1 == (3 : Int))), (8, vi r1), (7, .ag [ci (0 : Int), ci (0 : Int), .pv (.s (.slice none 0 0))]), (2, vl eField p3), (3, .one (.pv (.rp [[pi p1.kind, pi p1.scale, .ro (eField.els p1.fields)]] 0 0))), (4, .one (.pv (.rp [[pi p2.kind, pi p2.scale, .ro (eField.els p2.fields)]] 0 0)))] (by kernel_rfl) (c_value_CheckType _ _ c5) rfl rfl (by kernel_rfl) ?_
          refine DX.go 1 [[pi p1.kind, pi p1.scale, .ro (eField.els p1.fields)]] [(13, .ag [ci p1.kind, ci p1.scale, cl eField p1.fields]), (12, vi r2), (11, .ag [ci p1.kind, ci p1.scale, cl eField p1.fields]), (10, vb true), (9, vb (r1 == (3 : Int))), (8, vi r1), (7, .ag [ci (0 : Int), ci (0 : Int), .pv (.s (.slice none 0 0))]), (2, vl eField p3), (3, .one (.pv (.rp [[pi p1.kind, pi p1.scale, .ro (eField.els p1.fields)]] 0 0))), (4, .one (.pv (.rp [[pi p2.kind, pi p2.scale, .ro (eField.els p2.fields)]] 0 0)))] [([[pi p1.kind, pi p1.scale, .ro (eField.els p1.fields)]] : List (List PV))[0]? = some [pi p1.kind, pi p1.scale, .ro (eField.els p1.fields)]] (by kernel_rfl) (⟨rfl, trivial⟩) ?_
          refine DX.cal 12 [.ag [ci p1.kind, ci p1.scale, cl eField p1.fields]] (vi r3) [(14, vi r3), (13, .ag [ci p1.kind, ci p1.scale, cl eField p1.fields]), (12, vi r2), (11, .ag [ci p1.kind, ci p1.scale, cl eField p1.fields]), (10, vb true), (9, vb (r1 == (3 : Int))), (8, vi r1), (7, .ag [ci (0 : Int), ci (0 : Int), .pv (.s (.slice none 0 0))]), (2, vl eField p3), (3, .one (.pv (.rp [[pi p1.kind, pi p1.scale, .ro (eField.els p1.fields)]] 0 0))), (4, .one (.pv (.rp [[pi p2.kind, pi p2.scale, .ro (eField.els p2.fields)]] 0 0)))] (by kernel_rfl) (c_ref1_CheckType _ _ c6) rfl rfl (by kernel_rfl) ?_
          refine DX.go 3 [] [(17, vb (r2 == r3)), (16, vb (r2 == r3)), (15, vb (r2 == r3)), (14, vi r3), (13, .ag [ci p1.kind, ci p1.scale, cl eField p1.fields]), (12, vi r2), (11, .ag [ci p1.kind, ci p1.scale, cl eField p1.fields]), (10, vb true), (9, vb (r1 == (3 : Int))), (8, vi r1), (7, .ag [ci (0 : Int), ci (0 : Int), .pv (.s (.slice none 0 0))]), (2, vl eField p3), (3, .one (.pv (.rp [[pi p1.kind, pi p1.scale, .ro (eField.els p1.fields)]] 0 0))), (4, .one (.pv (.rp [[pi p2.kind, pi p2.scale, .ro (eField.els p2.fields)]] 0 0)))] [] (by kernel_rfl) trivial ?_
          refine DX.eq (fr1 := [(17, vb true), (16, vb (r2 == r3)), (15, vb (r2 == r3)), (14, vi r3), (13, .ag [ci p1.kind, ci p1.scale, cl eField p1.fields]), (12, vi r2), (11, .ag [ci p1.kind, ci p1.scale, cl eField p1.fields]), (10, vb true), (9, vb (r1 == (3 : Int))), (8, vi r1), (7, .ag [ci (0 : Int), ci (0 : Int), .pv (.s (.slice none 0 0))]), (2, vl eField p3), (3, .one (.pv (.rp [[pi p1.kind, pi p1.scale, .ro (eField.els p1.fields)]] 0 0))), (4, .one (.pv (.rp [[pi p2.kind, pi p2.scale, .ro (eField.els p2.fields)]] 0 0)))]) (by rw [b7]) ?_
          refine DX.go 1 [] [(18, vl eField p3), (17, vb true), (16, vb (r2 == r3)), (15, vb (r2 == r3)), (14, vi r3), (13, .ag [ci p1.kind, ci p1.scale, cl eField p1.fields]), (12, vi r2), (11, .ag [ci p1.kind, ci p1.scale, cl eField p1.fields]), (10, vb true), (9, vb (r1 == (3 : Int))), (8, vi r1), (7, .ag [ci (0 : Int), ci (0 : Int), .pv (.s (.slice none 0 0))]), (2, vl eField p3), (3, .one (.pv (.rp [[pi p1.kind, pi p1.scale, .ro (eField.els p1.fields)]] 0 0))), (4, .one (.pv (.rp [[pi p2.kind, pi p2.scale, .ro (eField.els p2.fields)]] 0 0)))] [] (by kernel_rfl) trivial ?_
          refine DX.cal 14 [vl eField p3] (vi r4) [(19, vi r4), (18, vl eField p3), (17, vb true), (16, vb (r2 == r3)), (15, vb (r2 == r3)), (14, vi r3), (13, .ag [ci p1.kind, ci p1.scale, cl eField p1.fields]), (12, vi r2), (11, .ag [ci p1.kind, ci p1.scale, cl eField p1.fields]), (10, vb true), (9, vb (r1 == (3 : Int))), (8, vi r1), (7, .ag [ci (0 : Int), ci (0 : Int), .pv (.s (.slice none 0 0))]), (2, vl eField p3), (3, .one (.pv (.rp [[pi p1.kind, pi p1.scale, .ro (eField.els p1.fields)]] 0 0))), (4, .one (.pv (.rp [[pi p2.kind, pi p2.scale, .ro (eField.els p2.fields)]] 0 0)))] (by kernel_rfl) (c_value_CheckSchema _ _ c8) rfl rfl (by kernel_rfl) ?_
          refine DX.go 1 [] [(20, vl eField p3), (19, vi r4), (18, vl eField p3), (17, vb true), (16, vb (r2 == r3)), (15, vb (r2 == r3)), (14, vi r3), (13, .ag [ci p1.kind, ci p1.scale, cl eField p1.fields]), (12, vi r2), (11, .ag [ci p1.kind, ci p1.scale, cl eField p1.fields]), (10, vb true), (9, vb (r1 == (3 : Int))), (8, vi r1), (7, .ag [ci (0 : Int), ci (0 : Int), .pv (.s (.slice none 0 0))]), (2, vl eField p3), (3, .one (.pv (.rp [[pi p1.kind, pi p1.scale, .ro (eField.els p1.fields)]] 0 0))), (4, .one (.pv (.rp [[pi p2.kind, pi p2.scale, .ro (eField.els p2.fields)]] 0 0)))] [] (by kernel_rfl) trivial ?_
          refine DX.cal 15 [vl eField p3] (vi r5) [(21, vi r5), (20, vl eField p3), (19, vi r4), (18, vl eField p3), (17, vb true), (16, vb (r2 == r3)), (15, vb (r2 == r3)), (14, vi r3), (13, .ag [ci p1.kind, ci p1.scale, cl eField p1.fields]), (12, vi r2), (11, .ag [ci p1.kind, ci p1.scale, cl eField p1.fields]), (10, vb true), (9, vb (r1 == (3 : Int))), (8, vi r1), (7, .ag [ci (0 : Int), ci (0 : Int), .pv (.s (.slice none 0 0))]), (2, vl eField p3), (3, .one (.pv (.rp [[pi p1.kind, pi p1.scale, .ro (eField.els p1.fields)]] 0 0))), (4, .one (.pv (.rp [[pi p2.kind, pi p2.scale, .ro (eField.els p2.fields)]] 0 0)))] (by kernel_rfl) (c_ref1_CheckSchema _ _ c9) rfl rfl (by kernel_rfl) ?_
          refine DX.go 3 [] [(24, vb (r4 == r5)), (23, vb (r4 == r5)), (22, vb (r4 == r5)), (21, vi r5), (20, vl eField p3), (19, vi r4), (18, vl eField p3), (17, vb true), (16, vb (r2 == r3)), (15, vb (r2 == r3)), (14, vi r3), (13, .ag [ci p1.kind, ci p1.scale, cl eField p1.fields]), (12, vi r2), (11, .ag [ci p1.kind, ci p1.scale, cl eField p1.fields]), (10, vb true), (9, vb (r1 == (3 : Int))), (8, vi r1), (7, .ag [ci (0 : Int), ci (0 : Int), .pv (.s (.slice none 0 0))]), (2, vl eField p3), (3, .one (.pv (.rp [[pi p1.kind, pi p1.scale, .ro (eField.els p1.fields)]] 0 0))), (4, .one (.pv (.rp [[pi p2.kind, pi p2.scale, .ro (eField.els p2.fields)]] 0 0)))] [] (by kernel_rfl) trivial ?_
          refine DX.eq (fr1 := [(24, vb true), (23, vb (r4 == r5)), (22, vb (r4 == r5)), (21, vi r5), (20, vl eField p3), (19, vi r4), (18, vl eField p3), (17, vb true), (16, vb (r2 == r3)), (15, vb (r2 == r3)), (14, vi r3), (13, .ag [ci p1.kind, ci p1.scale, cl eField p1.fields]), (12, vi r2), (11, .ag [ci p1.kind, ci p1.scale, cl eField p1.fields]), (10, vb true), (9, vb (r1 == (3 : Int))), (8, vi r1), (7, .ag [ci (0 : Int), ci (0 : Int), .pv (.s (.slice none 0 0))]), (2, vl eField p3), (3, .one (.pv (.rp [[pi p1.kind, pi p1.scale, .ro (eField.els p1.fields)]] 0 0))), (4, .one (.pv (.rp [[pi p2.kind, pi p2.scale, .ro (eField.els p2.fields)]] 0 0)))]) (by rw [b10]) ?_
          refine DX.go 2 [[pi p1.kind, pi p1.scale, .ro (eField.els p1.fields)], [pi p2.kind, pi p2.scale, .ro (eField.els p2.fields)]] [(26, .ag [ci p2.kind, ci p2.scale, cl eField p2.fields]), (25, .ag [ci p1.kind, ci p1.scale, cl eField p1.fields]), (24, vb true), (23, vb (r4 == r5)), (22, vb (r4 == r5)), (21, vi r5), (20, vl eField p3), (19, vi r4), (18, vl eField p3), (17, vb true), (16, vb (r2 == r3)), (15, vb (r2 == r3)), (14, vi r3), (13, .ag [ci p1.kind, ci p1.scale, cl eField p1.fields]), (12, vi r2), (11, .ag [ci p1.kind, ci p1.scale, cl eField p1.fields]), (10, vb true), (9, vb (r1 == (3 : Int))), (8, vi r1), (7, .ag [ci (0 : Int), ci (0 : Int), .pv (.s (.slice none 0 0))]), (2, vl eField p3), (3, .one (.pv (.rp [[pi p1.kind, pi p1.scale, .ro (eField.els p1.fields)]] 0 0))), (4, .one (.pv (.rp [[pi p2.kind, pi p2.scale, .ro (eField.els p2.fields)]] 0 0)))] [([[pi p1.kind, pi p1.scale, .ro (eField.els p1.fields)]] : List (List PV))[0]? = some [pi p1.kind, pi p1.scale, .ro (eField.els p1.fields)], ([[pi p2.kind, pi p2.scale, .ro (eField.els p2.fields)]] : List (List PV))[0]? = some [pi p2.kind, pi p2.scale, .ro (eField.els p2.fields)]] (by kernel_rfl) (⟨rfl, rfl, trivial⟩) ?_
          refine DX.cal 16 [.ag [ci p1.kind, ci p1.scale, cl eField p1.fields], .ag [ci p2.kind, ci p2.scale, cl eField p2.fields]] (vb r6) [(27, vb r6), (26, .ag [ci p2.kind, ci p2.scale, cl eField p2.fields]), (25, .ag [ci p1.kind, ci p1.scale, cl eField p1.fields]), (24, vb true), (23, vb (r4 == r5)), (22, vb (r4 == r5)), (21, vi r5), (20, vl eField p3), (19, vi r4), (18, vl eField p3), (17, vb true), (16, vb (r2 == r3)), (15, vb (r2 == r3)), (14, vi r3), (13, .ag [ci p1.kind, ci p1.scale, cl eField p1.fields]), (12, vi r2), (11, .ag [ci p1.kind, ci p1.scale, cl eField p1.fields]), (10, vb true), (9, vb (r1 == (3 : Int))), (8, vi r1), (7, .ag [ci (0 : Int), ci (0 : Int), .pv (.s (.slice none 0 0))]), (2, vl eField p3), (3, .one (.pv (.rp [[pi p1.kind, pi p1.scale, .ro (eField.els p1.fields)]] 0 0))), (4, .one (.pv (.rp [[pi p2.kind, pi p2.scale, .ro (eField.els p2.fields)]] 0 0)))] (by kernel_rfl) (c_value_SameType BIG _ _ _ c11) rfl rfl (by kernel_rfl) ?_
          refine DX.go 2 [[pi p1.kind, pi p1.scale, .ro (eField.els p1.fields)], [pi p2.kind, pi p2.scale, .ro (eField.els p2.fields)]] [(29, .ag [ci p2.kind, ci p2.scale, cl eField p2.fields]), (28, .ag [ci p1.kind, ci p1.scale, cl eField p1.fields]), (27, vb r6), (26, .ag [ci p2.kind, ci p2.scale, cl eField p2.fields]), (25, .ag [ci p1.kind, ci p1.scale, cl eField p1.fields]), (24, vb true), (23, vb (r4 == r5)), (22, vb (r4 == r5)), (21, vi r5), (20, vl eField p3), (19, vi r4), (18, vl eField p3), (17, vb true), (16, vb (r2 == r3)), (15, vb (r2 == r3)), (14, vi r3), (13, .ag [ci p1.kind, ci p1.scale, cl eField p1.fields]), (12, vi r2), (11, .ag [ci p1.kind, ci p1.scale, cl eField p1.fields]), (10, vb true), (9, vb (r1 == (3 : Int))), (8, vi r1), (7, .ag [ci (0 : Int), ci (0 : Int), .pv (.s (.slice none 0 0))]), (2, vl eField p3), (3, .one (.pv (.rp [[pi p1.kind, pi p1.scale, .ro (eField.els p1.fields)]] 0 0))), (4, .one (.pv (.rp [[pi p2.kind, pi p2.scale, .ro (eField.els p2.fields)]] 0 0)))] [([[pi p1.kind, pi p1.scale, .ro (eField.els p1.fields)]] : List (List PV))[0]? = some [pi p1.kind, pi p1.scale, .ro (eField.els p1.fields)], ([[pi p2.kind, pi p2.scale, .ro (eField.els p2.fields)]] : List (List PV))[0]? = some [pi p2.kind, pi p2.scale, .ro (eField.els p2.fields)]] (by kernel_rfl) (⟨rfl, rfl, trivial⟩) ?_
          exact DX.done (by kernel_rfl)
        refine XO.cal 17 [.ag [ci p1.kind, ci p1.scale, cl eField p1.fields], .ag [ci p2.kind, ci p2.scale, cl eField p2.fields]] (vb r7) [(30, vb r7), (29, .ag [ci p2.kind, ci p2.scale, cl eField p2.fields]), (28, .ag [ci p1.kind, ci p1.scale, cl eField p1.fields]), (27, vb r6), (26, .ag [ci p2.kind, ci p2.scale, cl eField p2.fields]), (25, .ag [ci p1.kind, ci p1.scale, cl eField p1.fields]), (24, vb true), (23, vb (r4 == r5)), (22, vb (r4 == r5)), (21, vi r5), (20, vl eField p3), (19, vi r4), (18, vl eField p3), (17, vb true), (16, vb (r2 == r3)), (15, vb (r2 == r3)), (14, vi r3), (13, .ag [ci p1.kind, ci p1.scale, cl eField p1.fields]), (12, vi r2), (11, .ag [ci p1.kind, ci p1.scale, cl eField p1.fields]), (10, vb true), (9, vb (r1 == (3 : Int))), (8, vi r1), (7, .ag [ci (0 : Int), ci (0 : Int), .pv (.s (.slice none 0 0))]), (2, vl eField p3), (3, .one (.pv (.rp [[pi p1.kind, pi p1.scale, .ro (eField.els p1.fields)]] 0 0))), (4, .one (.pv (.rp [[pi p2.kind, pi p2.scale, .ro (eField.els p2.fields)]] 0 0)))] (by kernel_rfl) (c_ref1_SameType BIG _ _ _ c12) rfl rfl (by kernel_rfl) ?_
        refine XO.go [] 3 [6] [] [(6, vb (r6 == r7))] [] [] (by kernel_rfl) trivial ?_
        refine XO.done (by kernel_rfl) ?_
        exact hJ1 (r6 == r7) h _ _ (Sub.pick [6] (by kernel_rfl))
      · have h := ift_f b10 h
        refine XW.drwS 23 [(29, .tp []), (28, .tp []), (27, .tp []), (26, .tp []), (25, .tp []), (24, vb false), (23, vb (r4 == r5)), (22, vb (r4 == r5)), (21, vi r5), (20, vl eField p3), (19, vi r4), (18, vl eField p3), (17, vb true), (16, vb (r2 == r3)), (15, vb (r2 == r3)), (14, vi r3), (13, .ag [ci p1.kind, ci p1.scale, cl eField p1.fields]), (12, vi r2), (11, .ag [ci p1.kind, ci p1.scale, cl eField p1.fields]), (10, vb true), (9, vb (r1 == (3 : Int))), (8, vi r1), (7, .ag [ci (0 : Int), ci (0 : Int), .pv (.s (.slice none 0 0))]), (2, vl eField p3), (3, .one (.pv (.rp [[pi p1.kind, pi p1.scale, .ro (eField.els p1.fields)]] 0 0))), (4, .one (.pv (.rp [[pi p2.kind, pi p2.scale, .ro (eField.els p2.fields)]] 0 0)))] (by kernel_rfl) (by kernel_rfl) ?_ ?_
        · refine DX.go 1 [] [(7, .ag [ci (0 : Int), ci (0 : Int), .pv (.s (.slice none 0 0))]), (2, vl eField p3), (3, .one (.pv (.rp [[pi p1.kind, pi p1.scale, .ro (eField.els p1.fields)]] 0 0))), (4, .one (.pv (.rp [[pi p2.kind, pi p2.scale, .ro (eField.els p2.fields)]] 0 0)))] [] (by kernel_rfl) trivial ?_
          refine DX.cal 13 [.ag [ci (0 : Int), ci (0 : Int), .pv (.s (.slice none 0 0))]] (vi r1) [(8, vi r1), (7, .ag [ci (0 : Int), ci (0 : Int), .pv (.s (.slice none 0 0))]), (2, vl eField p3), (3, .one (.pv (.rp [[pi p1.kind, pi p1.scale, .ro (eField.els p1.fields)]] 0 0))), (4, .one (.pv (.rp [[pi p2.kind, pi p2.scale, .ro (eField.els p2.fields)]] 0 0)))] (by kernel_rfl) (PC.le (c_value_CheckType _ _ c3) ⟨ALe.agc ⟨.rfl _, .rfl _, .nl, trivial⟩, trivial⟩) rfl rfl (by kernel_rfl) ?_
          refine DX.go 2 [] [(10, vb (r1 == (3 : Int))), (9, vb (r1 == (3 : Int))), (8, vi r1), (7, .ag [ci (0 : Int), ci (0 : Int), .pv (.s (.slice none 0 0))]), (2, vl eField p3), (3, .one (.pv (.rp [[pi p1.kind, pi p1.scale, .ro (eField.els p1.fields)]] 0 0))), (4, .one (.pv (.rp [[pi p2.kind, pi p2.scale, .ro (eField.els p2.fields)]] 0 0)))] [] (by kernel_rfl) trivial ?_
          refine DX.eq (fr1 := [(10, vb true), (9, vb (r1 == (3 : Int))), (8, vi r1), (7, .ag [ci (0 : Int), ci (0 : Int), .pv (.s (.slice none 0 0))]), (2, vl eField p3), (3, .one (.pv (.rp [[pi p1.kind, pi p1.scale, .ro (eField.els p1.fields)]] 0 0))), (4, .one (.pv (.rp [[pi p2.kind, pi p2.scale, .ro (eField.els p2.fields)]] 0 0)))]) (by rw [b4]) ?_
          refine DX.go 1 [[pi p1.kind, pi p1.scale, .ro (eField.els p1.fields)]] [(11, .ag [ci p1.kind, ci p1.scale, cl eField p1.fields]), (10, vb true), (9, vb (r1 == (3 : Int))), (8, vi r1), (7, .ag [ci (0 : Int), ci (0 : Int), .pv (.s (.slice none 0 0))]), (2, vl eField p3), (3, .one (.pv (.rp [[pi p1.kind, pi p1.scale, .ro (eField.els p1.fields)]] 0 0))), (4, .one (.pv (.rp [[pi p2.kind, pi p2.scale, .ro (eField.els p2.fields)]] 0 0)))] [([[pi p1.kind, pi p1.scale, .ro (eField.els p1.fields)]] : List (List PV))[0]? = some [pi p1.kind, pi p1.scale, .ro (eField.els p1.fields)]] (by kernel_rfl) (⟨rfl, trivial⟩) ?_
          refine DX.cal 13 [.ag [ci p1.kind, ci p1.scale, cl eField p1.fields]] (vi r2) [(12, vi r2), (11, .ag [ci p1.kind, ci p1.scale, cl eField p1.fields]), (10, vb true), (9, vb (r1 == (3 : Int))), (8, vi r1), (7, .ag [ci (0 : Int), ci (0 : Int), .pv (.s (.slice none 0 0))]), (2, vl eField p3), (3, .one (.pv (.rp [[pi p1.kind, pi p1.scale, .ro (eField.els p1.fields)]] 0 0))), (4, .one (.pv (.rp [[pi p2.kind, pi p2.scale, .ro (eField.els p2.fields)]] 0 0)))] (by kernel_rfl) (c_value_CheckType _ _ c5) rfl rfl (by kernel_rfl) ?_
          refine DX.go 1 [[pi p1.kind, pi p1.scale, .ro (eField.els p1.fields)]] [(13, .ag [ci p1.kind, ci p1.scale, cl eField p1.fields]), (12, vi r2), (11, .ag [ci p1.kind, ci p1.scale, cl eField p1.fields]), (10, vb true), (9, vb (r1 == (3 : Int))), (8, vi r1), (7, .ag [ci (0 : Int), ci (0 : Int), .pv (.s (.slice none 0 0))]), (2, vl eField p3), (3, .one (.pv (.rp [[pi p1.kind, pi p1.scale, .ro (eField.els p1.fields)]] 0 0))), (4, .one (.pv (.rp [[pi p2.kind, pi p2.scale, .ro (eField.els p2.fields)]] 0 0)))] [([[pi p1.kind, pi p1.scale, .ro (eField.els p1.fields)]] : List (List PV))[0]? = some [pi p1.kind, pi p1.scale, .ro (eField.els p1.fields)]] (by kernel_rfl) (⟨rfl, trivial⟩) ?_
          refine DX.cal 12 [.ag [ci p1.kind, ci p1.scale, cl eField p1.fields]] (vi r3) [(14, vi r3), (13, .ag [ci p1.kind, ci p1.scale, cl eField p1.fields]), (12, vi r2), (11, .ag [ci p1.kind, ci p1.scale, cl eField p1.fields]), (10, vb true), (9, vb (r1 == (3 : Int))), (8, vi r1), (7, .ag [ci (0 : Int), ci (0 : Int), .pv (.s (.slice none 0 0))]), (2, vl eField p3), (3, .one (.pv (.rp [[pi p1.kind, pi p1.scale, .ro (eField.els p1.fields)]] 0 0))), (4, .one (.pv (.rp [[pi p2.kind, pi p2.scale, .ro (eField.els p2.fields)]] 0 0)))] (by kernel_rfl) (c_ref1_CheckType _ _ c6) rfl rfl (by kernel_rfl) ?_
          refine DX.go 3 [] [(17, vb (r2 == r3)), (16, vb (r2 == r3)), (15, vb (r2 == r3)), (14, vi r3), (13, .ag [ci p1.kind, ci p1.scale, cl eField p1.fields]), (12, vi r2), (11, .ag [ci p1.kind, ci p1.scale, cl eField p1.fields]), (10, vb true), (9, vb (r1 == (3 : Int))), (8, vi r1), (7, .ag [ci (0 : Int), ci (0 : Int), .pv (.s (.slice none 0 0))]), (2, vl eField p3), (3, .one (.pv (.rp [[pi p1.kind, pi p1.scale, .ro (eField.els p1.fields)]] 0 0))), (4, .one (.pv (.rp [[pi p2.kind, pi p2.scale, .ro (eField.els p2.fields)]] 0 0)))] [] (by kernel_rfl) trivial ?_
          refine DX.eq (fr1 := [(17, vb true), (16, vb (r2 == r3)), (15, vb (r2 == r3)), (14, vi r3), (13, .ag [ci p1.kind, ci p1.scale, cl eField p1.fields]), (12, vi r2), (11, .ag [ci p1.kind, ci p1.scale, cl eField p1.fields]), (10, vb true), (9, vb (r1 == (3 : Int))), (8, vi r1), (7, .ag [ci (0 : Int), ci (0 : Int), .pv (.s (.slice none 0 0))]), (2, vl eField p3), (3, .one (.pv (.rp [[pi p1.kind, pi p1.scale, .ro (eField.els p1.fields)]] 0 0))), (4, .one (.pv (.rp [[pi p2.kind, pi p2.scale, .ro (eField.els p2.fields)]] 0 0)))]) (by rw [b7]) ?_
          refine DX.go 1 [] [(18, vl eField p3), (17, vb true), (16, vb (r2 == r3)), (15, vb (r2 == r3)), (14, vi r3), (13, .ag [ci p1.kind, ci p1.scale, cl eField p1.fields]), (12, vi r2), (11, .ag [ci p1.kind, ci p1.scale, cl eField p1.fields]), (10, vb true), (9, vb (r1 == (3 : Int))), (8, vi r1), (7, .ag [ci (0 : Int), ci (0 : Int), .pv (.s (.slice none 0 0))]), (2, vl eField p3), (3, .one (.pv (.rp [[pi p1.kind, pi p1.scale, .ro (eField.els p1.fields)]] 0 0))), (4, .one (.pv (.rp [[pi p2.kind, pi p2.scale, .ro (eField.els p2.fields)]] 0 0)))] [] (by kernel_rfl) trivial ?_
          refine DX.cal 14 [vl eField p3] (vi r4) [(19, vi r4), (18, vl eField p3), (17, vb true), (16, vb (r2 == r3)), (15, vb (r2 == r3)), (14, vi r3), (13, .ag [ci p1.kind, ci p1.scale, cl eField p1.fields]), (12, vi r2), (11, .ag [ci p1.kind, ci p1.scale, cl eField p1.fields]), (10, vb true), (9, vb (r1 == (3 : Int))), (8, vi r1), (7, .ag [ci (0 : Int), ci (0 : Int), .pv (.s (.slice none 0 0))]), (2, vl eField p3), (3, .one (.pv (.rp [[pi p1.kind, pi p1.scale, .ro (eField.els p1.fields)]] 0 0))), (4, .one (.pv (.rp [[pi p2.kind, pi p2.scale, .ro (eField.els p2.fields)]] 0 0)))] (by kernel_rfl) (c_value_CheckSchema _ _ c8) rfl rfl (by kernel_rfl) ?_
          refine DX.go 1 [] [(20, vl eField p3), (19, vi r4), (18, vl eField p3), (17, vb true), (16, vb (r2 == r3)), (15, vb (r2 == r3)), (14, vi r3), (13, .ag [ci p1.kind, ci p1.scale, cl eField p1.fields]), (12, vi r2), (11, .ag [ci p1.kind, ci p1.scale, cl eField p1.fields]), (10, vb true), (9, vb (r1 == (3 : Int))), (8, vi r1), (7, .ag [ci (0 : Int), ci (0 : Int), .pv (.s (.slice none 0 0))]), (2, vl eField p3), (3, .one (.pv (.rp [[pi p1.kind, pi p1.scale, .ro (eField.els p1.fields)]] 0 0))), (4, .one (.pv (.rp [[pi p2.kind, pi p2.scale, .ro (eField.els p2.fields)]] 0 0)))] [] (by kernel_rfl) trivial ?_
          refine DX.cal 15 [vl eField p3] (vi r5) [(21, vi r5), (20, vl eField p3), (19, vi r4), (18, vl eField p3), (17, vb true), (16, vb (r2 == r3)), (15, vb (r2 == r3)), (14, vi r3), (13, .ag [ci p1.kind, ci p1.scale, cl eField p1.fields]), (12, vi r2), (11, .ag [ci p1.kind, ci p1.scale, cl eField p1.fields]), (10, vb true), (9, vb (r1 == (3 : Int))), (8, vi r1), (7, .ag [ci (0 : Int), ci (0 : Int), .pv (.s (.slice none 0 0))]), (2, vl eField p3), (3, .one (.pv (.rp [[pi p1.kind, pi p1.scale, .ro (eField.els p1.fields)]] 0 0))), (4, .one (.pv (.rp [[pi p2.kind, pi p2.scale, .ro (eField.els p2.fields)]] 0 0)))] (by kernel_rfl) (c_ref1_CheckSchema _ _ c9) rfl rfl (by kernel_rfl) ?_
          refine DX.go 3 [] [(24, vb (r4 == r5)), (23, vb (r4 == r5)), (22, vb (r4 == r5)), (21, vi r5), (20, vl eField p3), (19, vi r4), (18, vl eField p3), (17, vb true), (16, vb (r2 == r3)), (15, vb (r2 == r3)), (14, vi r3), (13, .ag [ci p1.kind, ci p1.scale, cl eField p1.fields]), (12, vi r2), (11, .ag [ci p1.kind, ci p1.scale, cl eField p1.fields]), (10, vb true), (9, vb (r1 == (3 : Int))), (8, vi r1), (7, .ag [ci (0 : Int), ci (0 : Int), .pv (.s (.slice none 0 0))]), (2, vl eField p3), (3, .one (.pv (.rp [[pi p1.kind, pi p1.scale, .ro (eField.els p1.fields)]] 0 0))), (4, .one (.pv (.rp [[pi p2.kind, pi p2.scale, .ro (eField.els p2.fields)]] 0 0)))] [] (by kernel_rfl) trivial ?_
          refine DX.eq (fr1 := [(24, vb false), (23, vb (r4 == r5)), (22, vb (r4 == r5)), (21, vi r5), (20, vl eField p3), (19, vi r4), (18, vl eField p3), (17, vb true), (16, vb (r2 == r3)), (15, vb (r2 == r3)), (14, vi r3), (13, .ag [ci p1.kind, ci p1.scale, cl eField p1.fields]), (12, vi r2), (11, .ag [ci p1.kind, ci p1.scale, cl eField p1.fields]), (10, vb true), (9, vb (r1 == (3 : Int))), (8, vi r1), (7, .ag [ci (0 : Int), ci (0 : Int), .pv (.s (.slice none 0 0))]), (2, vl eField p3), (3, .one (.pv (.rp [[pi p1.kind, pi p1.scale, .ro (eField.els p1.fields)]] 0 0))), (4, .one (.pv (.rp [[pi p2.kind, pi p2.scale, .ro (eField.els p2.fields)]] 0 0)))]) (by rw [b10]) ?_
          refine DX.go 5 [] [(29, .tp []), (28, .tp []), (27, .tp []), (26, .tp []), (25, .tp []), (24, vb false), (23, vb (r4 == r5)), (22, vb (r4 == r5)), (21, vi r5), (20, vl eField p3), (19, vi r4), (18, vl eField p3), (17, vb true), (16, vb (r2 == r3)), (15, vb (r2 == r3)), (14, vi r3), (13, .ag [ci p1.kind, ci p1.scale, cl eField p1.fields]), (12, vi r2), (11, .ag [ci p1.kind, ci p1.scale, cl eField p1.fields]), (10, vb true), (9, vb (r1 == (3 : Int))), (8, vi r1), (7, .ag [ci (0 : Int), ci (0 : Int), .pv (.s (.slice none 0 0))]), (2, vl eField p3), (3, .one (.pv (.rp [[pi p1.kind, pi p1.scale, .ro (eField.els p1.fields)]] 0 0))), (4, .one (.pv (.rp [[pi p2.kind, pi p2.scale, .ro (eField.els p2.fields)]] 0 0)))] [] (by kernel_rfl) trivial ?_
          exact DX.done (by kernel_rfl)
        refine XO.go [] 4 [6] [] [(6, vb false)] [] [] (by kernel_rfl) trivial ?_
        refine XO.done (by kernel_rfl) ?_
        exact hJ1 false h _ _ (Sub.pick [6] (by kernel_rfl))
    · have h := ift_f b7 h
      refine XW.drwS 23 [(29, .tp []), (28, .tp []), (27, .tp []), (26, .tp []), (25, .tp []), (24, vb false), (23, vb false), (22, .tp []), (21, .tp []), (20, .tp []), (19, .tp []), (18, .tp []), (17, vb false), (16, vb (r2 == r3)), (15, vb (r2 == r3)), (14, vi r3), (13, .ag [ci p1.kind, ci p1.scale, cl eField p1.fields]), (12, vi r2), (11, .ag [ci p1.kind, ci p1.scale, cl eField p1.fields]), (10, vb true), (9, vb (r1 == (3 : Int))), (8, vi r1), (7, .ag [ci (0 : Int), ci (0 : Int), .pv (.s (.slice none 0 0))]), (2, vl eField p3), (3, .one (.pv (.rp [[pi p1.kind, pi p1.scale, .ro (eField.els p1.fields)]] 0 0))), (4, .one (.pv (.rp [[pi p2.kind, pi p2.scale, .ro (eField.els p2.fields)]] 0 0)))] (by kernel_rfl) (by kernel_rfl) ?_ ?_
      · refine DX.go 1 [] [(7, .ag [ci (0 : Int), ci (0 : Int), .pv (.s (.slice none 0 0))]), (2, vl eField p3), (3, .one (.pv (.rp [[pi p1.kind, pi p1.scale, .ro (eField.els p1.fields)]] 0 0))), (4, .one (.pv (.rp [[pi p2.kind, pi p2.scale, .ro (eField.els p2.fields)]] 0 0)))] [] (by kernel_rfl) trivial ?_
        refine DX.cal 13 [.ag [ci (0 : Int), ci (0 : Int), .pv (.s (.slice none 0 0))]] (vi r1) [(8, vi r1), (7, .ag [ci (0 : Int), ci (0 : Int), .pv (.s (.slice none 0 0))]), (2, vl eField p3), (3, .one (.pv (.rp [[pi p1.kind, pi p1.scale, .ro (eField.els p1.fields)]] 0 0))), (4, .one (.pv (.rp [[pi p2.kind, pi p2.scale, .ro (eField.els p2.fields)]] 0 0)))] (by kernel_rfl) (PC.le (c_value_CheckType _ _ c3) ⟨ALe.agc ⟨.rfl _, .rfl _, .nl, trivial⟩, trivial⟩) rfl rfl (by kernel_rfl) ?_
        refine DX.go 2 [] [(10, vb (r1 == (3 : Int))), (9, vb (r1 == (3 : Int))), (8, vi r1), (7, .ag [ci (0 : Int), ci (0 : Int), .pv (.s (.slice none 0 0))]), (2, vl eField p3), (3, .one (.pv (.rp [[pi p1.kind, pi p1.scale, .ro (eField.els p1.fields)]] 0 0))), (4, .one (.pv (.rp [[pi p2.kind, pi p2.scale, .ro (eField.els p2.fields)]] 0 0)))] [] (by kernel_rfl) trivial ?_
        refine DX.eq (fr1 := [(10, vb true), (9, vb (r1 == (3 : Int))), (8, vi r1), (7, .ag [ci (0 : Int), ci (0 : Int), .pv (.s (.slice none 0 0))]), (2, vl eField p3), (3, .one (.pv (.rp [[pi p1.kind, pi p1.scale, .ro (eField.els p1.fields)]] 0 0))), (4, .one (.pv (.rp [[pi p2.kind, pi p2.scale, .ro (eField.els p2.fields)]] 0 0)))]) (by rw [b4]) ?_
        refine DX.go 1 [[pi p1.kind, pi p1.scale, .ro (eField.els p1.fields)]] [(11, .ag [ci p1.kind, ci p1.scale, cl eField p1.fields]), (10, vb true), (9, vb (r1 == (3 : Int))), (8, vi r1), (7, .ag [ci (0 : Int), ci (0 : Int), .pv (.s (.slice none 0 0))]), (2, vl eField p3), (3, .one (.pv (.rp [[pi p1.kind, pi p1.scale, .ro (eField.els p1.fields)]] 0 0))), (4, .one (.pv (.rp [[pi p2.kind, pi p2.scale, .ro (eField.els p2.fields)]] 0 0)))] [([[pi p1.kind, pi p1.scale, .ro (eField.els p1.fields)]] : List (List PV))[0]? = some [pi p1.kind, pi p1.scale, .ro (eField.els p1.fields)]] (by kernel_rfl) (⟨rfl, trivial⟩) ?_
        refine DX.cal 13 [.ag [ci p1.kind, ci p1.scale, cl eField p1.fields]] (vi r2) [(12, vi r2), (11, .ag [ci p1.kind, ci p1.scale, cl eField p1.fields]), (10, vb true), (9, vb (r1 == (3 : Int))), (8, vi r1), (7, .ag [ci (0 : Int), ci (0 : Int), .pv (.s (.slice none 0 0))]), (2, vl eField p3), (3, .one (.pv (.rp [[pi p1.kind, pi p1.scale, .ro (eField.els p1.fields)]] 0 0))), (4, .one (.pv (.rp [[pi p2.kind, pi p2.scale, .ro (eField.els p2.fields)]] 0 0)))] (by kernel_rfl) (c_value_CheckType _ _ c5) rfl rfl (by kernel_rfl) ?_
        refine DX.go 1 [[pi p1.kind, pi p1.scale, .ro (eField.els p1.fields)]] [(13, .ag [ci p1.kind, ci p1.scale, cl eField p1.fields]), (12, vi r2), (11, .ag [ci p1.kind, ci p1.scale, cl eField p1.fields]), (10, vb true), (9, vb (r1 == (3 : Int))), (8, vi r1), (7, .ag [ci (0 : Int), ci (0 : Int), .pv (.s (.slice none 0 0))]), (2, vl eField p3), (3, .one (.pv (.rp [[pi p1.kind, pi p1.scale, .ro (eField.els p1.fields)]] 0 0))), (4, .one (.pv (.rp [[pi p2.kind, pi p2.scale, .ro (eField.els p2.fields)]] 0 0)))] [([[pi p1.kind, pi p1.scale, .ro (eField.els p1.fields)]] : List (List PV))[0]? = some [pi p1.kind, pi p1.scale, .ro (eField.els p1.fields)]] (by kernel_rfl) (⟨rfl, trivial⟩) ?_
        refine DX.cal 12 [.ag [ci p1.kind, ci p1.scale, cl eField p1.fields]] (vi r3) [(14, vi r3), (13, .ag [ci p1.kind, ci p1.scale, cl eField p1.fields]), (12, vi r2), (11, .ag [ci p1.kind, ci p1.scale, cl eField p1.fields]), (10, vb true), (9, vb (r1 == (3 : Int))), (8, vi r1), (7, .ag [ci (0 : Int), ci (0 : Int), .pv (.s (.slice none 0 0))]), (2, vl eField p3), (3, .one (.pv (.rp [[pi p1.kind, pi p1.scale, .ro (eField.els p1.fields)]] 0 0))), (4, .one (.pv (.rp [[pi p2.kind, pi p2.scale, .ro (eField.els p2.fields)]] 0 0)))] (by kernel_rfl) (c_ref1_CheckType _ _ c6) rfl rfl (by kernel_rfl) ?_
        refine DX.go 3 [] [(17, vb (r2 == r3)), (16, vb (r2 == r3)), (15, vb (r2 == r3)), (14, vi r3), (13, .ag [ci p1.kind, ci p1.scale, cl eField p1.fields]), (12, vi r2), (11, .ag [ci p1.kind, ci p1.scale, cl eField p1.fields]), (10, vb true), (9, vb (r1 == (3 : Int))), (8, vi r1), (7, .ag [ci (0 : Int), ci (0 : Int), .pv (.s (.slice none 0 0))]), (2, vl eField p3), (3, .one (.pv (.rp [[pi p1.kind, pi p1.scale, .ro (eField.els p1.fields)]] 0 0))), (4, .one (.pv (.rp [[pi p2.kind, pi p2.scale, .ro (eField.els p2.fields)]] 0 0)))] [] (by kernel_rfl) trivial ?_
        refine DX.eq (fr1 := [(17, vb false), (16, vb (r2 == r3)), (15, vb (r2 == r3)), (14, vi r3), (13, .ag [ci p1.kind, ci p1.scale, cl eField p1.fields]), (12, vi r2), (11, .ag [ci p1.kind, ci p1.scale, cl eField p1.fields]), (10, vb true), (9, vb (r1 == (3 : Int))), (8, vi r1), (7, .ag [ci (0 : Int), ci (0 : Int), .pv (.s (.slice none 0 0))]), (2, vl eField p3), (3, .one (.pv (.rp [[pi p1.kind, pi p1.scale, .ro (eField.els p1.fields)]] 0 0))), (4, .one (.pv (.rp [[pi p2.kind, pi p2.scale, .ro (eField.els p2.fields)]] 0 0)))]) (by rw [b7]) ?_
        refine DX.go 12 [] [(29, .tp []), (28, .tp []), (27, .tp []), (26, .tp []), (25, .tp []), (24, vb false), (23, vb false), (22, .tp []), (21, .tp []), (20, .tp []), (19, .tp []), (18, .tp []), (17, vb false), (16, vb (r2 == r3)), (15, vb (r2 == r3)), (14, vi r3), (13, .ag [ci p1.kind, ci p1.scale, cl eField p1.fields]), (12, vi r2), (11, .ag [ci p1.kind, ci p1.scale, cl eField p1.fields]), (10, vb true), (9, vb (r1 == (3 : Int))), (8, vi r1), (7, .ag [ci (0 : Int), ci (0 : Int), .pv (.s (.slice none 0 0))]), (2, vl eField p3), (3, .one (.pv (.rp [[pi p1.kind, pi p1.scale, .ro (eField.els p1.fields)]] 0 0))), (4, .one (.pv (.rp [[pi p2.kind, pi p2.scale, .ro (eField.els p2.fields)]] 0 0)))] [] (by kernel_rfl) trivial ?_
        exact DX.done (by kernel_rfl)
      refine XO.go [] 4 [6] [] [(6, vb false)] [] [] (by kernel_rfl) trivial ?_
      refine XO.done (by kernel_rfl) ?_
      exact hJ1 false h _ _ (Sub.pick [6] (by kernel_rfl))
  · have h := ift_f b4 h
    refine XW.drwS 23 [(29, .tp []), (28, .tp []), (27, .tp []), (26, .tp []), (25, .tp []), (24, vb false), (23, vb false), (22, .tp []), (21, .tp []), (20, .tp []), (19, .tp []), (18, .tp []), (17, vb false), (16, vb false), (15, .tp []), (14, .tp []), (13, .tp []), (12, .tp []), (11, .tp []), (10, vb false), (9, vb (r1 == (3 : Int))), (8, vi r1), (7, .ag [ci (0 : Int), ci (0 : Int), .pv (.s (.slice none 0 0))]), (2, vl eField p3), (3, .one (.pv (.rp [[pi p1.kind, pi p1.scale, .ro (eField.els p1.fields)]] 0 0))), (4, .one (.pv (.rp [[pi p2.kind, pi p2.scale, .ro (eField.els p2.fields)]] 0 0)))] (by kernel_rfl) (by kernel_rfl) ?_ ?_
    · refine DX.go 1 [] [(7, .ag [ci (0 : Int), ci (0 : Int), .pv (.s (.slice none 0 0))]), (2, vl eField p3), (3, .one (.pv (.rp [[pi p1.kind, pi p1.scale, .ro (eField.els p1.fields)]] 0 0))), (4, .one (.pv (.rp [[pi p2.kind, pi p2.scale, .ro (eField.els p2.fields)]] 0 0)))] [] (by kernel_rfl) trivial ?_
      refine DX.cal 13 [.ag [ci (0 : Int), ci (0 : Int), .pv (.s (.slice none 0 0))]] (vi r1) [(8, vi r1), (7, .ag [ci (0 : Int), ci (0 : Int), .pv (.s (.slice none 0 0))]), (2, vl eField p3), (3, .one (.pv (.rp [[pi p1.kind, pi p1.scale, .ro (eField.els p1.fields)]] 0 0))), (4, .one (.pv (.rp [[pi p2.kind, pi p2.scale, .ro (eField.els p2.fields)]] 0 0)))] (by kernel_rfl) (PC.le (c_value_CheckType _ _ c3) ⟨ALe.agc ⟨.rfl _, .rfl _, .nl, trivial⟩, trivial⟩) rfl rfl (by kernel_rfl) ?_
      refine DX.go 2 [] [(10, vb (r1 == (3 : Int))), (9, vb (r1 == (3 : Int))), (8, vi r1), (7, .ag [ci (0 : Int), ci (0 : Int), .pv (.s (.slice none 0 0))]), (2, vl eField p3), (3, .one (.pv (.rp [[pi p1.kind, pi p1.scale, .ro (eField.els p1.fields)]] 0 0))), (4, .one (.pv (.rp [[pi p2.kind, pi p2.scale, .ro (eField.els p2.fields)]] 0 0)))] [] (by kernel_rfl) trivial ?_
      refine DX.eq (fr1 := [(10, vb false), (9, vb (r1 == (3 : Int))), (8, vi r1), (7, .ag [ci (0 : Int), ci (0 : Int), .pv (.s (.slice none 0 0))]), (2, vl eField p3), (3, .one (.pv (.rp [[pi p1.kind, pi p1.scale, .ro (eField.els p1.fields)]] 0 0))), (4, .one (.pv (.rp [[pi p2.kind, pi p2.scale, .ro (eField.els p2.fields)]] 0 0)))]) (by rw [b4]) ?_
      refine DX.go 19 [] [(29, .tp []), (28, .tp []), (27, .tp []), (26, .tp []), (25, .tp []), (24, vb false), (23, vb false), (22, .tp []), (21, .tp []), (20, .tp []), (19, .tp []), (18, .tp []), (17, vb false), (16, vb false), (15, .tp []), (14, .tp []), (13, .tp []), (12, .tp []), (11, .tp []), (10, vb false), (9, vb (r1 == (3 : Int))), (8, vi r1), (7, .ag [ci (0 : Int), ci (0 : Int), .pv (.s (.slice none 0 0))]), (2, vl eField p3), (3, .one (.pv (.rp [[pi p1.kind, pi p1.scale, .ro (eField.els p1.fields)]] 0 0))), (4, .one (.pv (.rp [[pi p2.kind, pi p2.scale, .ro (eField.els p2.fields)]] 0 0)))] [] (by kernel_rfl) trivial ?_
      exact DX.done (by kernel_rfl)
    refine XO.go [] 4 [6] [] [(6, vb false)] [] [] (by kernel_rfl) trivial ?_
    refine XO.done (by kernel_rfl) ?_
    exact hJ1 false h _ _ (Sub.pick [6] (by kernel_rfl))


end Go.Proofs.Ytdkmclmdemngfaa
