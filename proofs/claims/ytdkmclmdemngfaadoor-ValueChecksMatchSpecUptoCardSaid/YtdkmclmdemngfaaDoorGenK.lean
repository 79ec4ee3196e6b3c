/- Printed by a program: what the functions compute, and the proofs of their contracts. -/
import Derived.Test.YtdkmclmdemngfaaDoorGenK2
namespace Go.Proofs.YtdkmclmdemngfaaDoor
open Go.SX Go
set_option linter.unusedVariables false
set_option linter.unusedSimpArgs false
set_option maxRecDepth 100000

def ref1_shape_j5 (rec2 : Int → Option Int) (x5 : Int) : Option Int :=
    rec2 (IntKind.i64.wrap (x5 + (1 : Int)))

def ref1_shape_l3 (rec2 : Int → Option Int) (p1 : GType) (x5 : Int) : Nat → Int → Option Int
  | 0, _ => none
  | k3 + 1, x6 =>
    ift (decide (x6 < x5))
      (bnd (at? p1.fields x6) fun e3 =>
       bnd (at? p1.fields x5) fun e4 =>
       ift (e3.name.toList == e4.name.toList)
         (some (5 : Int))
         ((ref1_shape_l3 rec2 p1 x5 k3) (IntKind.i64.wrap (x6 + (1 : Int)))))
      (ref1_shape_j5 rec2 x5)

def ref1_shape_j6 : Option Int :=
    some (0 : Int)

def ref1_shape_l2 (p1 : GType) : Nat → Int → Option Int
  | 0, _ => none
  | k2 + 1, x5 =>
    ift (decide (x5 < (p1.fields.length : Int)))
      (ref1_shape_l3 (ref1_shape_l2 p1 k2) p1 x5 BIG (0 : Int))
      (ref1_shape_j6)

def ref1_shape_j4 (p1 : GType) : Option Int :=
    ref1_shape_l2 p1 BIG (0 : Int)

def ref1_shape_l1 (p1 : GType) : Nat → Int → Option Int
  | 0, _ => none
  | k1 + 1, x4 =>
    ift (decide (x4 < (p1.fields.length : Int)))
      (bnd (at? p1.fields x4) fun e2 =>
       bnd (ref1_Name e2.name) fun r5 =>
       ift (!r5)
         (some (4 : Int))
         ((ref1_shape_l1 p1 k1) (IntKind.i64.wrap (x4 + (1 : Int)))))
      (ref1_shape_j4 p1)

def ref1_shape_j3 (p1 : GType) (x3 : Bool) : Option Int :=
    ift x3
      (some (1 : Int))
      (ift (p1.kind != (7 : Int))
         (some (0 : Int))
         (ref1_shape_l1 p1 BIG (0 : Int)))

def ref1_shape_j2 (p1 : GType) (x2 : Bool) : Option Int :=
    ift x2
      (some (1 : Int))
      (ift (p1.kind == (7 : Int))
         (ift ((p1.fields.length : Int) == (0 : Int))
            (ref1_shape_j3 p1 true)
            (bnd (ref1_Leaf p1.kind) fun r3 =>
             ift r3
               (ref1_shape_j3 p1 (decide ((0 : Int) < (p1.fields.length : Int))))
               (ref1_shape_j3 p1 false)))
         (bnd (ref1_Leaf p1.kind) fun r4 =>
          ift r4
            (ref1_shape_j3 p1 (decide ((0 : Int) < (p1.fields.length : Int))))
            (ref1_shape_j3 p1 false)))

def ref1_shape_j1 (p1 : GType) (x1 : Bool) : Option Int :=
    ift x1
      (some (1 : Int))
      (ift (p1.kind == (6 : Int))
         (ift ((p1.fields.length : Int) != (1 : Int))
            (ref1_shape_j2 p1 true)
            (bnd (at? p1.fields (0 : Int)) fun e1 =>
             ref1_shape_j2 p1 (!(e1.name.toList == (ByteArray.mk #[]).toList))))
         (ref1_shape_j2 p1 false))

def ref1_shape (p1 : GType) : Option Int :=
    bnd (ref1_within p1.kind (1 : Int) (7 : Int)) fun r1 =>
    ift (!r1)
      (some (3 : Int))
      (ift (p1.kind == (3 : Int))
         (bnd (ref1_within p1.scale (0 : Int) (12 : Int)) fun r2 =>
          ift (!r2)
            (ref1_shape_j1 p1 true)
            (ift (p1.kind != (3 : Int))
               (ref1_shape_j1 p1 (p1.scale != (0 : Int)))
               (ref1_shape_j1 p1 false)))
         (ift (p1.kind != (3 : Int))
            (ref1_shape_j1 p1 (p1.scale != (0 : Int)))
            (ref1_shape_j1 p1 false)))


theorem c_ref1_shape (p1 : GType) (r : Int) (h : ref1_shape p1 = some r) : PC Tryd.prog 118 [.ag [ci p1.kind, ci p1.scale, cl eField p1.fields]] (vi r) := by
  unfold ref1_shape at h
  refine PC.of (n := 109) (fn := Tryd.f118) (c := cd Tryd.f118 []) (by kernel_rfl) (by kernel_rfl) (by kernel_rfl) (Nat.le_of_ble_eq_true rfl) ?_
  refine XW.seq (x := cd Tryd.f118 [0]) (y := cd Tryd.f118 [1]) (by kernel_rfl) fun K1 hK1 => ?_
  refine XW.reg (by kernel_rfl) ?_
  refine XO.go [] 2 [1] [] [(1, .one (.pv (.rp [[pi p1.kind, pi p1.scale, .ro (eField.els p1.fields)]] 0 0)))] [] [] (by kernel_rfl) trivial ?_
  refine XO.done (by kernel_rfl) ?_
  refine hK1 _ _ ?_
  refine XW.seq (x := cd Tryd.f118 [1,0]) (y := cd Tryd.f118 [1,1]) (by kernel_rfl) fun K2 hK2 => ?_
  refine XW.seq (x := cd Tryd.f118 [1,0,0]) (y := cd Tryd.f118 [1,0,1]) (by kernel_rfl) fun K3 hK3 => ?_
  obtain ⟨r1, c4, h⟩ := bnd_some h
  refine XW.reg (by kernel_rfl) ?_
  refine XO.go [] 2 [1,7] [[pi p1.kind, pi p1.scale, .ro (eField.els p1.fields)]] [(1, .one (.pv (.rp [[pi p1.kind, pi p1.scale, .ro (eField.els p1.fields)]] 0 0))), (7, vi p1.kind)] [] [([[pi p1.kind, pi p1.scale, .ro (eField.els p1.fields)]] : List (List PV))[0]? = some [pi p1.kind, pi p1.scale, .ro (eField.els p1.fields)]] (by kernel_rfl) (⟨rfl, trivial⟩) ?_
  refine XO.cal 68 [vi p1.kind, vi (1 : Int), vi (7 : Int)] (vb r1) [(8, vb r1), (1, .one (.pv (.rp [[pi p1.kind, pi p1.scale, .ro (eField.els p1.fields)]] 0 0))), (7, vi p1.kind)] (by kernel_rfl) (c_ref1_within _ _ _ _ c4) rfl rfl (by kernel_rfl) ?_
  refine XO.go [] 1 [1,9] [] [(1, .one (.pv (.rp [[pi p1.kind, pi p1.scale, .ro (eField.els p1.fields)]] 0 0))), (9, vb (!r1))] [] [] (by kernel_rfl) trivial ?_
  refine XO.done (by kernel_rfl) ?_
  refine hK3 _ _ ?_
  refine XW.cond (x := .tmp 9) (a := cd Tryd.f118 [1,0,1,0]) (b := cd Tryd.f118 [1,0,1,1]) (t := (!r1)) (by kernel_rfl) (by kernel_rfl) (fun b5 => ?_) (fun b5 => ?_)
  · have h := ift_t b5 h
    refine XW.seq (x := cd Tryd.f118 [1,0,1,0,0]) (y := cd Tryd.f118 [1,0,1,0,1]) (by kernel_rfl) fun K6 hK6 => ?_
    refine XW.reg (by kernel_rfl) ?_
    refine XO.go [] 1 [2] [] [(2, vi (3 : Int))] [] [] (by kernel_rfl) trivial ?_
    refine XO.done (by kernel_rfl) ?_
    refine hK6 _ _ ?_
    refine XW.ret (by kernel_rfl) ?_
    obtain rfl := Option.some.inj h
    exact FinP.fin (.inr rfl) [] [vi (3 : Int)] [] (by kernel_rfl) trivial (.one (.rfl _ rfl))
  · have h := ift_f b5 h
    refine XW.skip (by kernel_rfl) ?_
    refine hK2 _ _ ?_
    refine XW.seq (x := cd Tryd.f118 [1,1,0]) (y := cd Tryd.f118 [1,1,1]) (by kernel_rfl) fun K7 hK7 => ?_
    refine XW.seq (x := cd Tryd.f118 [1,1,0,0]) (y := cd Tryd.f118 [1,1,0,1]) (by kernel_rfl) fun K8 hK8 => ?_
    have hJ1 : ∀ (x1 : Bool), ref1_shape_j1 p1 x1 = some r → ∀ fr1 st1, Sub 109 0 [] fr1 st1 [(1, .one (.pv (.rp [[pi p1.kind, pi p1.scale, .ro (eField.els p1.fields)]] 0 0))), (28, vb x1)] [] → K8 fr1 st1 := by
      intro x1 h fr1 st1 hS
      unfold ref1_shape_j1 at h
      refine hK8 _ _ (XW.sub hS ?_)
      refine XW.cond (x := .tmp 28) (a := cd Tryd.f118 [1,1,0,1,0]) (b := cd Tryd.f118 [1,1,0,1,1]) (t := x1) (by kernel_rfl) (by kernel_rfl) (fun b14 => ?_) (fun b14 => ?_)
      · have h := ift_t b14 h
        refine XW.seq (x := cd Tryd.f118 [1,1,0,1,0,0]) (y := cd Tryd.f118 [1,1,0,1,0,1]) (by kernel_rfl) fun K15 hK15 => ?_
        refine XW.reg (by kernel_rfl) ?_
        refine XO.go [] 1 [2] [] [(2, vi (1 : Int))] [] [] (by kernel_rfl) trivial ?_
        refine XO.done (by kernel_rfl) ?_
        refine hK15 _ _ ?_
        refine XW.ret (by kernel_rfl) ?_
        obtain rfl := Option.some.inj h
        exact FinP.fin (.inr rfl) [] [vi (1 : Int)] [] (by kernel_rfl) trivial (.one (.rfl _ rfl))
      · have h := ift_f b14 h
        refine XW.skip (by kernel_rfl) ?_
        refine hK7 _ _ ?_
        refine XW.seq (x := cd Tryd.f118 [1,1,1,0]) (y := cd Tryd.f118 [1,1,1,1]) (by kernel_rfl) fun K16 hK16 => ?_
        refine XW.seq (x := cd Tryd.f118 [1,1,1,0,0]) (y := cd Tryd.f118 [1,1,1,0,1]) (by kernel_rfl) fun K17 hK17 => ?_
        have hJ2 : ∀ (x2 : Bool), ref1_shape_j2 p1 x2 = some r → ∀ fr1 st1, Sub 109 0 [] fr1 st1 [(1, .one (.pv (.rp [[pi p1.kind, pi p1.scale, .ro (eField.els p1.fields)]] 0 0))), (45, vb x2)] [] → K17 fr1 st1 := by
          intro x2 h fr1 st1 hS
          unfold ref1_shape_j2 at h
          refine hK17 _ _ (XW.sub hS ?_)
          refine XW.cond (x := .tmp 45) (a := cd Tryd.f118 [1,1,1,0,1,0]) (b := cd Tryd.f118 [1,1,1,0,1,1]) (t := x2) (by kernel_rfl) (by kernel_rfl) (fun b21 => ?_) (fun b21 => ?_)
          · have h := ift_t b21 h
            refine XW.seq (x := cd Tryd.f118 [1,1,1,0,1,0,0]) (y := cd Tryd.f118 [1,1,1,0,1,0,1]) (by kernel_rfl) fun K22 hK22 => ?_
            refine XW.reg (by kernel_rfl) ?_
            refine XO.go [] 1 [2] [] [(2, vi (1 : Int))] [] [] (by kernel_rfl) trivial ?_
            refine XO.done (by kernel_rfl) ?_
            refine hK22 _ _ ?_
            refine XW.ret (by kernel_rfl) ?_
            obtain rfl := Option.some.inj h
            exact FinP.fin (.inr rfl) [] [vi (1 : Int)] [] (by kernel_rfl) trivial (.one (.rfl _ rfl))
          · have h := ift_f b21 h
            refine XW.skip (by kernel_rfl) ?_
            refine hK16 _ _ ?_
            refine XW.seq (x := cd Tryd.f118 [1,1,1,1,0]) (y := cd Tryd.f118 [1,1,1,1,1]) (by kernel_rfl) fun K23 hK23 => ?_
            refine XW.seq (x := cd Tryd.f118 [1,1,1,1,0,0]) (y := cd Tryd.f118 [1,1,1,1,0,1]) (by kernel_rfl) fun K24 hK24 => ?_
            have hJ3 : ∀ (x3 : Bool), ref1_shape_j3 p1 x3 = some r → ∀ fr1 st1, Sub 109 0 [] fr1 st1 [(1, .one (.pv (.rp [[pi p1.kind, pi p1.scale, .ro (eField.els p1.fields)]] 0 0))), (65, vb x3)] [] → K24 fr1 st1 := by
              intro x3 h fr1 st1 hS
              unfold ref1_shape_j3 at h
              refine hK24 _ _ (XW.sub hS ?_)
              refine XW.cond (x := .tmp 65) (a := cd Tryd.f118 [1,1,1,1,0,1,0]) (b := cd Tryd.f118 [1,1,1,1,0,1,1]) (t := x3) (by kernel_rfl) (by kernel_rfl) (fun b31 => ?_) (fun b31 => ?_)
              · have h := ift_t b31 h
                refine XW.seq (x := cd Tryd.f118 [1,1,1,1,0,1,0,0]) (y := cd Tryd.f118 [1,1,1,1,0,1,0,1]) (by kernel_rfl) fun K32 hK32 => ?_
                refine XW.reg (by kernel_rfl) ?_
                refine XO.go [] 1 [2] [] [(2, vi (1 : Int))] [] [] (by kernel_rfl) trivial ?_
                refine XO.done (by kernel_rfl) ?_
                refine hK32 _ _ ?_
                refine XW.ret (by kernel_rfl) ?_
                obtain rfl := Option.some.inj h
                exact FinP.fin (.inr rfl) [] [vi (1 : Int)] [] (by kernel_rfl) trivial (.one (.rfl _ rfl))
              · have h := ift_f b31 h
                refine XW.skip (by kernel_rfl) ?_
                refine hK23 _ _ ?_
                refine XW.seq (x := cd Tryd.f118 [1,1,1,1,1,0]) (y := cd Tryd.f118 [1,1,1,1,1,1]) (by kernel_rfl) fun K33 hK33 => ?_
                refine XW.seq (x := cd Tryd.f118 [1,1,1,1,1,0,0]) (y := cd Tryd.f118 [1,1,1,1,1,0,1]) (by kernel_rfl) fun K34 hK34 => ?_
                refine XW.reg (by kernel_rfl) ?_
                refine XO.go [] 3 [1,68] [[pi p1.kind, pi p1.scale, .ro (eField.els p1.fields)]] [(1, .one (.pv (.rp [[pi p1.kind, pi p1.scale, .ro (eField.els p1.fields)]] 0 0))), (68, vb (p1.kind != (7 : Int)))] [] [([[pi p1.kind, pi p1.scale, .ro (eField.els p1.fields)]] : List (List PV))[0]? = some [pi p1.kind, pi p1.scale, .ro (eField.els p1.fields)]] (by kernel_rfl) (⟨rfl, trivial⟩) ?_
                refine XO.done (by kernel_rfl) ?_
                refine hK34 _ _ ?_
                refine XW.cond (x := .tmp 68) (a := cd Tryd.f118 [1,1,1,1,1,0,1,0]) (b := cd Tryd.f118 [1,1,1,1,1,0,1,1]) (t := (p1.kind != (7 : Int))) (by kernel_rfl) (by kernel_rfl) (fun b35 => ?_) (fun b35 => ?_)
                · have h := ift_t b35 h
                  refine XW.seq (x := cd Tryd.f118 [1,1,1,1,1,0,1,0,0]) (y := cd Tryd.f118 [1,1,1,1,1,0,1,0,1]) (by kernel_rfl) fun K36 hK36 => ?_
                  refine XW.reg (by kernel_rfl) ?_
                  refine XO.go [] 1 [2] [] [(2, vi (0 : Int))] [] [] (by kernel_rfl) trivial ?_
                  refine XO.done (by kernel_rfl) ?_
                  refine hK36 _ _ ?_
                  refine XW.ret (by kernel_rfl) ?_
                  obtain rfl := Option.some.inj h
                  exact FinP.fin (.inr rfl) [] [vi (0 : Int)] [] (by kernel_rfl) trivial (.one (.rfl _ rfl))
                · have h := ift_f b35 h
                  refine XW.skip (by kernel_rfl) ?_
                  refine hK33 _ _ ?_
                  refine XW.seq (x := cd Tryd.f118 [1,1,1,1,1,1,0]) (y := cd Tryd.f118 [1,1,1,1,1,1,1]) (by kernel_rfl) fun K37 hK37 => ?_
                  have hJ4 : ∀ (_ : Unit), ref1_shape_j4 p1 = some r → ∀ fr1 st1, Sub 109 0 [] fr1 st1 [(1, .one (.pv (.rp [[pi p1.kind, pi p1.scale, .ro (eField.els p1.fields)]] 0 0)))] [] → K37 fr1 st1 := by
                    intro _ h fr1 st1 hS
                    unfold ref1_shape_j4 at h
                    refine hK37 _ _ (XW.sub hS ?_)
                    refine XW.seq (x := cd Tryd.f118 [1,1,1,1,1,1,1,0]) (y := cd Tryd.f118 [1,1,1,1,1,1,1,1]) (by kernel_rfl) fun K49 hK49 => ?_
                    have hJ6 : ∀ (_ : Unit), ref1_shape_j6 = some r → ∀ fr1 st1, Sub 109 0 [] fr1 st1 [] [] → K49 fr1 st1 := by
                      intro _ h fr1 st1 hS
                      unfold ref1_shape_j6 at h
                      refine hK49 _ _ (XW.sub hS ?_)
                      refine XW.seq (x := cd Tryd.f118 [1,1,1,1,1,1,1,1,0]) (y := cd Tryd.f118 [1,1,1,1,1,1,1,1,1]) (by kernel_rfl) fun K66 hK66 => ?_
                      refine XW.reg (by kernel_rfl) ?_
                      refine XO.go [] 1 [2] [] [(2, vi (0 : Int))] [] [] (by kernel_rfl) trivial ?_
                      refine XO.done (by kernel_rfl) ?_
                      refine hK66 _ _ ?_
                      refine XW.ret (by kernel_rfl) ?_
                      obtain rfl := Option.some.inj h
                      exact FinP.fin (.inr rfl) [] [vi (0 : Int)] [] (by kernel_rfl) trivial (.one (.rfl _ rfl))
                    refine XW.seq (x := cd Tryd.f118 [1,1,1,1,1,1,1,0,0]) (y := cd Tryd.f118 [1,1,1,1,1,1,1,0,1]) (by kernel_rfl) fun K50 hK50 => ?_
                    refine XW.reg (by kernel_rfl) ?_
                    refine XO.go [] 3 [1,86] [[pi p1.kind, pi p1.scale, .ro (eField.els p1.fields)]] [(1, .one (.pv (.rp [[pi p1.kind, pi p1.scale, .ro (eField.els p1.fields)]] 0 0))), (86, vi ((eField.els p1.fields).length : Int))] [] [([[pi p1.kind, pi p1.scale, .ro (eField.els p1.fields)]] : List (List PV))[0]? = some [pi p1.kind, pi p1.scale, .ro (eField.els p1.fields)]] (by kernel_rfl) (⟨rfl, trivial⟩) ?_
                    rw [eField.len p1.fields]
                    refine XO.go [] 1 [1,86,87] [] [(1, .one (.pv (.rp [[pi p1.kind, pi p1.scale, .ro (eField.els p1.fields)]] 0 0))), (86, vi (p1.fields.length : Int)), (87, vi (0 : Int))] [] [] (by kernel_rfl) trivial ?_
                    refine XO.done (by kernel_rfl) ?_
                    refine hK50 _ _ ?_
                    refine XW.block (id := 2) (x := cd Tryd.f118 [1,1,1,1,1,1,1,0,1,0]) (by kernel_rfl) ?_
                    refine XW.rounds' BIG (x := cd Tryd.f118 [1,1,1,1,1,1,1,0,1,0,0]) (by kernel_rfl) fun Q2 hQ2 => ?_
                    have hL2 : ∀ (k2 : Nat) (x5 : Int), ref1_shape_l2 p1 k2 x5 = some r → XR Tryd.prog 109 0 [] (cd Tryd.f118 [1,1,1,1,1,1,1,0,1,0,0]) Q2 k2 [(1, .one (.pv (.rp [[pi p1.kind, pi p1.scale, .ro (eField.els p1.fields)]] 0 0))), (86, vi (p1.fields.length : Int)), (87, vi x5)] [] := by
                      intro k2
                      induction k2 with
                      | zero => intro x5 h; rw [ref1_shape_l2.eq_1] at h; cases h
                      | succ k2 ih2 =>
                        intro x5 h
                        rw [ref1_shape_l2.eq_2] at h
                        refine XW.seq (x := cd Tryd.f118 [1,1,1,1,1,1,1,0,1,0,0,0]) (y := cd Tryd.f118 [1,1,1,1,1,1,1,0,1,0,0,1]) (by kernel_rfl) fun K51 hK51 => ?_
                        refine XW.reg (by kernel_rfl) ?_
                        refine XO.go [] 1 [1,86,87,88] [] [(1, .one (.pv (.rp [[pi p1.kind, pi p1.scale, .ro (eField.els p1.fields)]] 0 0))), (86, vi (p1.fields.length : Int)), (87, vi x5), (88, vb (decide (x5 < (p1.fields.length : Int))))] [] [] (by kernel_rfl) trivial ?_
                        refine XO.done (by kernel_rfl) ?_
                        refine hK51 _ _ ?_
                        refine XW.seq (x := cd Tryd.f118 [1,1,1,1,1,1,1,0,1,0,0,1,0]) (y := cd Tryd.f118 [1,1,1,1,1,1,1,0,1,0,0,1,1]) (by kernel_rfl) fun K52 hK52 => ?_
                        refine XW.cond (x := .tmp 88) (a := cd Tryd.f118 [1,1,1,1,1,1,1,0,1,0,0,1,0,0]) (b := cd Tryd.f118 [1,1,1,1,1,1,1,0,1,0,0,1,0,1]) (t := (decide (x5 < (p1.fields.length : Int)))) (by kernel_rfl) (by kernel_rfl) (fun b53 => ?_) (fun b53 => ?_)
                        · have h := ift_t b53 h
                          refine XW.skip (by kernel_rfl) ?_
                          refine hK52 _ _ ?_
                          refine XW.seq (x := cd Tryd.f118 [1,1,1,1,1,1,1,0,1,0,0,1,1,0]) (y := cd Tryd.f118 [1,1,1,1,1,1,1,0,1,0,0,1,1,1]) (by kernel_rfl) fun K54 hK54 => ?_
                          have hJ5 : ∀ (_ : Unit), ref1_shape_j5 (ref1_shape_l2 p1 k2) x5 = some r → ∀ fr1 st1, Sub 109 0 [] fr1 st1 [(1, .one (.pv (.rp [[pi p1.kind, pi p1.scale, .ro (eField.els p1.fields)]] 0 0))), (86, vi (p1.fields.length : Int)), (87, vi x5)] [] → K54 fr1 st1 := by
                            intro _ h fr1 st1 hS
                            unfold ref1_shape_j5 at h
                            refine hK54 _ _ (XW.sub hS ?_)
                            refine XW.reg (by kernel_rfl) ?_
                            refine XO.go [] 2 [1,86,87] [] [(1, .one (.pv (.rp [[pi p1.kind, pi p1.scale, .ro (eField.els p1.fields)]] 0 0))), (86, vi (p1.fields.length : Int)), (87, vi (IntKind.i64.wrap (x5 + (1 : Int))))] [] [] (by kernel_rfl) trivial ?_
                            refine XO.done (by kernel_rfl) ?_
                            exact XR.sub (Sub.pick [1,86,87] (by kernel_rfl)) (ih2 (IntKind.i64.wrap (x5 + (1 : Int))) h)
                          refine XW.block (id := 3) (x := cd Tryd.f118 [1,1,1,1,1,1,1,0,1,0,0,1,1,0,0]) (by kernel_rfl) ?_
                          refine XW.seq (x := cd Tryd.f118 [1,1,1,1,1,1,1,0,1,0,0,1,1,0,0,0]) (y := cd Tryd.f118 [1,1,1,1,1,1,1,0,1,0,0,1,1,0,0,1]) (by kernel_rfl) fun K55 hK55 => ?_
                          refine XW.reg (by kernel_rfl) ?_
                          refine XO.go [] 2 [1,4,86,87] [] [(1, .one (.pv (.rp [[pi p1.kind, pi p1.scale, .ro (eField.els p1.fields)]] 0 0))), (4, vi x5), (86, vi (p1.fields.length : Int)), (87, vi x5)] [] [] (by kernel_rfl) trivial ?_
                          refine XO.done (by kernel_rfl) ?_
                          refine hK55 _ _ ?_
                          refine XW.seq (x := cd Tryd.f118 [1,1,1,1,1,1,1,0,1,0,0,1,1,0,0,1,0]) (y := cd Tryd.f118 [1,1,1,1,1,1,1,0,1,0,0,1,1,0,0,1,1]) (by kernel_rfl) fun K56 hK56 => ?_
                          refine XW.reg (by kernel_rfl) ?_
                          refine XO.go [] 1 [1,4,5,86,87] [] [(1, .one (.pv (.rp [[pi p1.kind, pi p1.scale, .ro (eField.els p1.fields)]] 0 0))), (4, vi x5), (5, vi (0 : Int)), (86, vi (p1.fields.length : Int)), (87, vi x5)] [] [] (by kernel_rfl) trivial ?_
                          refine XO.done (by kernel_rfl) ?_
                          refine hK56 _ _ ?_
                          refine XW.block (id := 4) (x := cd Tryd.f118 [1,1,1,1,1,1,1,0,1,0,0,1,1,0,0,1,1,0]) (by kernel_rfl) ?_
                          refine XW.rounds' BIG (x := cd Tryd.f118 [1,1,1,1,1,1,1,0,1,0,0,1,1,0,0,1,1,0,0]) (by kernel_rfl) fun Q3 hQ3 => ?_
                          have hL3 : ∀ (k3 : Nat) (x6 : Int), ref1_shape_l3 (ref1_shape_l2 p1 k2) p1 x5 k3 x6 = some r → XR Tryd.prog 109 0 [] (cd Tryd.f118 [1,1,1,1,1,1,1,0,1,0,0,1,1,0,0,1,1,0,0]) Q3 k3 [(1, .one (.pv (.rp [[pi p1.kind, pi p1.scale, .ro (eField.els p1.fields)]] 0 0))), (4, vi x5), (5, vi x6), (86, vi (p1.fields.length : Int)), (87, vi x5)] [] := by
                            intro k3
                            induction k3 with
                            | zero => intro x6 h; rw [ref1_shape_l3.eq_1] at h; cases h
                            | succ k3 ih3 =>
                              intro x6 h
                              rw [ref1_shape_l3.eq_2] at h
                              refine XW.seq (x := cd Tryd.f118 [1,1,1,1,1,1,1,0,1,0,0,1,1,0,0,1,1,0,0,0]) (y := cd Tryd.f118 [1,1,1,1,1,1,1,0,1,0,0,1,1,0,0,1,1,0,0,1]) (by kernel_rfl) fun K57 hK57 => ?_
                              refine XW.seq (x := cd Tryd.f118 [1,1,1,1,1,1,1,0,1,0,0,1,1,0,0,1,1,0,0,0,0]) (y := cd Tryd.f118 [1,1,1,1,1,1,1,0,1,0,0,1,1,0,0,1,1,0,0,0,1]) (by kernel_rfl) fun K58 hK58 => ?_
                              refine XW.reg (by kernel_rfl) ?_
                              refine XO.go [] 3 [1,4,5,86,87,92] [] [(1, .one (.pv (.rp [[pi p1.kind, pi p1.scale, .ro (eField.els p1.fields)]] 0 0))), (4, vi x5), (5, vi x6), (86, vi (p1.fields.length : Int)), (87, vi x5), (92, vb (decide (x6 < x5)))] [] [] (by kernel_rfl) trivial ?_
                              refine XO.done (by kernel_rfl) ?_
                              refine hK58 _ _ ?_
                              refine XW.cond (x := .tmp 92) (a := cd Tryd.f118 [1,1,1,1,1,1,1,0,1,0,0,1,1,0,0,1,1,0,0,0,1,0]) (b := cd Tryd.f118 [1,1,1,1,1,1,1,0,1,0,0,1,1,0,0,1,1,0,0,0,1,1]) (t := (decide (x6 < x5))) (by kernel_rfl) (by kernel_rfl) (fun b59 => ?_) (fun b59 => ?_)
                              · have h := ift_t b59 h
                                refine XW.skip (by kernel_rfl) ?_
                                refine hK57 _ _ ?_
                                refine XW.seq (x := cd Tryd.f118 [1,1,1,1,1,1,1,0,1,0,0,1,1,0,0,1,1,0,0,1,0]) (y := cd Tryd.f118 [1,1,1,1,1,1,1,0,1,0,0,1,1,0,0,1,1,0,0,1,1]) (by kernel_rfl) fun K60 hK60 => ?_
                                refine XW.block (id := 5) (x := cd Tryd.f118 [1,1,1,1,1,1,1,0,1,0,0,1,1,0,0,1,1,0,0,1,0,0]) (by kernel_rfl) ?_
                                refine XW.seq (x := cd Tryd.f118 [1,1,1,1,1,1,1,0,1,0,0,1,1,0,0,1,1,0,0,1,0,0,0]) (y := cd Tryd.f118 [1,1,1,1,1,1,1,0,1,0,0,1,1,0,0,1,1,0,0,1,0,0,1]) (by kernel_rfl) fun K61 hK61 => ?_
                                obtain ⟨e3, a62, h⟩ := bnd_some h
                                obtain ⟨e4, a63, h⟩ := bnd_some h
                                refine XW.drwS 12 [(106, vs e4.name), (105, .one (.pv (.rp (eField.els p1.fields) x5.toNat 1))), (104, .one (.pv (.rp (eField.els p1.fields) x5.toNat 0))), (103, vi x5), (102, vl eField p1.fields), (101, .one (.pv (.rp [[pi p1.kind, pi p1.scale, .ro (eField.els p1.fields)]] 0 2))), (100, vs e3.name), (99, .one (.pv (.rp (eField.els p1.fields) x6.toNat 1))), (98, .one (.pv (.rp (eField.els p1.fields) x6.toNat 0))), (97, vi x6), (96, vl eField p1.fields), (95, .one (.pv (.rp [[pi p1.kind, pi p1.scale, .ro (eField.els p1.fields)]] 0 2))), (1, .one (.pv (.rp [[pi p1.kind, pi p1.scale, .ro (eField.els p1.fields)]] 0 0))), (4, vi x5), (5, vi x6), (86, vi (p1.fields.length : Int)), (87, vi x5), (92, vb (decide (x6 < x5)))] (by kernel_rfl) (by kernel_rfl) ?_ ?_
                                · refine DX.go 12 [[pi p1.kind, pi p1.scale, .ro (eField.els p1.fields)], [pi e3.id, .s (.string e3.name), .s (.bool e3.need), pi e3.type.kind, pi e3.type.scale, .ro (eField.els e3.type.fields)], [pi p1.kind, pi p1.scale, .ro (eField.els p1.fields)], [pi e4.id, .s (.string e4.name), .s (.bool e4.need), pi e4.type.kind, pi e4.type.scale, .ro (eField.els e4.type.fields)]] [(106, vs e4.name), (105, .one (.pv (.rp (eField.els p1.fields) x5.toNat 1))), (104, .one (.pv (.rp (eField.els p1.fields) x5.toNat 0))), (103, vi x5), (102, vl eField p1.fields), (101, .one (.pv (.rp [[pi p1.kind, pi p1.scale, .ro (eField.els p1.fields)]] 0 2))), (100, vs e3.name), (99, .one (.pv (.rp (eField.els p1.fields) x6.toNat 1))), (98, .one (.pv (.rp (eField.els p1.fields) x6.toNat 0))), (97, vi x6), (96, vl eField p1.fields), (95, .one (.pv (.rp [[pi p1.kind, pi p1.scale, .ro (eField.els p1.fields)]] 0 2))), (1, .one (.pv (.rp [[pi p1.kind, pi p1.scale, .ro (eField.els p1.fields)]] 0 0))), (4, vi x5), (5, vi x6), (86, vi (p1.fields.length : Int)), (87, vi x5), (92, vb (decide (x6 < x5)))] [([[pi p1.kind, pi p1.scale, .ro (eField.els p1.fields)]] : List (List PV))[0]? = some [pi p1.kind, pi p1.scale, .ro (eField.els p1.fields)], 0 ≤ x6 ∧ x6 < ((eField.els p1.fields).length : Int) ∧ elemsOk 6 (eField.els p1.fields), (eField.els p1.fields)[x6.toNat]? = some [pi e3.id, .s (.string e3.name), .s (.bool e3.need), pi e3.type.kind, pi e3.type.scale, .ro (eField.els e3.type.fields)], ([[pi p1.kind, pi p1.scale, .ro (eField.els p1.fields)]] : List (List PV))[0]? = some [pi p1.kind, pi p1.scale, .ro (eField.els p1.fields)], 0 ≤ x5 ∧ x5 < ((eField.els p1.fields).length : Int) ∧ elemsOk 6 (eField.els p1.fields), (eField.els p1.fields)[x5.toNat]? = some [pi e4.id, .s (.string e4.name), .s (.bool e4.need), pi e4.type.kind, pi e4.type.scale, .ro (eField.els e4.type.fields)]] (by kernel_rfl) (⟨rfl, eField.inb a62, ((eField.get a62).trans (by rcases e3 with ⟨_, _, _, ⟨_, _, _⟩⟩; rfl)), rfl, eField.inb a63, ((eField.get a63).trans (by rcases e4 with ⟨_, _, _, ⟨_, _, _⟩⟩; rfl)), trivial⟩) ?_
                                  exact DX.done (by kernel_rfl)
                                refine XO.go [] 1 [1,4,5,86,87,107] [] [(1, .one (.pv (.rp [[pi p1.kind, pi p1.scale, .ro (eField.els p1.fields)]] 0 0))), (4, vi x5), (5, vi x6), (86, vi (p1.fields.length : Int)), (87, vi x5), (107, vb (e3.name.toList == e4.name.toList))] [] [] (by kernel_rfl) trivial ?_
                                refine XO.done (by kernel_rfl) ?_
                                refine hK61 _ _ ?_
                                refine XW.cond (x := .tmp 107) (a := cd Tryd.f118 [1,1,1,1,1,1,1,0,1,0,0,1,1,0,0,1,1,0,0,1,0,0,1,0]) (b := cd Tryd.f118 [1,1,1,1,1,1,1,0,1,0,0,1,1,0,0,1,1,0,0,1,0,0,1,1]) (t := (e3.name.toList == e4.name.toList)) (by kernel_rfl) (by kernel_rfl) (fun b64 => ?_) (fun b64 => ?_)
                                · have h := ift_t b64 h
                                  refine XW.seq (x := cd Tryd.f118 [1,1,1,1,1,1,1,0,1,0,0,1,1,0,0,1,1,0,0,1,0,0,1,0,0]) (y := cd Tryd.f118 [1,1,1,1,1,1,1,0,1,0,0,1,1,0,0,1,1,0,0,1,0,0,1,0,1]) (by kernel_rfl) fun K65 hK65 => ?_
                                  refine XW.reg (by kernel_rfl) ?_
                                  refine XO.go [] 1 [2] [] [(2, vi (5 : Int))] [] [] (by kernel_rfl) trivial ?_
                                  refine XO.done (by kernel_rfl) ?_
                                  refine hK65 _ _ ?_
                                  refine XW.ret (by kernel_rfl) ?_
                                  refine hQ3 _ _ _ ?_
                                  refine hQ2 _ _ _ ?_
                                  obtain rfl := Option.some.inj h
                                  exact FinP.fin (.inr rfl) [] [vi (5 : Int)] [] (by kernel_rfl) trivial (.one (.rfl _ rfl))
                                · have h := ift_f b64 h
                                  refine XW.skip (by kernel_rfl) ?_
                                  refine hK60 _ _ ?_
                                  refine XW.reg (by kernel_rfl) ?_
                                  refine XO.go [] 3 [1,4,5,86,87] [] [(1, .one (.pv (.rp [[pi p1.kind, pi p1.scale, .ro (eField.els p1.fields)]] 0 0))), (4, vi x5), (5, vi (IntKind.i64.wrap (x6 + (1 : Int)))), (86, vi (p1.fields.length : Int)), (87, vi x5)] [] [] (by kernel_rfl) trivial ?_
                                  refine XO.done (by kernel_rfl) ?_
                                  exact XR.sub (Sub.pick [1,4,5,86,87] (by kernel_rfl)) (ih3 (IntKind.i64.wrap (x6 + (1 : Int))) h)
                              · have h := ift_f b59 h
                                refine XW.exit (id := 4) (by kernel_rfl) ?_
                                refine hQ3 _ _ _ ?_
                                exact hJ5 () h _ _ (Sub.pick [1,86,87] (by kernel_rfl))
                          exact XR.sub (Sub.pick [1,4,5,86,87] (by kernel_rfl)) (hL3 BIG (0 : Int) h)
                        · have h := ift_f b53 h
                          refine XW.exit (id := 2) (by kernel_rfl) ?_
                          refine hQ2 _ _ _ ?_
                          exact hJ6 () h _ _ (Sub.pick [] (by kernel_rfl))
                    exact XR.sub (Sub.pick [1,86,87] (by kernel_rfl)) (hL2 BIG (0 : Int) h)
                  refine XW.seq (x := cd Tryd.f118 [1,1,1,1,1,1,0,0]) (y := cd Tryd.f118 [1,1,1,1,1,1,0,1]) (by kernel_rfl) fun K38 hK38 => ?_
                  refine XW.reg (by kernel_rfl) ?_
                  refine XO.go [] 3 [1,71] [[pi p1.kind, pi p1.scale, .ro (eField.els p1.fields)]] [(1, .one (.pv (.rp [[pi p1.kind, pi p1.scale, .ro (eField.els p1.fields)]] 0 0))), (71, vi ((eField.els p1.fields).length : Int))] [] [([[pi p1.kind, pi p1.scale, .ro (eField.els p1.fields)]] : List (List PV))[0]? = some [pi p1.kind, pi p1.scale, .ro (eField.els p1.fields)]] (by kernel_rfl) (⟨rfl, trivial⟩) ?_
                  rw [eField.len p1.fields]
                  refine XO.go [] 1 [1,71,72] [] [(1, .one (.pv (.rp [[pi p1.kind, pi p1.scale, .ro (eField.els p1.fields)]] 0 0))), (71, vi (p1.fields.length : Int)), (72, vi (0 : Int))] [] [] (by kernel_rfl) trivial ?_
                  refine XO.done (by kernel_rfl) ?_
                  refine hK38 _ _ ?_
                  refine XW.block (id := 0) (x := cd Tryd.f118 [1,1,1,1,1,1,0,1,0]) (by kernel_rfl) ?_
                  refine XW.rounds' BIG (x := cd Tryd.f118 [1,1,1,1,1,1,0,1,0,0]) (by kernel_rfl) fun Q1 hQ1 => ?_
                  have hL1 : ∀ (k1 : Nat) (x4 : Int), ref1_shape_l1 p1 k1 x4 = some r → XR Tryd.prog 109 0 [] (cd Tryd.f118 [1,1,1,1,1,1,0,1,0,0]) Q1 k1 [(1, .one (.pv (.rp [[pi p1.kind, pi p1.scale, .ro (eField.els p1.fields)]] 0 0))), (71, vi (p1.fields.length : Int)), (72, vi x4)] [] := by
                    intro k1
                    induction k1 with
                    | zero => intro x4 h; rw [ref1_shape_l1.eq_1] at h; cases h
                    | succ k1 ih1 =>
                      intro x4 h
                      rw [ref1_shape_l1.eq_2] at h
                      refine XW.seq (x := cd Tryd.f118 [1,1,1,1,1,1,0,1,0,0,0]) (y := cd Tryd.f118 [1,1,1,1,1,1,0,1,0,0,1]) (by kernel_rfl) fun K39 hK39 => ?_
                      refine XW.reg (by kernel_rfl) ?_
                      refine XO.go [] 1 [1,71,72,73] [] [(1, .one (.pv (.rp [[pi p1.kind, pi p1.scale, .ro (eField.els p1.fields)]] 0 0))), (71, vi (p1.fields.length : Int)), (72, vi x4), (73, vb (decide (x4 < (p1.fields.length : Int))))] [] [] (by kernel_rfl) trivial ?_
                      refine XO.done (by kernel_rfl) ?_
                      refine hK39 _ _ ?_
                      refine XW.seq (x := cd Tryd.f118 [1,1,1,1,1,1,0,1,0,0,1,0]) (y := cd Tryd.f118 [1,1,1,1,1,1,0,1,0,0,1,1]) (by kernel_rfl) fun K40 hK40 => ?_
                      refine XW.cond (x := .tmp 73) (a := cd Tryd.f118 [1,1,1,1,1,1,0,1,0,0,1,0,0]) (b := cd Tryd.f118 [1,1,1,1,1,1,0,1,0,0,1,0,1]) (t := (decide (x4 < (p1.fields.length : Int)))) (by kernel_rfl) (by kernel_rfl) (fun b41 => ?_) (fun b41 => ?_)
                      · have h := ift_t b41 h
                        refine XW.skip (by kernel_rfl) ?_
                        refine hK40 _ _ ?_
                        refine XW.seq (x := cd Tryd.f118 [1,1,1,1,1,1,0,1,0,0,1,1,0]) (y := cd Tryd.f118 [1,1,1,1,1,1,0,1,0,0,1,1,1]) (by kernel_rfl) fun K42 hK42 => ?_
                        refine XW.block (id := 1) (x := cd Tryd.f118 [1,1,1,1,1,1,0,1,0,0,1,1,0,0]) (by kernel_rfl) ?_
                        refine XW.seq (x := cd Tryd.f118 [1,1,1,1,1,1,0,1,0,0,1,1,0,0,0]) (y := cd Tryd.f118 [1,1,1,1,1,1,0,1,0,0,1,1,0,0,1]) (by kernel_rfl) fun K43 hK43 => ?_
                        refine XW.reg (by kernel_rfl) ?_
                        refine XO.go [] 2 [1,3,71,72] [] [(1, .one (.pv (.rp [[pi p1.kind, pi p1.scale, .ro (eField.els p1.fields)]] 0 0))), (3, vi x4), (71, vi (p1.fields.length : Int)), (72, vi x4)] [] [] (by kernel_rfl) trivial ?_
                        refine XO.done (by kernel_rfl) ?_
                        refine hK43 _ _ ?_
                        refine XW.seq (x := cd Tryd.f118 [1,1,1,1,1,1,0,1,0,0,1,1,0,0,1,0]) (y := cd Tryd.f118 [1,1,1,1,1,1,0,1,0,0,1,1,0,0,1,1]) (by kernel_rfl) fun K44 hK44 => ?_
                        obtain ⟨e2, a45, h⟩ := bnd_some h
                        obtain ⟨r5, c46, h⟩ := bnd_some h
                        refine XW.reg (by kernel_rfl) ?_
                        refine XO.go [] 6 [1,71,72,80] [[pi p1.kind, pi p1.scale, .ro (eField.els p1.fields)], [pi e2.id, .s (.string e2.name), .s (.bool e2.need), pi e2.type.kind, pi e2.type.scale, .ro (eField.els e2.type.fields)]] [(1, .one (.pv (.rp [[pi p1.kind, pi p1.scale, .ro (eField.els p1.fields)]] 0 0))), (71, vi (p1.fields.length : Int)), (72, vi x4), (80, vs e2.name)] [] [([[pi p1.kind, pi p1.scale, .ro (eField.els p1.fields)]] : List (List PV))[0]? = some [pi p1.kind, pi p1.scale, .ro (eField.els p1.fields)], 0 ≤ x4 ∧ x4 < ((eField.els p1.fields).length : Int) ∧ elemsOk 6 (eField.els p1.fields), (eField.els p1.fields)[x4.toNat]? = some [pi e2.id, .s (.string e2.name), .s (.bool e2.need), pi e2.type.kind, pi e2.type.scale, .ro (eField.els e2.type.fields)]] (by kernel_rfl) (⟨rfl, eField.inb a45, ((eField.get a45).trans (by rcases e2 with ⟨_, _, _, ⟨_, _, _⟩⟩; rfl)), trivial⟩) ?_
                        refine XO.cal 131 [vs e2.name] (vb r5) [(81, vb r5), (1, .one (.pv (.rp [[pi p1.kind, pi p1.scale, .ro (eField.els p1.fields)]] 0 0))), (71, vi (p1.fields.length : Int)), (72, vi x4), (80, vs e2.name)] (by kernel_rfl) (c_ref1_Name _ _ c46) rfl rfl (by kernel_rfl) ?_
                        refine XO.go [] 1 [1,71,72,82] [] [(1, .one (.pv (.rp [[pi p1.kind, pi p1.scale, .ro (eField.els p1.fields)]] 0 0))), (71, vi (p1.fields.length : Int)), (72, vi x4), (82, vb (!r5))] [] [] (by kernel_rfl) trivial ?_
                        refine XO.done (by kernel_rfl) ?_
                        refine hK44 _ _ ?_
                        refine XW.cond (x := .tmp 82) (a := cd Tryd.f118 [1,1,1,1,1,1,0,1,0,0,1,1,0,0,1,1,0]) (b := cd Tryd.f118 [1,1,1,1,1,1,0,1,0,0,1,1,0,0,1,1,1]) (t := (!r5)) (by kernel_rfl) (by kernel_rfl) (fun b47 => ?_) (fun b47 => ?_)
                        · have h := ift_t b47 h
                          refine XW.seq (x := cd Tryd.f118 [1,1,1,1,1,1,0,1,0,0,1,1,0,0,1,1,0,0]) (y := cd Tryd.f118 [1,1,1,1,1,1,0,1,0,0,1,1,0,0,1,1,0,1]) (by kernel_rfl) fun K48 hK48 => ?_
                          refine XW.reg (by kernel_rfl) ?_
                          refine XO.go [] 1 [2] [] [(2, vi (4 : Int))] [] [] (by kernel_rfl) trivial ?_
                          refine XO.done (by kernel_rfl) ?_
                          refine hK48 _ _ ?_
                          refine XW.ret (by kernel_rfl) ?_
                          refine hQ1 _ _ _ ?_
                          obtain rfl := Option.some.inj h
                          exact FinP.fin (.inr rfl) [] [vi (4 : Int)] [] (by kernel_rfl) trivial (.one (.rfl _ rfl))
                        · have h := ift_f b47 h
                          refine XW.skip (by kernel_rfl) ?_
                          refine hK42 _ _ ?_
                          refine XW.reg (by kernel_rfl) ?_
                          refine XO.go [] 2 [1,71,72] [] [(1, .one (.pv (.rp [[pi p1.kind, pi p1.scale, .ro (eField.els p1.fields)]] 0 0))), (71, vi (p1.fields.length : Int)), (72, vi (IntKind.i64.wrap (x4 + (1 : Int))))] [] [] (by kernel_rfl) trivial ?_
                          refine XO.done (by kernel_rfl) ?_
                          exact XR.sub (Sub.pick [1,71,72] (by kernel_rfl)) (ih1 (IntKind.i64.wrap (x4 + (1 : Int))) h)
                      · have h := ift_f b41 h
                        refine XW.exit (id := 0) (by kernel_rfl) ?_
                        refine hQ1 _ _ _ ?_
                        exact hJ4 () h _ _ (Sub.pick [1] (by kernel_rfl))
                  exact XR.sub (Sub.pick [1,71,72] (by kernel_rfl)) (hL1 BIG (0 : Int) h)
            rcases Bool.eq_false_or_eq_true (p1.kind == (7 : Int)) with b25 | b25
            · have h := ift_t b25 h
              rcases Bool.eq_false_or_eq_true ((p1.fields.length : Int) == (0 : Int)) with b26 | b26
              · have h := ift_t b26 h
                refine XW.reg (by kernel_rfl) ?_
                refine XO.go [] 4 [1,49] [[pi p1.kind, pi p1.scale, .ro (eField.els p1.fields)]] [(1, .one (.pv (.rp [[pi p1.kind, pi p1.scale, .ro (eField.els p1.fields)]] 0 0))), (49, vb (p1.kind == (7 : Int)))] [] [([[pi p1.kind, pi p1.scale, .ro (eField.els p1.fields)]] : List (List PV))[0]? = some [pi p1.kind, pi p1.scale, .ro (eField.els p1.fields)]] (by kernel_rfl) (⟨rfl, trivial⟩) ?_
                refine XO.setb 49 true (B := (p1.kind == (7 : Int))) rfl b25 ?_
                refine XO.go [] 3 [1,49,52] [[pi p1.kind, pi p1.scale, .ro (eField.els p1.fields)]] [(1, .one (.pv (.rp [[pi p1.kind, pi p1.scale, .ro (eField.els p1.fields)]] 0 0))), (49, vb true), (52, vi ((eField.els p1.fields).length : Int))] [] [([[pi p1.kind, pi p1.scale, .ro (eField.els p1.fields)]] : List (List PV))[0]? = some [pi p1.kind, pi p1.scale, .ro (eField.els p1.fields)]] (by kernel_rfl) (⟨rfl, trivial⟩) ?_
                rw [eField.len p1.fields]
                refine XO.go [] 3 [1,55] [] [(1, .one (.pv (.rp [[pi p1.kind, pi p1.scale, .ro (eField.els p1.fields)]] 0 0))), (55, vb ((p1.fields.length : Int) == (0 : Int)))] [] [] (by kernel_rfl) trivial ?_
                refine XO.setb 55 true (B := ((p1.fields.length : Int) == (0 : Int))) rfl b26 ?_
                refine XO.go [] 10 [1,65] [] [(1, .one (.pv (.rp [[pi p1.kind, pi p1.scale, .ro (eField.els p1.fields)]] 0 0))), (65, vb true)] [] [] (by kernel_rfl) trivial ?_
                refine XO.done (by kernel_rfl) ?_
                exact hJ3 true h _ _ (Sub.pick [1,65] (by kernel_rfl))
              · have h := ift_f b26 h
                obtain ⟨r3, c27, h⟩ := bnd_some h
                rcases Bool.eq_false_or_eq_true r3 with b28 | b28
                · have h := ift_t b28 h
                  refine XW.reg (by kernel_rfl) ?_
                  refine XO.go [] 4 [1,49] [[pi p1.kind, pi p1.scale, .ro (eField.els p1.fields)]] [(1, .one (.pv (.rp [[pi p1.kind, pi p1.scale, .ro (eField.els p1.fields)]] 0 0))), (49, vb (p1.kind == (7 : Int)))] [] [([[pi p1.kind, pi p1.scale, .ro (eField.els p1.fields)]] : List (List PV))[0]? = some [pi p1.kind, pi p1.scale, .ro (eField.els p1.fields)]] (by kernel_rfl) (⟨rfl, trivial⟩) ?_
                  refine XO.setb 49 true (B := (p1.kind == (7 : Int))) rfl b25 ?_
                  refine XO.go [] 3 [1,49,52] [[pi p1.kind, pi p1.scale, .ro (eField.els p1.fields)]] [(1, .one (.pv (.rp [[pi p1.kind, pi p1.scale, .ro (eField.els p1.fields)]] 0 0))), (49, vb true), (52, vi ((eField.els p1.fields).length : Int))] [] [([[pi p1.kind, pi p1.scale, .ro (eField.els p1.fields)]] : List (List PV))[0]? = some [pi p1.kind, pi p1.scale, .ro (eField.els p1.fields)]] (by kernel_rfl) (⟨rfl, trivial⟩) ?_
                  rw [eField.len p1.fields]
                  refine XO.go [] 3 [1,55] [] [(1, .one (.pv (.rp [[pi p1.kind, pi p1.scale, .ro (eField.els p1.fields)]] 0 0))), (55, vb ((p1.fields.length : Int) == (0 : Int)))] [] [] (by kernel_rfl) trivial ?_
                  refine XO.setb 55 false (B := ((p1.fields.length : Int) == (0 : Int))) rfl b26 ?_
                  refine XO.go [] 2 [1,55,57] [[pi p1.kind, pi p1.scale, .ro (eField.els p1.fields)]] [(1, .one (.pv (.rp [[pi p1.kind, pi p1.scale, .ro (eField.els p1.fields)]] 0 0))), (55, vb false), (57, vi p1.kind)] [] [([[pi p1.kind, pi p1.scale, .ro (eField.els p1.fields)]] : List (List PV))[0]? = some [pi p1.kind, pi p1.scale, .ro (eField.els p1.fields)]] (by kernel_rfl) (⟨rfl, trivial⟩) ?_
                  refine XO.cal 73 [vi p1.kind] (vb r3) [(58, vb r3), (1, .one (.pv (.rp [[pi p1.kind, pi p1.scale, .ro (eField.els p1.fields)]] 0 0))), (55, vb false), (57, vi p1.kind)] (by kernel_rfl) (c_ref1_Leaf _ _ c27) rfl rfl (by kernel_rfl) ?_
                  refine XO.go [] 1 [1,55,59] [] [(1, .one (.pv (.rp [[pi p1.kind, pi p1.scale, .ro (eField.els p1.fields)]] 0 0))), (55, vb false), (59, vb r3)] [] [] (by kernel_rfl) trivial ?_
                  refine XO.setb 59 true (B := r3) rfl b28 ?_
                  refine XO.go [] 3 [1,55,59,62] [[pi p1.kind, pi p1.scale, .ro (eField.els p1.fields)]] [(1, .one (.pv (.rp [[pi p1.kind, pi p1.scale, .ro (eField.els p1.fields)]] 0 0))), (55, vb false), (59, vb true), (62, vi ((eField.els p1.fields).length : Int))] [] [([[pi p1.kind, pi p1.scale, .ro (eField.els p1.fields)]] : List (List PV))[0]? = some [pi p1.kind, pi p1.scale, .ro (eField.els p1.fields)]] (by kernel_rfl) (⟨rfl, trivial⟩) ?_
                  rw [eField.len p1.fields]
                  refine XO.go [] 3 [1,65] [] [(1, .one (.pv (.rp [[pi p1.kind, pi p1.scale, .ro (eField.els p1.fields)]] 0 0))), (65, vb (decide ((0 : Int) < (p1.fields.length : Int))))] [] [] (by kernel_rfl) trivial ?_
                  refine XO.done (by kernel_rfl) ?_
                  exact hJ3 (decide ((0 : Int) < (p1.fields.length : Int))) h _ _ (Sub.pick [1,65] (by kernel_rfl))
                · have h := ift_f b28 h
                  refine XW.reg (by kernel_rfl) ?_
                  refine XO.go [] 4 [1,49] [[pi p1.kind, pi p1.scale, .ro (eField.els p1.fields)]] [(1, .one (.pv (.rp [[pi p1.kind, pi p1.scale, .ro (eField.els p1.fields)]] 0 0))), (49, vb (p1.kind == (7 : Int)))] [] [([[pi p1.kind, pi p1.scale, .ro (eField.els p1.fields)]] : List (List PV))[0]? = some [pi p1.kind, pi p1.scale, .ro (eField.els p1.fields)]] (by kernel_rfl) (⟨rfl, trivial⟩) ?_
                  refine XO.setb 49 true (B := (p1.kind == (7 : Int))) rfl b25 ?_
                  refine XO.go [] 3 [1,49,52] [[pi p1.kind, pi p1.scale, .ro (eField.els p1.fields)]] [(1, .one (.pv (.rp [[pi p1.kind, pi p1.scale, .ro (eField.els p1.fields)]] 0 0))), (49, vb true), (52, vi ((eField.els p1.fields).length : Int))] [] [([[pi p1.kind, pi p1.scale, .ro (eField.els p1.fields)]] : List (List PV))[0]? = some [pi p1.kind, pi p1.scale, .ro (eField.els p1.fields)]] (by kernel_rfl) (⟨rfl, trivial⟩) ?_
                  rw [eField.len p1.fields]
                  refine XO.go [] 3 [1,55] [] [(1, .one (.pv (.rp [[pi p1.kind, pi p1.scale, .ro (eField.els p1.fields)]] 0 0))), (55, vb ((p1.fields.length : Int) == (0 : Int)))] [] [] (by kernel_rfl) trivial ?_
                  refine XO.setb 55 false (B := ((p1.fields.length : Int) == (0 : Int))) rfl b26 ?_
                  refine XO.go [] 2 [1,55,57] [[pi p1.kind, pi p1.scale, .ro (eField.els p1.fields)]] [(1, .one (.pv (.rp [[pi p1.kind, pi p1.scale, .ro (eField.els p1.fields)]] 0 0))), (55, vb false), (57, vi p1.kind)] [] [([[pi p1.kind, pi p1.scale, .ro (eField.els p1.fields)]] : List (List PV))[0]? = some [pi p1.kind, pi p1.scale, .ro (eField.els p1.fields)]] (by kernel_rfl) (⟨rfl, trivial⟩) ?_
                  refine XO.cal 73 [vi p1.kind] (vb r3) [(58, vb r3), (1, .one (.pv (.rp [[pi p1.kind, pi p1.scale, .ro (eField.els p1.fields)]] 0 0))), (55, vb false), (57, vi p1.kind)] (by kernel_rfl) (c_ref1_Leaf _ _ c27) rfl rfl (by kernel_rfl) ?_
                  refine XO.go [] 1 [1,55,59] [] [(1, .one (.pv (.rp [[pi p1.kind, pi p1.scale, .ro (eField.els p1.fields)]] 0 0))), (55, vb false), (59, vb r3)] [] [] (by kernel_rfl) trivial ?_
                  refine XO.setb 59 false (B := r3) rfl b28 ?_
                  refine XO.go [] 6 [1,65] [] [(1, .one (.pv (.rp [[pi p1.kind, pi p1.scale, .ro (eField.els p1.fields)]] 0 0))), (65, vb false)] [] [] (by kernel_rfl) trivial ?_
                  refine XO.done (by kernel_rfl) ?_
                  exact hJ3 false h _ _ (Sub.pick [1,65] (by kernel_rfl))
            · have h := ift_f b25 h
              obtain ⟨r4, c29, h⟩ := bnd_some h
              rcases Bool.eq_false_or_eq_true r4 with b30 | b30
              · have h := ift_t b30 h
                refine XW.reg (by kernel_rfl) ?_
                refine XO.go [] 4 [1,49] [[pi p1.kind, pi p1.scale, .ro (eField.els p1.fields)]] [(1, .one (.pv (.rp [[pi p1.kind, pi p1.scale, .ro (eField.els p1.fields)]] 0 0))), (49, vb (p1.kind == (7 : Int)))] [] [([[pi p1.kind, pi p1.scale, .ro (eField.els p1.fields)]] : List (List PV))[0]? = some [pi p1.kind, pi p1.scale, .ro (eField.els p1.fields)]] (by kernel_rfl) (⟨rfl, trivial⟩) ?_
                refine XO.setb 49 false (B := (p1.kind == (7 : Int))) rfl b25 ?_
                refine XO.go [] 8 [1,55,57] [[pi p1.kind, pi p1.scale, .ro (eField.els p1.fields)]] [(1, .one (.pv (.rp [[pi p1.kind, pi p1.scale, .ro (eField.els p1.fields)]] 0 0))), (55, vb false), (57, vi p1.kind)] [] [([[pi p1.kind, pi p1.scale, .ro (eField.els p1.fields)]] : List (List PV))[0]? = some [pi p1.kind, pi p1.scale, .ro (eField.els p1.fields)]] (by kernel_rfl) (⟨rfl, trivial⟩) ?_
                refine XO.cal 73 [vi p1.kind] (vb r4) [(58, vb r4), (1, .one (.pv (.rp [[pi p1.kind, pi p1.scale, .ro (eField.els p1.fields)]] 0 0))), (55, vb false), (57, vi p1.kind)] (by kernel_rfl) (c_ref1_Leaf _ _ c29) rfl rfl (by kernel_rfl) ?_
                refine XO.go [] 1 [1,55,59] [] [(1, .one (.pv (.rp [[pi p1.kind, pi p1.scale, .ro (eField.els p1.fields)]] 0 0))), (55, vb false), (59, vb r4)] [] [] (by kernel_rfl) trivial ?_
                refine XO.setb 59 true (B := r4) rfl b30 ?_
                refine XO.go [] 3 [1,55,59,62] [[pi p1.kind, pi p1.scale, .ro (eField.els p1.fields)]] [(1, .one (.pv (.rp [[pi p1.kind, pi p1.scale, .ro (eField.els p1.fields)]] 0 0))), (55, vb false), (59, vb true), (62, vi ((eField.els p1.fields).length : Int))] [] [([[pi p1.kind, pi p1.scale, .ro (eField.els p1.fields)]] : List (List PV))[0]? = some [pi p1.kind, pi p1.scale, .ro (eField.els p1.fields)]] (by kernel_rfl) (⟨rfl, trivial⟩) ?_
                rw [eField.len p1.fields]
                refine XO.go [] 3 [1,65] [] [(1, .one (.pv (.rp [[pi p1.kind, pi p1.scale, .ro (eField.els p1.fields)]] 0 0))), (65, vb (decide ((0 : Int) < (p1.fields.length : Int))))] [] [] (by kernel_rfl) trivial ?_
                refine XO.done (by kernel_rfl) ?_
                exact hJ3 (decide ((0 : Int) < (p1.fields.length : Int))) h _ _ (Sub.pick [1,65] (by kernel_rfl))
              · have h := ift_f b30 h
                refine XW.reg (by kernel_rfl) ?_
                refine XO.go [] 4 [1,49] [[pi p1.kind, pi p1.scale, .ro (eField.els p1.fields)]] [(1, .one (.pv (.rp [[pi p1.kind, pi p1.scale, .ro (eField.els p1.fields)]] 0 0))), (49, vb (p1.kind == (7 : Int)))] [] [([[pi p1.kind, pi p1.scale, .ro (eField.els p1.fields)]] : List (List PV))[0]? = some [pi p1.kind, pi p1.scale, .ro (eField.els p1.fields)]] (by kernel_rfl) (⟨rfl, trivial⟩) ?_
                refine XO.setb 49 false (B := (p1.kind == (7 : Int))) rfl b25 ?_
                refine XO.go [] 8 [1,55,57] [[pi p1.kind, pi p1.scale, .ro (eField.els p1.fields)]] [(1, .one (.pv (.rp [[pi p1.kind, pi p1.scale, .ro (eField.els p1.fields)]] 0 0))), (55, vb false), (57, vi p1.kind)] [] [([[pi p1.kind, pi p1.scale, .ro (eField.els p1.fields)]] : List (List PV))[0]? = some [pi p1.kind, pi p1.scale, .ro (eField.els p1.fields)]] (by kernel_rfl) (⟨rfl, trivial⟩) ?_
                refine XO.cal 73 [vi p1.kind] (vb r4) [(58, vb r4), (1, .one (.pv (.rp [[pi p1.kind, pi p1.scale, .ro (eField.els p1.fields)]] 0 0))), (55, vb false), (57, vi p1.kind)] (by kernel_rfl) (c_ref1_Leaf _ _ c29) rfl rfl (by kernel_rfl) ?_
                refine XO.go [] 1 [1,55,59] [] [(1, .one (.pv (.rp [[pi p1.kind, pi p1.scale, .ro (eField.els p1.fields)]] 0 0))), (55, vb false), (59, vb r4)] [] [] (by kernel_rfl) trivial ?_
                refine XO.setb 59 false (B := r4) rfl b30 ?_
                refine XO.go [] 6 [1,65] [] [(1, .one (.pv (.rp [[pi p1.kind, pi p1.scale, .ro (eField.els p1.fields)]] 0 0))), (65, vb false)] [] [] (by kernel_rfl) trivial ?_
                refine XO.done (by kernel_rfl) ?_
                exact hJ3 false h _ _ (Sub.pick [1,65] (by kernel_rfl))
        rcases Bool.eq_false_or_eq_true (p1.kind == (6 : Int)) with b18 | b18
        · have h := ift_t b18 h
          rcases Bool.eq_false_or_eq_true ((p1.fields.length : Int) != (1 : Int)) with b19 | b19
          · have h := ift_t b19 h
            refine XW.reg (by kernel_rfl) ?_
            refine XO.go [] 4 [1,32] [[pi p1.kind, pi p1.scale, .ro (eField.els p1.fields)]] [(1, .one (.pv (.rp [[pi p1.kind, pi p1.scale, .ro (eField.els p1.fields)]] 0 0))), (32, vb (p1.kind == (6 : Int)))] [] [([[pi p1.kind, pi p1.scale, .ro (eField.els p1.fields)]] : List (List PV))[0]? = some [pi p1.kind, pi p1.scale, .ro (eField.els p1.fields)]] (by kernel_rfl) (⟨rfl, trivial⟩) ?_
            refine XO.setb 32 true (B := (p1.kind == (6 : Int))) rfl b18 ?_
            refine XO.go [] 3 [1,32,35] [[pi p1.kind, pi p1.scale, .ro (eField.els p1.fields)]] [(1, .one (.pv (.rp [[pi p1.kind, pi p1.scale, .ro (eField.els p1.fields)]] 0 0))), (32, vb true), (35, vi ((eField.els p1.fields).length : Int))] [] [([[pi p1.kind, pi p1.scale, .ro (eField.els p1.fields)]] : List (List PV))[0]? = some [pi p1.kind, pi p1.scale, .ro (eField.els p1.fields)]] (by kernel_rfl) (⟨rfl, trivial⟩) ?_
            rw [eField.len p1.fields]
            refine XO.go [] 2 [1,32,37] [] [(1, .one (.pv (.rp [[pi p1.kind, pi p1.scale, .ro (eField.els p1.fields)]] 0 0))), (32, vb true), (37, vb ((p1.fields.length : Int) != (1 : Int)))] [] [] (by kernel_rfl) trivial ?_
            refine XO.setb 37 true (B := ((p1.fields.length : Int) != (1 : Int))) rfl b19 ?_
            refine XO.go [] 8 [1,45] [] [(1, .one (.pv (.rp [[pi p1.kind, pi p1.scale, .ro (eField.els p1.fields)]] 0 0))), (45, vb true)] [] [] (by kernel_rfl) trivial ?_
            refine XO.done (by kernel_rfl) ?_
            exact hJ2 true h _ _ (Sub.pick [1,45] (by kernel_rfl))
          · have h := ift_f b19 h
            obtain ⟨e1, a20, h⟩ := bnd_some h
            refine XW.reg (by kernel_rfl) ?_
            refine XO.go [] 4 [1,32] [[pi p1.kind, pi p1.scale, .ro (eField.els p1.fields)]] [(1, .one (.pv (.rp [[pi p1.kind, pi p1.scale, .ro (eField.els p1.fields)]] 0 0))), (32, vb (p1.kind == (6 : Int)))] [] [([[pi p1.kind, pi p1.scale, .ro (eField.els p1.fields)]] : List (List PV))[0]? = some [pi p1.kind, pi p1.scale, .ro (eField.els p1.fields)]] (by kernel_rfl) (⟨rfl, trivial⟩) ?_
            refine XO.setb 32 true (B := (p1.kind == (6 : Int))) rfl b18 ?_
            refine XO.go [] 3 [1,32,35] [[pi p1.kind, pi p1.scale, .ro (eField.els p1.fields)]] [(1, .one (.pv (.rp [[pi p1.kind, pi p1.scale, .ro (eField.els p1.fields)]] 0 0))), (32, vb true), (35, vi ((eField.els p1.fields).length : Int))] [] [([[pi p1.kind, pi p1.scale, .ro (eField.els p1.fields)]] : List (List PV))[0]? = some [pi p1.kind, pi p1.scale, .ro (eField.els p1.fields)]] (by kernel_rfl) (⟨rfl, trivial⟩) ?_
            rw [eField.len p1.fields]
            refine XO.go [] 2 [1,32,37] [] [(1, .one (.pv (.rp [[pi p1.kind, pi p1.scale, .ro (eField.els p1.fields)]] 0 0))), (32, vb true), (37, vb ((p1.fields.length : Int) != (1 : Int)))] [] [] (by kernel_rfl) trivial ?_
            refine XO.setb 37 false (B := ((p1.fields.length : Int) != (1 : Int))) rfl b19 ?_
            refine XO.go [] 8 [1,45] [[pi p1.kind, pi p1.scale, .ro (eField.els p1.fields)], [pi e1.id, .s (.string e1.name), .s (.bool e1.need), pi e1.type.kind, pi e1.type.scale, .ro (eField.els e1.type.fields)]] [(1, .one (.pv (.rp [[pi p1.kind, pi p1.scale, .ro (eField.els p1.fields)]] 0 0))), (45, vb (!(e1.name.toList == (ByteArray.mk #[]).toList)))] [] [([[pi p1.kind, pi p1.scale, .ro (eField.els p1.fields)]] : List (List PV))[0]? = some [pi p1.kind, pi p1.scale, .ro (eField.els p1.fields)], 0 ≤ (0 : Int) ∧ (0 : Int) < ((eField.els p1.fields).length : Int) ∧ elemsOk 6 (eField.els p1.fields), (eField.els p1.fields)[(0 : Int).toNat]? = some [pi e1.id, .s (.string e1.name), .s (.bool e1.need), pi e1.type.kind, pi e1.type.scale, .ro (eField.els e1.type.fields)]] (by kernel_rfl) (⟨rfl, eField.inb a20, ((eField.get a20).trans (by rcases e1 with ⟨_, _, _, ⟨_, _, _⟩⟩; rfl)), trivial⟩) ?_
            refine XO.done (by kernel_rfl) ?_
            exact hJ2 (!(e1.name.toList == (ByteArray.mk #[]).toList)) h _ _ (Sub.pick [1,45] (by kernel_rfl))
        · have h := ift_f b18 h
          refine XW.reg (by kernel_rfl) ?_
          refine XO.go [] 4 [1,32] [[pi p1.kind, pi p1.scale, .ro (eField.els p1.fields)]] [(1, .one (.pv (.rp [[pi p1.kind, pi p1.scale, .ro (eField.els p1.fields)]] 0 0))), (32, vb (p1.kind == (6 : Int)))] [] [([[pi p1.kind, pi p1.scale, .ro (eField.els p1.fields)]] : List (List PV))[0]? = some [pi p1.kind, pi p1.scale, .ro (eField.els p1.fields)]] (by kernel_rfl) (⟨rfl, trivial⟩) ?_
          refine XO.setb 32 false (B := (p1.kind == (6 : Int))) rfl b18 ?_
          refine XO.go [] 13 [1,45] [] [(1, .one (.pv (.rp [[pi p1.kind, pi p1.scale, .ro (eField.els p1.fields)]] 0 0))), (45, vb false)] [] [] (by kernel_rfl) trivial ?_
          refine XO.done (by kernel_rfl) ?_
          exact hJ2 false h _ _ (Sub.pick [1,45] (by kernel_rfl))
    rcases Bool.eq_false_or_eq_true (p1.kind == (3 : Int)) with b9 | b9
    · have h := ift_t b9 h
      obtain ⟨r2, c10, h⟩ := bnd_some h
      rcases Bool.eq_false_or_eq_true (!r2) with b11 | b11
      · have h := ift_t b11 h
        refine XW.reg (by kernel_rfl) ?_
        refine XO.go [] 4 [1,13] [[pi p1.kind, pi p1.scale, .ro (eField.els p1.fields)]] [(1, .one (.pv (.rp [[pi p1.kind, pi p1.scale, .ro (eField.els p1.fields)]] 0 0))), (13, vb (p1.kind == (3 : Int)))] [] [([[pi p1.kind, pi p1.scale, .ro (eField.els p1.fields)]] : List (List PV))[0]? = some [pi p1.kind, pi p1.scale, .ro (eField.els p1.fields)]] (by kernel_rfl) (⟨rfl, trivial⟩) ?_
        refine XO.setb 13 true (B := (p1.kind == (3 : Int))) rfl b9 ?_
        refine XO.go [] 2 [1,13,15] [[pi p1.kind, pi p1.scale, .ro (eField.els p1.fields)]] [(1, .one (.pv (.rp [[pi p1.kind, pi p1.scale, .ro (eField.els p1.fields)]] 0 0))), (13, vb true), (15, vi p1.scale)] [] [([[pi p1.kind, pi p1.scale, .ro (eField.els p1.fields)]] : List (List PV))[0]? = some [pi p1.kind, pi p1.scale, .ro (eField.els p1.fields)]] (by kernel_rfl) (⟨rfl, trivial⟩) ?_
        refine XO.cal 68 [vi p1.scale, vi (0 : Int), vi (12 : Int)] (vb r2) [(16, vb r2), (1, .one (.pv (.rp [[pi p1.kind, pi p1.scale, .ro (eField.els p1.fields)]] 0 0))), (13, vb true), (15, vi p1.scale)] (by kernel_rfl) (c_ref1_within _ _ _ _ c10) rfl rfl (by kernel_rfl) ?_
        refine XO.go [] 3 [1,19] [] [(1, .one (.pv (.rp [[pi p1.kind, pi p1.scale, .ro (eField.els p1.fields)]] 0 0))), (19, vb (!r2))] [] [] (by kernel_rfl) trivial ?_
        refine XO.setb 19 true (B := (!r2)) rfl b11 ?_
        refine XO.go [] 9 [1,28] [] [(1, .one (.pv (.rp [[pi p1.kind, pi p1.scale, .ro (eField.els p1.fields)]] 0 0))), (28, vb true)] [] [] (by kernel_rfl) trivial ?_
        refine XO.done (by kernel_rfl) ?_
        exact hJ1 true h _ _ (Sub.pick [1,28] (by kernel_rfl))
      · have h := ift_f b11 h
        rcases Bool.eq_false_or_eq_true (p1.kind != (3 : Int)) with b12 | b12
        · have h := ift_t b12 h
          refine XW.reg (by kernel_rfl) ?_
          refine XO.go [] 4 [1,13] [[pi p1.kind, pi p1.scale, .ro (eField.els p1.fields)]] [(1, .one (.pv (.rp [[pi p1.kind, pi p1.scale, .ro (eField.els p1.fields)]] 0 0))), (13, vb (p1.kind == (3 : Int)))] [] [([[pi p1.kind, pi p1.scale, .ro (eField.els p1.fields)]] : List (List PV))[0]? = some [pi p1.kind, pi p1.scale, .ro (eField.els p1.fields)]] (by kernel_rfl) (⟨rfl, trivial⟩) ?_
          refine XO.setb 13 true (B := (p1.kind == (3 : Int))) rfl b9 ?_
          refine XO.go [] 2 [1,13,15] [[pi p1.kind, pi p1.scale, .ro (eField.els p1.fields)]] [(1, .one (.pv (.rp [[pi p1.kind, pi p1.scale, .ro (eField.els p1.fields)]] 0 0))), (13, vb true), (15, vi p1.scale)] [] [([[pi p1.kind, pi p1.scale, .ro (eField.els p1.fields)]] : List (List PV))[0]? = some [pi p1.kind, pi p1.scale, .ro (eField.els p1.fields)]] (by kernel_rfl) (⟨rfl, trivial⟩) ?_
          refine XO.cal 68 [vi p1.scale, vi (0 : Int), vi (12 : Int)] (vb r2) [(16, vb r2), (1, .one (.pv (.rp [[pi p1.kind, pi p1.scale, .ro (eField.els p1.fields)]] 0 0))), (13, vb true), (15, vi p1.scale)] (by kernel_rfl) (c_ref1_within _ _ _ _ c10) rfl rfl (by kernel_rfl) ?_
          refine XO.go [] 3 [1,19] [] [(1, .one (.pv (.rp [[pi p1.kind, pi p1.scale, .ro (eField.els p1.fields)]] 0 0))), (19, vb (!r2))] [] [] (by kernel_rfl) trivial ?_
          refine XO.setb 19 false (B := (!r2)) rfl b11 ?_
          refine XO.go [] 4 [1,19,23] [[pi p1.kind, pi p1.scale, .ro (eField.els p1.fields)]] [(1, .one (.pv (.rp [[pi p1.kind, pi p1.scale, .ro (eField.els p1.fields)]] 0 0))), (19, vb false), (23, vb (p1.kind != (3 : Int)))] [] [([[pi p1.kind, pi p1.scale, .ro (eField.els p1.fields)]] : List (List PV))[0]? = some [pi p1.kind, pi p1.scale, .ro (eField.els p1.fields)]] (by kernel_rfl) (⟨rfl, trivial⟩) ?_
          refine XO.setb 23 true (B := (p1.kind != (3 : Int))) rfl b12 ?_
          refine XO.go [] 5 [1,28] [[pi p1.kind, pi p1.scale, .ro (eField.els p1.fields)]] [(1, .one (.pv (.rp [[pi p1.kind, pi p1.scale, .ro (eField.els p1.fields)]] 0 0))), (28, vb (p1.scale != (0 : Int)))] [] [([[pi p1.kind, pi p1.scale, .ro (eField.els p1.fields)]] : List (List PV))[0]? = some [pi p1.kind, pi p1.scale, .ro (eField.els p1.fields)]] (by kernel_rfl) (⟨rfl, trivial⟩) ?_
          refine XO.done (by kernel_rfl) ?_
          exact hJ1 (p1.scale != (0 : Int)) h _ _ (Sub.pick [1,28] (by kernel_rfl))
        · have h := ift_f b12 h
          refine XW.reg (by kernel_rfl) ?_
          refine XO.go [] 4 [1,13] [[pi p1.kind, pi p1.scale, .ro (eField.els p1.fields)]] [(1, .one (.pv (.rp [[pi p1.kind, pi p1.scale, .ro (eField.els p1.fields)]] 0 0))), (13, vb (p1.kind == (3 : Int)))] [] [([[pi p1.kind, pi p1.scale, .ro (eField.els p1.fields)]] : List (List PV))[0]? = some [pi p1.kind, pi p1.scale, .ro (eField.els p1.fields)]] (by kernel_rfl) (⟨rfl, trivial⟩) ?_
          refine XO.setb 13 true (B := (p1.kind == (3 : Int))) rfl b9 ?_
          refine XO.go [] 2 [1,13,15] [[pi p1.kind, pi p1.scale, .ro (eField.els p1.fields)]] [(1, .one (.pv (.rp [[pi p1.kind, pi p1.scale, .ro (eField.els p1.fields)]] 0 0))), (13, vb true), (15, vi p1.scale)] [] [([[pi p1.kind, pi p1.scale, .ro (eField.els p1.fields)]] : List (List PV))[0]? = some [pi p1.kind, pi p1.scale, .ro (eField.els p1.fields)]] (by kernel_rfl) (⟨rfl, trivial⟩) ?_
          refine XO.cal 68 [vi p1.scale, vi (0 : Int), vi (12 : Int)] (vb r2) [(16, vb r2), (1, .one (.pv (.rp [[pi p1.kind, pi p1.scale, .ro (eField.els p1.fields)]] 0 0))), (13, vb true), (15, vi p1.scale)] (by kernel_rfl) (c_ref1_within _ _ _ _ c10) rfl rfl (by kernel_rfl) ?_
          refine XO.go [] 3 [1,19] [] [(1, .one (.pv (.rp [[pi p1.kind, pi p1.scale, .ro (eField.els p1.fields)]] 0 0))), (19, vb (!r2))] [] [] (by kernel_rfl) trivial ?_
          refine XO.setb 19 false (B := (!r2)) rfl b11 ?_
          refine XO.go [] 4 [1,19,23] [[pi p1.kind, pi p1.scale, .ro (eField.els p1.fields)]] [(1, .one (.pv (.rp [[pi p1.kind, pi p1.scale, .ro (eField.els p1.fields)]] 0 0))), (19, vb false), (23, vb (p1.kind != (3 : Int)))] [] [([[pi p1.kind, pi p1.scale, .ro (eField.els p1.fields)]] : List (List PV))[0]? = some [pi p1.kind, pi p1.scale, .ro (eField.els p1.fields)]] (by kernel_rfl) (⟨rfl, trivial⟩) ?_
          refine XO.setb 23 false (B := (p1.kind != (3 : Int))) rfl b12 ?_
          refine XO.go [] 5 [1,28] [] [(1, .one (.pv (.rp [[pi p1.kind, pi p1.scale, .ro (eField.els p1.fields)]] 0 0))), (28, vb false)] [] [] (by kernel_rfl) trivial ?_
          refine XO.done (by kernel_rfl) ?_
          exact hJ1 false h _ _ (Sub.pick [1,28] (by kernel_rfl))
    · have h := ift_f b9 h
      rcases Bool.eq_false_or_eq_true (p1.kind != (3 : Int)) with b13 | b13
      · have h := ift_t b13 h
        refine XW.reg (by kernel_rfl) ?_
        refine XO.go [] 4 [1,13] [[pi p1.kind, pi p1.scale, .ro (eField.els p1.fields)]] [(1, .one (.pv (.rp [[pi p1.kind, pi p1.scale, .ro (eField.els p1.fields)]] 0 0))), (13, vb (p1.kind == (3 : Int)))] [] [([[pi p1.kind, pi p1.scale, .ro (eField.els p1.fields)]] : List (List PV))[0]? = some [pi p1.kind, pi p1.scale, .ro (eField.els p1.fields)]] (by kernel_rfl) (⟨rfl, trivial⟩) ?_
        refine XO.setb 13 false (B := (p1.kind == (3 : Int))) rfl b9 ?_
        refine XO.go [] 10 [1,19,23] [[pi p1.kind, pi p1.scale, .ro (eField.els p1.fields)]] [(1, .one (.pv (.rp [[pi p1.kind, pi p1.scale, .ro (eField.els p1.fields)]] 0 0))), (19, vb false), (23, vb (p1.kind != (3 : Int)))] [] [([[pi p1.kind, pi p1.scale, .ro (eField.els p1.fields)]] : List (List PV))[0]? = some [pi p1.kind, pi p1.scale, .ro (eField.els p1.fields)]] (by kernel_rfl) (⟨rfl, trivial⟩) ?_
        refine XO.setb 23 true (B := (p1.kind != (3 : Int))) rfl b13 ?_
        refine XO.go [] 5 [1,28] [[pi p1.kind, pi p1.scale, .ro (eField.els p1.fields)]] [(1, .one (.pv (.rp [[pi p1.kind, pi p1.scale, .ro (eField.els p1.fields)]] 0 0))), (28, vb (p1.scale != (0 : Int)))] [] [([[pi p1.kind, pi p1.scale, .ro (eField.els p1.fields)]] : List (List PV))[0]? = some [pi p1.kind, pi p1.scale, .ro (eField.els p1.fields)]] (by kernel_rfl) (⟨rfl, trivial⟩) ?_
        refine XO.done (by kernel_rfl) ?_
        exact hJ1 (p1.scale != (0 : Int)) h _ _ (Sub.pick [1,28] (by kernel_rfl))
      · have h := ift_f b13 h
        refine XW.reg (by kernel_rfl) ?_
        refine XO.go [] 4 [1,13] [[pi p1.kind, pi p1.scale, .ro (eField.els p1.fields)]] [(1, .one (.pv (.rp [[pi p1.kind, pi p1.scale, .ro (eField.els p1.fields)]] 0 0))), (13, vb (p1.kind == (3 : Int)))] [] [([[pi p1.kind, pi p1.scale, .ro (eField.els p1.fields)]] : List (List PV))[0]? = some [pi p1.kind, pi p1.scale, .ro (eField.els p1.fields)]] (by kernel_rfl) (⟨rfl, trivial⟩) ?_
        refine XO.setb 13 false (B := (p1.kind == (3 : Int))) rfl b9 ?_
        refine XO.go [] 10 [1,19,23] [[pi p1.kind, pi p1.scale, .ro (eField.els p1.fields)]] [(1, .one (.pv (.rp [[pi p1.kind, pi p1.scale, .ro (eField.els p1.fields)]] 0 0))), (19, vb false), (23, vb (p1.kind != (3 : Int)))] [] [([[pi p1.kind, pi p1.scale, .ro (eField.els p1.fields)]] : List (List PV))[0]? = some [pi p1.kind, pi p1.scale, .ro (eField.els p1.fields)]] (by kernel_rfl) (⟨rfl, trivial⟩) ?_
        refine XO.setb 23 false (B := (p1.kind != (3 : Int))) rfl b13 ?_
        refine XO.go [] 5 [1,28] [] [(1, .one (.pv (.rp [[pi p1.kind, pi p1.scale, .ro (eField.els p1.fields)]] 0 0))), (28, vb false)] [] [] (by kernel_rfl) trivial ?_
        refine XO.done (by kernel_rfl) ?_
        exact hJ1 false h _ _ (Sub.pick [1,28] (by kernel_rfl))

def ref1_checkType_j2 (z3 : Int) : Option (Int × Int) :=
    some ((0 : Int), z3)

def ref1_checkType_l1 (q_ref1_checkType : GType → Int → Int → Option (Int × Int)) (p1 : GType) (p2 : Int) : Nat → Int → Int → Option (Int × Int)
  | 0, _, _ => none
  | k1 + 1, z2, x1 =>
    ift (decide (x1 < (p1.fields.length : Int)))
      (bnd (at? p1.fields x1) fun e1 =>
       bnd (q_ref1_checkType e1.type (IntKind.i64.wrap (p2 + (1 : Int))) z2) fun r3 =>
       ift (r3.1 != (0 : Int))
         (some (r3.1, r3.2))
         ((ref1_checkType_l1 q_ref1_checkType p1 p2 k1) r3.2 (IntKind.i64.wrap (x1 + (1 : Int)))))
      (ref1_checkType_j2 z2)

def ref1_checkType_j1 (q_ref1_checkType : GType → Int → Int → Option (Int × Int)) (p1 : GType) (p2 : Int) (z1 : Int) : Option (Int × Int) :=
    bnd (ref1_shape p1) fun r2 =>
    ift (r2 != (0 : Int))
      (some (r2, z1))
      (ref1_checkType_l1 q_ref1_checkType p1 p2 BIG z1 (0 : Int))

def ref1_checkType : Nat → GType → Int → Int → Option (Int × Int)
  | 0, _, _, _ => none
  | k0 + 1, p1, p2, p3 =>
    ift (decide ((4 : Int) < p2))
      (some ((7 : Int), p3))
      (bnd (ref1_Leaf p1.kind) fun r1 =>
       ift r1
         (ift (p3 == (40 : Int))
            (some ((7 : Int), p3))
            (ref1_checkType_j1 (ref1_checkType k0) p1 p2 (IntKind.i64.wrap (p3 + (1 : Int)))))
         (ref1_checkType_j1 (ref1_checkType k0) p1 p2 p3))


theorem c_ref1_checkType : ∀ (k0 : Nat) (p1 : GType) (p2 : Int) (p3 : Int) (r : (Int × Int)), ref1_checkType k0 p1 p2 p3 = some r → MC Tryd.prog 85 [.ag [ci p1.kind, ci p1.scale, cl eField p1.fields], vi p2, .one (.pt 0 0 0 0)] [.box [ci p3]] (vi r.1) [.box [ci r.2]]
  | 0, _, _, _, r, h => by rw [ref1_checkType.eq_1] at h; cases h
  | k0 + 1, p1, p2, p3, r, h => by
    rw [ref1_checkType.eq_2] at h
    refine MC.of 1 (n := 49) (fn := Tryd.f85) (c := cd Tryd.f85 []) (by kernel_rfl) (by kernel_rfl) (by kernel_rfl) (Nat.le_of_ble_eq_true rfl) rfl ?_
    refine XW.seq (x := cd Tryd.f85 [0]) (y := cd Tryd.f85 [1]) (by kernel_rfl) fun K1 hK1 => ?_
    refine XW.reg (by kernel_rfl) ?_
    refine XO.go [] 2 [1,2,3] [] [(1, vi p2), (2, .one (.pt 0 0 0 0)), (3, .one (.pv (.rp [[pi p1.kind, pi p1.scale, .ro (eField.els p1.fields)]] 0 0)))] [.box [ci p3]] [] (by kernel_rfl) trivial ?_
    refine XO.done (by kernel_rfl) ?_
    refine hK1 _ _ ?_
    refine XW.seq (x := cd Tryd.f85 [1,0]) (y := cd Tryd.f85 [1,1]) (by kernel_rfl) fun K2 hK2 => ?_
    refine XW.seq (x := cd Tryd.f85 [1,0,0]) (y := cd Tryd.f85 [1,0,1]) (by kernel_rfl) fun K3 hK3 => ?_
    refine XW.reg (by kernel_rfl) ?_
    refine XO.go [] 2 [1,2,3,11] [] [(1, vi p2), (2, .one (.pt 0 0 0 0)), (3, .one (.pv (.rp [[pi p1.kind, pi p1.scale, .ro (eField.els p1.fields)]] 0 0))), (11, vb (decide ((4 : Int) < p2)))] [.box [ci p3]] [] (by kernel_rfl) trivial ?_
    refine XO.done (by kernel_rfl) ?_
    refine hK3 _ _ ?_
    refine XW.cond (x := .tmp 11) (a := cd Tryd.f85 [1,0,1,0]) (b := cd Tryd.f85 [1,0,1,1]) (t := (decide ((4 : Int) < p2))) (by kernel_rfl) (by kernel_rfl) (fun b4 => ?_) (fun b4 => ?_)
    · have h := ift_t b4 h
      refine XW.seq (x := cd Tryd.f85 [1,0,1,0,0]) (y := cd Tryd.f85 [1,0,1,0,1]) (by kernel_rfl) fun K5 hK5 => ?_
      refine XW.reg (by kernel_rfl) ?_
      refine XO.go [] 1 [6] [] [(6, vi (7 : Int))] [.box [ci p3]] [] (by kernel_rfl) trivial ?_
      refine XO.done (by kernel_rfl) ?_
      refine hK5 _ _ ?_
      refine XW.ret (by kernel_rfl) ?_
      obtain rfl := Option.some.inj h
      exact FinM.fin (.inr rfl) [] [vi (7 : Int)] [] (by kernel_rfl) trivial (by kernel_rfl) (by kernel_rfl) (.one (.rfl _ rfl))
    · have h := ift_f b4 h
      refine XW.skip (by kernel_rfl) ?_
      refine hK2 _ _ ?_
      refine XW.seq (x := cd Tryd.f85 [1,1,0]) (y := cd Tryd.f85 [1,1,1]) (by kernel_rfl) fun K6 hK6 => ?_
      have hJ1 : ∀ (z1 : Int), ref1_checkType_j1 (ref1_checkType k0) p1 p2 z1 = some r → ∀ fr1 st1, Sub 49 1 [] fr1 st1 [(1, vi p2), (2, .one (.pt 0 0 0 0)), (3, .one (.pv (.rp [[pi p1.kind, pi p1.scale, .ro (eField.els p1.fields)]] 0 0)))] [.box [ci z1]] → K6 fr1 st1 := by
        intro z1 h fr1 st1 hS
        unfold ref1_checkType_j1 at h
        refine hK6 _ _ (XW.sub hS ?_)
        refine XW.seq (x := cd Tryd.f85 [1,1,1,0]) (y := cd Tryd.f85 [1,1,1,1]) (by kernel_rfl) fun K14 hK14 => ?_
        refine XW.seq (x := cd Tryd.f85 [1,1,1,0,0]) (y := cd Tryd.f85 [1,1,1,0,1]) (by kernel_rfl) fun K15 hK15 => ?_
        obtain ⟨r2, c16, h⟩ := bnd_some h
        refine XW.reg (by kernel_rfl) ?_
        refine XO.go [] 1 [1,2,3,24] [[pi p1.kind, pi p1.scale, .ro (eField.els p1.fields)]] [(1, vi p2), (2, .one (.pt 0 0 0 0)), (3, .one (.pv (.rp [[pi p1.kind, pi p1.scale, .ro (eField.els p1.fields)]] 0 0))), (24, .ag [ci p1.kind, ci p1.scale, cl eField p1.fields])] [.box [ci z1]] [([[pi p1.kind, pi p1.scale, .ro (eField.els p1.fields)]] : List (List PV))[0]? = some [pi p1.kind, pi p1.scale, .ro (eField.els p1.fields)]] (by kernel_rfl) (⟨rfl, trivial⟩) ?_
        refine XO.cal 118 [.ag [ci p1.kind, ci p1.scale, cl eField p1.fields]] (vi r2) [(25, vi r2), (1, vi p2), (2, .one (.pt 0 0 0 0)), (3, .one (.pv (.rp [[pi p1.kind, pi p1.scale, .ro (eField.els p1.fields)]] 0 0))), (24, .ag [ci p1.kind, ci p1.scale, cl eField p1.fields])] (by kernel_rfl) (c_ref1_shape _ _ c16) rfl rfl (by kernel_rfl) ?_
        refine XO.go [] 1 [1,2,3,7] [] [(1, vi p2), (2, .one (.pt 0 0 0 0)), (3, .one (.pv (.rp [[pi p1.kind, pi p1.scale, .ro (eField.els p1.fields)]] 0 0))), (7, vi r2)] [.box [ci z1]] [] (by kernel_rfl) trivial ?_
        refine XO.done (by kernel_rfl) ?_
        refine hK15 _ _ ?_
        refine XW.seq (x := cd Tryd.f85 [1,1,1,0,1,0]) (y := cd Tryd.f85 [1,1,1,0,1,1]) (by kernel_rfl) fun K17 hK17 => ?_
        refine XW.reg (by kernel_rfl) ?_
        refine XO.go [] 2 [1,2,3,7,27] [] [(1, vi p2), (2, .one (.pt 0 0 0 0)), (3, .one (.pv (.rp [[pi p1.kind, pi p1.scale, .ro (eField.els p1.fields)]] 0 0))), (7, vi r2), (27, vb (r2 != (0 : Int)))] [.box [ci z1]] [] (by kernel_rfl) trivial ?_
        refine XO.done (by kernel_rfl) ?_
        refine hK17 _ _ ?_
        refine XW.cond (x := .tmp 27) (a := cd Tryd.f85 [1,1,1,0,1,1,0]) (b := cd Tryd.f85 [1,1,1,0,1,1,1]) (t := (r2 != (0 : Int))) (by kernel_rfl) (by kernel_rfl) (fun b18 => ?_) (fun b18 => ?_)
        · have h := ift_t b18 h
          refine XW.seq (x := cd Tryd.f85 [1,1,1,0,1,1,0,0]) (y := cd Tryd.f85 [1,1,1,0,1,1,0,1]) (by kernel_rfl) fun K19 hK19 => ?_
          refine XW.reg (by kernel_rfl) ?_
          refine XO.go [] 2 [6] [] [(6, vi r2)] [.box [ci z1]] [] (by kernel_rfl) trivial ?_
          refine XO.done (by kernel_rfl) ?_
          refine hK19 _ _ ?_
          refine XW.ret (by kernel_rfl) ?_
          obtain rfl := Option.some.inj h
          exact FinM.fin (.inr rfl) [] [vi r2] [] (by kernel_rfl) trivial (by kernel_rfl) (by kernel_rfl) (.one (.rfl _ rfl))
        · have h := ift_f b18 h
          refine XW.skip (by kernel_rfl) ?_
          refine hK14 _ _ ?_
          refine XW.seq (x := cd Tryd.f85 [1,1,1,1,0]) (y := cd Tryd.f85 [1,1,1,1,1]) (by kernel_rfl) fun K20 hK20 => ?_
          have hJ2 : ∀ (z3 : Int), ref1_checkType_j2 z3 = some r → ∀ fr1 st1, Sub 49 1 [] fr1 st1 [] [.box [ci z3]] → K20 fr1 st1 := by
            intro z3 h fr1 st1 hS
            unfold ref1_checkType_j2 at h
            refine hK20 _ _ (XW.sub hS ?_)
            refine XW.seq (x := cd Tryd.f85 [1,1,1,1,1,0]) (y := cd Tryd.f85 [1,1,1,1,1,1]) (by kernel_rfl) fun K33 hK33 => ?_
            refine XW.reg (by kernel_rfl) ?_
            refine XO.go [] 1 [6] [] [(6, vi (0 : Int))] [.box [ci z3]] [] (by kernel_rfl) trivial ?_
            refine XO.done (by kernel_rfl) ?_
            refine hK33 _ _ ?_
            refine XW.ret (by kernel_rfl) ?_
            obtain rfl := Option.some.inj h
            exact FinM.fin (.inr rfl) [] [vi (0 : Int)] [] (by kernel_rfl) trivial (by kernel_rfl) (by kernel_rfl) (.one (.rfl _ rfl))
          refine XW.seq (x := cd Tryd.f85 [1,1,1,1,0,0]) (y := cd Tryd.f85 [1,1,1,1,0,1]) (by kernel_rfl) fun K21 hK21 => ?_
          refine XW.reg (by kernel_rfl) ?_
          refine XO.go [] 3 [1,2,3,31] [[pi p1.kind, pi p1.scale, .ro (eField.els p1.fields)]] [(1, vi p2), (2, .one (.pt 0 0 0 0)), (3, .one (.pv (.rp [[pi p1.kind, pi p1.scale, .ro (eField.els p1.fields)]] 0 0))), (31, vi ((eField.els p1.fields).length : Int))] [.box [ci z1]] [([[pi p1.kind, pi p1.scale, .ro (eField.els p1.fields)]] : List (List PV))[0]? = some [pi p1.kind, pi p1.scale, .ro (eField.els p1.fields)]] (by kernel_rfl) (⟨rfl, trivial⟩) ?_
          rw [eField.len p1.fields]
          refine XO.go [] 1 [1,2,3,31,32] [] [(1, vi p2), (2, .one (.pt 0 0 0 0)), (3, .one (.pv (.rp [[pi p1.kind, pi p1.scale, .ro (eField.els p1.fields)]] 0 0))), (31, vi (p1.fields.length : Int)), (32, vi (0 : Int))] [.box [ci z1]] [] (by kernel_rfl) trivial ?_
          refine XO.done (by kernel_rfl) ?_
          refine hK21 _ _ ?_
          refine XW.block (id := 0) (x := cd Tryd.f85 [1,1,1,1,0,1,0]) (by kernel_rfl) ?_
          refine XW.rounds' BIG (x := cd Tryd.f85 [1,1,1,1,0,1,0,0]) (by kernel_rfl) fun Q1 hQ1 => ?_
          have hL1 : ∀ (k1 : Nat) (z2 : Int) (x1 : Int), ref1_checkType_l1 (ref1_checkType k0) p1 p2 k1 z2 x1 = some r → XR Tryd.prog 49 1 [] (cd Tryd.f85 [1,1,1,1,0,1,0,0]) Q1 k1 [(1, vi p2), (2, .one (.pt 0 0 0 0)), (3, .one (.pv (.rp [[pi p1.kind, pi p1.scale, .ro (eField.els p1.fields)]] 0 0))), (31, vi (p1.fields.length : Int)), (32, vi x1)] [.box [ci z2]] := by
            intro k1
            induction k1 with
            | zero => intro z2 x1 h; rw [ref1_checkType_l1.eq_1] at h; cases h
            | succ k1 ih1 =>
              intro z2 x1 h
              rw [ref1_checkType_l1.eq_2] at h
              refine XW.seq (x := cd Tryd.f85 [1,1,1,1,0,1,0,0,0]) (y := cd Tryd.f85 [1,1,1,1,0,1,0,0,1]) (by kernel_rfl) fun K22 hK22 => ?_
              refine XW.reg (by kernel_rfl) ?_
              refine XO.go [] 1 [1,2,3,31,32,33] [] [(1, vi p2), (2, .one (.pt 0 0 0 0)), (3, .one (.pv (.rp [[pi p1.kind, pi p1.scale, .ro (eField.els p1.fields)]] 0 0))), (31, vi (p1.fields.length : Int)), (32, vi x1), (33, vb (decide (x1 < (p1.fields.length : Int))))] [.box [ci z2]] [] (by kernel_rfl) trivial ?_
              refine XO.done (by kernel_rfl) ?_
              refine hK22 _ _ ?_
              refine XW.seq (x := cd Tryd.f85 [1,1,1,1,0,1,0,0,1,0]) (y := cd Tryd.f85 [1,1,1,1,0,1,0,0,1,1]) (by kernel_rfl) fun K23 hK23 => ?_
              refine XW.cond (x := .tmp 33) (a := cd Tryd.f85 [1,1,1,1,0,1,0,0,1,0,0]) (b := cd Tryd.f85 [1,1,1,1,0,1,0,0,1,0,1]) (t := (decide (x1 < (p1.fields.length : Int)))) (by kernel_rfl) (by kernel_rfl) (fun b24 => ?_) (fun b24 => ?_)
              · have h := ift_t b24 h
                refine XW.skip (by kernel_rfl) ?_
                refine hK23 _ _ ?_
                refine XW.seq (x := cd Tryd.f85 [1,1,1,1,0,1,0,0,1,1,0]) (y := cd Tryd.f85 [1,1,1,1,0,1,0,0,1,1,1]) (by kernel_rfl) fun K25 hK25 => ?_
                refine XW.block (id := 1) (x := cd Tryd.f85 [1,1,1,1,0,1,0,0,1,1,0,0]) (by kernel_rfl) ?_
                refine XW.seq (x := cd Tryd.f85 [1,1,1,1,0,1,0,0,1,1,0,0,0]) (y := cd Tryd.f85 [1,1,1,1,0,1,0,0,1,1,0,0,1]) (by kernel_rfl) fun K26 hK26 => ?_
                refine XW.reg (by kernel_rfl) ?_
                refine XO.go [] 2 [1,2,3,8,31,32] [] [(1, vi p2), (2, .one (.pt 0 0 0 0)), (3, .one (.pv (.rp [[pi p1.kind, pi p1.scale, .ro (eField.els p1.fields)]] 0 0))), (8, vi x1), (31, vi (p1.fields.length : Int)), (32, vi x1)] [.box [ci z2]] [] (by kernel_rfl) trivial ?_
                refine XO.done (by kernel_rfl) ?_
                refine hK26 _ _ ?_
                refine XW.seq (x := cd Tryd.f85 [1,1,1,1,0,1,0,0,1,1,0,0,1,0]) (y := cd Tryd.f85 [1,1,1,1,0,1,0,0,1,1,0,0,1,1]) (by kernel_rfl) fun K27 hK27 => ?_
                obtain ⟨e1, a28, h⟩ := bnd_some h
                obtain ⟨r3, c29, h⟩ := bnd_some h
                refine XW.reg (by kernel_rfl) ?_
                refine XO.go [] 9 [1,2,3,31,32,40,42,43] [[pi p1.kind, pi p1.scale, .ro (eField.els p1.fields)], [pi e1.id, .s (.string e1.name), .s (.bool e1.need), pi e1.type.kind, pi e1.type.scale, .ro (eField.els e1.type.fields)]] [(1, vi p2), (2, .one (.pt 0 0 0 0)), (3, .one (.pv (.rp [[pi p1.kind, pi p1.scale, .ro (eField.els p1.fields)]] 0 0))), (31, vi (p1.fields.length : Int)), (32, vi x1), (40, .ag [ci e1.type.kind, ci e1.type.scale, cl eField e1.type.fields]), (42, vi (IntKind.i64.wrap (p2 + (1 : Int)))), (43, .one (.pt 0 0 0 0))] [.box [ci z2]] [([[pi p1.kind, pi p1.scale, .ro (eField.els p1.fields)]] : List (List PV))[0]? = some [pi p1.kind, pi p1.scale, .ro (eField.els p1.fields)], 0 ≤ x1 ∧ x1 < ((eField.els p1.fields).length : Int) ∧ elemsOk 6 (eField.els p1.fields), (eField.els p1.fields)[x1.toNat]? = some [pi e1.id, .s (.string e1.name), .s (.bool e1.need), pi e1.type.kind, pi e1.type.scale, .ro (eField.els e1.type.fields)]] (by kernel_rfl) (⟨rfl, eField.inb a28, ((eField.get a28).trans (by rcases e1 with ⟨_, _, _, ⟨_, _, _⟩⟩; rfl)), trivial⟩) ?_
                refine XO.calm 85 [.ag [ci e1.type.kind, ci e1.type.scale, cl eField e1.type.fields], vi (IntKind.i64.wrap (p2 + (1 : Int))), .one (.pt 0 0 0 0)] [.box [ci z2]] [.box [ci r3.2]] (vi r3.1) [0] [(44, vi r3.1), (1, vi p2), (2, .one (.pt 0 0 0 0)), (3, .one (.pv (.rp [[pi p1.kind, pi p1.scale, .ro (eField.els p1.fields)]] 0 0))), (31, vi (p1.fields.length : Int)), (32, vi x1), (40, .ag [ci e1.type.kind, ci e1.type.scale, cl eField e1.type.fields]), (42, vi (IntKind.i64.wrap (p2 + (1 : Int)))), (43, .one (.pt 0 0 0 0))] [.box [ci r3.2]] (by kernel_rfl) (c_ref1_checkType k0 _ _ _ _ c29) (by kernel_rfl) (by kernel_rfl) (by kernel_rfl) (by kernel_rfl) ?_
                refine XO.go [] 1 [1,2,3,9,31,32] [] [(1, vi p2), (2, .one (.pt 0 0 0 0)), (3, .one (.pv (.rp [[pi p1.kind, pi p1.scale, .ro (eField.els p1.fields)]] 0 0))), (9, vi r3.1), (31, vi (p1.fields.length : Int)), (32, vi x1)] [.box [ci r3.2]] [] (by kernel_rfl) trivial ?_
                refine XO.done (by kernel_rfl) ?_
                refine hK27 _ _ ?_
                refine XW.seq (x := cd Tryd.f85 [1,1,1,1,0,1,0,0,1,1,0,0,1,1,0]) (y := cd Tryd.f85 [1,1,1,1,0,1,0,0,1,1,0,0,1,1,1]) (by kernel_rfl) fun K30 hK30 => ?_
                refine XW.reg (by kernel_rfl) ?_
                refine XO.go [] 2 [1,2,3,9,31,32,46] [] [(1, vi p2), (2, .one (.pt 0 0 0 0)), (3, .one (.pv (.rp [[pi p1.kind, pi p1.scale, .ro (eField.els p1.fields)]] 0 0))), (9, vi r3.1), (31, vi (p1.fields.length : Int)), (32, vi x1), (46, vb (r3.1 != (0 : Int)))] [.box [ci r3.2]] [] (by kernel_rfl) trivial ?_
                refine XO.done (by kernel_rfl) ?_
                refine hK30 _ _ ?_
                refine XW.cond (x := .tmp 46) (a := cd Tryd.f85 [1,1,1,1,0,1,0,0,1,1,0,0,1,1,1,0]) (b := cd Tryd.f85 [1,1,1,1,0,1,0,0,1,1,0,0,1,1,1,1]) (t := (r3.1 != (0 : Int))) (by kernel_rfl) (by kernel_rfl) (fun b31 => ?_) (fun b31 => ?_)
                · have h := ift_t b31 h
                  refine XW.seq (x := cd Tryd.f85 [1,1,1,1,0,1,0,0,1,1,0,0,1,1,1,0,0]) (y := cd Tryd.f85 [1,1,1,1,0,1,0,0,1,1,0,0,1,1,1,0,1]) (by kernel_rfl) fun K32 hK32 => ?_
                  refine XW.reg (by kernel_rfl) ?_
                  refine XO.go [] 2 [6] [] [(6, vi r3.1)] [.box [ci r3.2]] [] (by kernel_rfl) trivial ?_
                  refine XO.done (by kernel_rfl) ?_
                  refine hK32 _ _ ?_
                  refine XW.ret (by kernel_rfl) ?_
                  refine hQ1 _ _ _ ?_
                  obtain rfl := Option.some.inj h
                  exact FinM.fin (.inr rfl) [] [vi r3.1] [] (by kernel_rfl) trivial (by kernel_rfl) (by kernel_rfl) (.one (.rfl _ rfl))
                · have h := ift_f b31 h
                  refine XW.skip (by kernel_rfl) ?_
                  refine hK25 _ _ ?_
                  refine XW.reg (by kernel_rfl) ?_
                  refine XO.go [] 2 [1,2,3,31,32] [] [(1, vi p2), (2, .one (.pt 0 0 0 0)), (3, .one (.pv (.rp [[pi p1.kind, pi p1.scale, .ro (eField.els p1.fields)]] 0 0))), (31, vi (p1.fields.length : Int)), (32, vi (IntKind.i64.wrap (x1 + (1 : Int))))] [.box [ci r3.2]] [] (by kernel_rfl) trivial ?_
                  refine XO.done (by kernel_rfl) ?_
                  exact XR.sub (Sub.pick [1,2,3,31,32] (by kernel_rfl)) (ih1 r3.2 (IntKind.i64.wrap (x1 + (1 : Int))) h)
              · have h := ift_f b24 h
                refine XW.exit (id := 0) (by kernel_rfl) ?_
                refine hQ1 _ _ _ ?_
                exact hJ2 z2 h _ _ (Sub.pick [] (by kernel_rfl))
          exact XR.sub (Sub.pick [1,2,3,31,32] (by kernel_rfl)) (hL1 BIG z1 (0 : Int) h)
      refine XW.seq (x := cd Tryd.f85 [1,1,0,0]) (y := cd Tryd.f85 [1,1,0,1]) (by kernel_rfl) fun K7 hK7 => ?_
      obtain ⟨r1, c8, h⟩ := bnd_some h
      refine XW.reg (by kernel_rfl) ?_
      refine XO.go [] 2 [1,2,3,13] [[pi p1.kind, pi p1.scale, .ro (eField.els p1.fields)]] [(1, vi p2), (2, .one (.pt 0 0 0 0)), (3, .one (.pv (.rp [[pi p1.kind, pi p1.scale, .ro (eField.els p1.fields)]] 0 0))), (13, vi p1.kind)] [.box [ci p3]] [([[pi p1.kind, pi p1.scale, .ro (eField.els p1.fields)]] : List (List PV))[0]? = some [pi p1.kind, pi p1.scale, .ro (eField.els p1.fields)]] (by kernel_rfl) (⟨rfl, trivial⟩) ?_
      refine XO.cal 73 [vi p1.kind] (vb r1) [(14, vb r1), (1, vi p2), (2, .one (.pt 0 0 0 0)), (3, .one (.pv (.rp [[pi p1.kind, pi p1.scale, .ro (eField.els p1.fields)]] 0 0))), (13, vi p1.kind)] (by kernel_rfl) (c_ref1_Leaf _ _ c8) rfl rfl (by kernel_rfl) ?_
      refine XO.done (by kernel_rfl) ?_
      refine hK7 _ _ ?_
      refine XW.cond (x := .tmp 14) (a := cd Tryd.f85 [1,1,0,1,0]) (b := cd Tryd.f85 [1,1,0,1,1]) (t := r1) (by kernel_rfl) (by kernel_rfl) (fun b9 => ?_) (fun b9 => ?_)
      · have h := ift_t b9 h
        refine XW.seq (x := cd Tryd.f85 [1,1,0,1,0,0]) (y := cd Tryd.f85 [1,1,0,1,0,1]) (by kernel_rfl) fun K10 hK10 => ?_
        refine XW.seq (x := cd Tryd.f85 [1,1,0,1,0,0,0]) (y := cd Tryd.f85 [1,1,0,1,0,0,1]) (by kernel_rfl) fun K11 hK11 => ?_
        refine XW.reg (by kernel_rfl) ?_
        refine XO.go [] 4 [1,2,3,18] [] [(1, vi p2), (2, .one (.pt 0 0 0 0)), (3, .one (.pv (.rp [[pi p1.kind, pi p1.scale, .ro (eField.els p1.fields)]] 0 0))), (18, vb (p3 == (40 : Int)))] [.box [ci p3]] [] (by kernel_rfl) trivial ?_
        refine XO.done (by kernel_rfl) ?_
        refine hK11 _ _ ?_
        refine XW.cond (x := .tmp 18) (a := cd Tryd.f85 [1,1,0,1,0,0,1,0]) (b := cd Tryd.f85 [1,1,0,1,0,0,1,1]) (t := (p3 == (40 : Int))) (by kernel_rfl) (by kernel_rfl) (fun b12 => ?_) (fun b12 => ?_)
        · have h := ift_t b12 h
          refine XW.seq (x := cd Tryd.f85 [1,1,0,1,0,0,1,0,0]) (y := cd Tryd.f85 [1,1,0,1,0,0,1,0,1]) (by kernel_rfl) fun K13 hK13 => ?_
          refine XW.reg (by kernel_rfl) ?_
          refine XO.go [] 1 [6] [] [(6, vi (7 : Int))] [.box [ci p3]] [] (by kernel_rfl) trivial ?_
          refine XO.done (by kernel_rfl) ?_
          refine hK13 _ _ ?_
          refine XW.ret (by kernel_rfl) ?_
          obtain rfl := Option.some.inj h
          exact FinM.fin (.inr rfl) [] [vi (7 : Int)] [] (by kernel_rfl) trivial (by kernel_rfl) (by kernel_rfl) (.one (.rfl _ rfl))
        · have h := ift_f b12 h
          refine XW.skip (by kernel_rfl) ?_
          refine hK10 _ _ ?_
          refine XW.reg (by kernel_rfl) ?_
          refine XO.go [] 6 [1,2,3] [] [(1, vi p2), (2, .one (.pt 0 0 0 0)), (3, .one (.pv (.rp [[pi p1.kind, pi p1.scale, .ro (eField.els p1.fields)]] 0 0)))] [.box [ci (IntKind.i64.wrap (p3 + (1 : Int)))]] [] (by kernel_rfl) trivial ?_
          refine XO.done (by kernel_rfl) ?_
          exact hJ1 (IntKind.i64.wrap (p3 + (1 : Int))) h _ _ (Sub.pick [1,2,3] (by kernel_rfl))
      · have h := ift_f b9 h
        refine XW.skip (by kernel_rfl) ?_
        exact hJ1 p3 h _ _ (Sub.pick [1,2,3] (by kernel_rfl))

def ref1_CheckType (p1 : GType) : Option Int :=
    bnd (ref1_checkType BIG p1 (1 : Int) (0 : Int)) fun r1 =>
    some r1.1


theorem c_ref1_CheckType (p1 : GType) (r : Int) (h : ref1_CheckType p1 = some r) : PC Tryd.prog 36 [.ag [ci p1.kind, ci p1.scale, cl eField p1.fields]] (vi r) := by
  unfold ref1_CheckType at h
  refine PC.of (n := 6) (fn := Tryd.f36) (c := cd Tryd.f36 []) (by kernel_rfl) (by kernel_rfl) (by kernel_rfl) (Nat.le_of_ble_eq_true rfl) ?_
  refine XW.seq (x := cd Tryd.f36 [0]) (y := cd Tryd.f36 [1]) (by kernel_rfl) fun K1 hK1 => ?_
  refine XW.reg (by kernel_rfl) ?_
  refine XO.go [3] 2 [1] [] [(1, .one (.pv (.rp [[pi p1.kind, pi p1.scale, .ro (eField.els p1.fields)]] 0 0)))] [] [] (by kernel_rfl) trivial ?_
  refine XO.done (by kernel_rfl) ?_
  refine hK1 _ _ ?_
  refine XW.seq (x := cd Tryd.f36 [1,0]) (y := cd Tryd.f36 [1,1]) (by kernel_rfl) fun K2 hK2 => ?_
  refine XW.reg (by kernel_rfl) ?_
  refine XO.go [3] 2 [1,3] [] [(1, .one (.pv (.rp [[pi p1.kind, pi p1.scale, .ro (eField.els p1.fields)]] 0 0))), (3, .one (.pt 0 0 0 0))] [.box [ci (0 : Int)]] [] (by kernel_rfl) trivial ?_
  refine XO.done (by kernel_rfl) ?_
  refine hK2 _ _ ?_
  refine XW.seq (x := cd Tryd.f36 [1,1,0]) (y := cd Tryd.f36 [1,1,1]) (by kernel_rfl) fun K3 hK3 => ?_
  obtain ⟨r1, c4, h⟩ := bnd_some h
  refine XW.reg (by kernel_rfl) ?_
  refine XO.go [3] 1 [3,4] [[pi p1.kind, pi p1.scale, .ro (eField.els p1.fields)]] [(3, .one (.pt 0 0 0 0)), (4, .ag [ci p1.kind, ci p1.scale, cl eField p1.fields])] [.box [ci (0 : Int)]] [([[pi p1.kind, pi p1.scale, .ro (eField.els p1.fields)]] : List (List PV))[0]? = some [pi p1.kind, pi p1.scale, .ro (eField.els p1.fields)]] (by kernel_rfl) (⟨rfl, trivial⟩) ?_
  refine XO.calm 85 [.ag [ci p1.kind, ci p1.scale, cl eField p1.fields], vi (1 : Int), .one (.pt 0 0 0 0)] [.box [ci (0 : Int)]] [.box [ci r1.2]] (vi r1.1) [0] [(5, vi r1.1), (3, .one (.pt 0 0 0 0)), (4, .ag [ci p1.kind, ci p1.scale, cl eField p1.fields])] [.box [ci r1.2]] (by kernel_rfl) (c_ref1_checkType BIG _ _ _ _ c4) (by kernel_rfl) (by kernel_rfl) (by kernel_rfl) (by kernel_rfl) ?_
  refine XO.go [3] 1 [2] [] [(2, vi r1.1)] [.box [ci r1.2]] [] (by kernel_rfl) trivial ?_
  refine XO.done (by kernel_rfl) ?_
  refine hK3 _ _ ?_
  refine XW.ret (by kernel_rfl) ?_
  obtain rfl := Option.some.inj h
  exact FinP.fin (.inr rfl) [] [vi r1.1] [] (by kernel_rfl) trivial (.one (.rfl _ rfl))

def ref1_of_j3 (rec1 : Int → Option Bool) (q_ref1_of : GType → GValue → Option Bool) (p1 : GType) (p2 : GValue) (x3 : Int) (x4 : Int) : Option Bool :=
    bnd (at? p1.fields x4) fun e1 =>
    bnd (at? p2.items x3) fun e2 =>
    bnd (q_ref1_of e1.type e2) fun r1 =>
    ift (!r1)
      (some false)
      (rec1 (IntKind.i64.wrap (x3 + (1 : Int))))

def ref1_of_j4 : Option Bool :=
    some true

def ref1_of_l1 (q_ref1_of : GType → GValue → Option Bool) (p1 : GType) (p2 : GValue) : Nat → Int → Option Bool
  | 0, _ => none
  | k1 + 1, x3 =>
    ift (decide (x3 < (p2.items.length : Int)))
      (ift (p1.kind == (6 : Int))
         (ref1_of_j3 (ref1_of_l1 q_ref1_of p1 p2 k1) q_ref1_of p1 p2 x3 (0 : Int))
         (ref1_of_j3 (ref1_of_l1 q_ref1_of p1 p2 k1) q_ref1_of p1 p2 x3 x3))
      (ref1_of_j4)

def ref1_of_j2 (q_ref1_of : GType → GValue → Option Bool) (p1 : GType) (p2 : GValue) (x2 : Bool) : Option Bool :=
    ift x2
      (some false)
      (ref1_of_l1 q_ref1_of p1 p2 BIG (0 : Int))

def ref1_of_j1 (q_ref1_of : GType → GValue → Option Bool) (p1 : GType) (p2 : GValue) (x1 : Bool) : Option Bool :=
    ift x1
      (some false)
      (ift (p1.kind == (7 : Int))
         (ref1_of_j2 q_ref1_of p1 p2 ((p2.items.length : Int) != (p1.fields.length : Int)))
         (ref1_of_j2 q_ref1_of p1 p2 false))

def ref1_of : Nat → GType → GValue → Option Bool
  | 0, _, _ => none
  | k0 + 1, p1, p2 =>
    ift (p2.kind == (0 : Int))
      (some true)
      (ift (p2.kind != p1.kind)
         (ref1_of_j1 (ref1_of k0) p1 p2 true)
         (ref1_of_j1 (ref1_of k0) p1 p2 (p2.scale != p1.scale)))


theorem c_ref1_of : ∀ (k0 : Nat) (p1 : GType) (p2 : GValue) (r : Bool), ref1_of k0 p1 p2 = some r → PC Tryd.prog 37 [.ag [ci p1.kind, ci p1.scale, cl eField p1.fields], .ag [ci p2.kind, ci p2.n, ci p2.scale, cst p2.s, cl eValue p2.items]] (vb r)
  | 0, _, _, r, h => by rw [ref1_of.eq_1] at h; cases h
  | k0 + 1, p1, p2, r, h => by
    rw [ref1_of.eq_2] at h
    refine PC.of (n := 58) (fn := Tryd.f37) (c := cd Tryd.f37 []) (by kernel_rfl) (by kernel_rfl) (by kernel_rfl) (Nat.le_of_ble_eq_true rfl) ?_
    refine XW.seq (x := cd Tryd.f37 [0]) (y := cd Tryd.f37 [1]) (by kernel_rfl) fun K1 hK1 => ?_
    refine XW.reg (by kernel_rfl) ?_
    refine XO.go [] 3 [2,3] [] [(2, .one (.pv (.rp [[pi p1.kind, pi p1.scale, .ro (eField.els p1.fields)]] 0 0))), (3, .one (.pv (.rp [[pi p2.kind, pi p2.n, pi p2.scale, .s (.string p2.s), .ro (eValue.els p2.items)]] 0 0)))] [] [] (by kernel_rfl) trivial ?_
    refine XO.done (by kernel_rfl) ?_
    refine hK1 _ _ ?_
    refine XW.seq (x := cd Tryd.f37 [1,0]) (y := cd Tryd.f37 [1,1]) (by kernel_rfl) fun K2 hK2 => ?_
    refine XW.seq (x := cd Tryd.f37 [1,0,0]) (y := cd Tryd.f37 [1,0,1]) (by kernel_rfl) fun K3 hK3 => ?_
    refine XW.reg (by kernel_rfl) ?_
    refine XO.go [] 3 [2,3,9] [[pi p2.kind, pi p2.n, pi p2.scale, .s (.string p2.s), .ro (eValue.els p2.items)]] [(2, .one (.pv (.rp [[pi p1.kind, pi p1.scale, .ro (eField.els p1.fields)]] 0 0))), (3, .one (.pv (.rp [[pi p2.kind, pi p2.n, pi p2.scale, .s (.string p2.s), .ro (eValue.els p2.items)]] 0 0))), (9, vb (p2.kind == (0 : Int)))] [] [([[pi p2.kind, pi p2.n, pi p2.scale, .s (.string p2.s), .ro (eValue.els p2.items)]] : List (List PV))[0]? = some [pi p2.kind, pi p2.n, pi p2.scale, .s (.string p2.s), .ro (eValue.els p2.items)]] (by kernel_rfl) (⟨rfl, trivial⟩) ?_
    refine XO.done (by kernel_rfl) ?_
    refine hK3 _ _ ?_
    refine XW.cond (x := .tmp 9) (a := cd Tryd.f37 [1,0,1,0]) (b := cd Tryd.f37 [1,0,1,1]) (t := (p2.kind == (0 : Int))) (by kernel_rfl) (by kernel_rfl) (fun b4 => ?_) (fun b4 => ?_)
    · have h := ift_t b4 h
      refine XW.seq (x := cd Tryd.f37 [1,0,1,0,0]) (y := cd Tryd.f37 [1,0,1,0,1]) (by kernel_rfl) fun K5 hK5 => ?_
      refine XW.reg (by kernel_rfl) ?_
      refine XO.go [] 1 [4] [] [(4, vb true)] [] [] (by kernel_rfl) trivial ?_
      refine XO.done (by kernel_rfl) ?_
      refine hK5 _ _ ?_
      refine XW.ret (by kernel_rfl) ?_
      obtain rfl := Option.some.inj h
      exact FinP.fin (.inr rfl) [] [vb true] [] (by kernel_rfl) trivial (.one (.rfl _ rfl))
    · have h := ift_f b4 h
      refine XW.skip (by kernel_rfl) ?_
      refine hK2 _ _ ?_
      refine XW.seq (x := cd Tryd.f37 [1,1,0]) (y := cd Tryd.f37 [1,1,1]) (by kernel_rfl) fun K6 hK6 => ?_
      refine XW.seq (x := cd Tryd.f37 [1,1,0,0]) (y := cd Tryd.f37 [1,1,0,1]) (by kernel_rfl) fun K7 hK7 => ?_
      have hJ1 : ∀ (x1 : Bool), ref1_of_j1 (ref1_of k0) p1 p2 x1 = some r → ∀ fr1 st1, Sub 58 0 [] fr1 st1 [(2, .one (.pv (.rp [[pi p1.kind, pi p1.scale, .ro (eField.els p1.fields)]] 0 0))), (3, .one (.pv (.rp [[pi p2.kind, pi p2.n, pi p2.scale, .s (.string p2.s), .ro (eValue.els p2.items)]] 0 0))), (21, vb x1)] [] → K7 fr1 st1 := by
        intro x1 h fr1 st1 hS
        unfold ref1_of_j1 at h
        refine hK7 _ _ (XW.sub hS ?_)
        refine XW.cond (x := .tmp 21) (a := cd Tryd.f37 [1,1,0,1,0]) (b := cd Tryd.f37 [1,1,0,1,1]) (t := x1) (by kernel_rfl) (by kernel_rfl) (fun b9 => ?_) (fun b9 => ?_)
        · have h := ift_t b9 h
          refine XW.seq (x := cd Tryd.f37 [1,1,0,1,0,0]) (y := cd Tryd.f37 [1,1,0,1,0,1]) (by kernel_rfl) fun K10 hK10 => ?_
          refine XW.reg (by kernel_rfl) ?_
          refine XO.go [] 1 [4] [] [(4, vb false)] [] [] (by kernel_rfl) trivial ?_
          refine XO.done (by kernel_rfl) ?_
          refine hK10 _ _ ?_
          refine XW.ret (by kernel_rfl) ?_
          obtain rfl := Option.some.inj h
          exact FinP.fin (.inr rfl) [] [vb false] [] (by kernel_rfl) trivial (.one (.rfl _ rfl))
        · have h := ift_f b9 h
          refine XW.skip (by kernel_rfl) ?_
          refine hK6 _ _ ?_
          refine XW.seq (x := cd Tryd.f37 [1,1,1,0]) (y := cd Tryd.f37 [1,1,1,1]) (by kernel_rfl) fun K11 hK11 => ?_
          refine XW.seq (x := cd Tryd.f37 [1,1,1,0,0]) (y := cd Tryd.f37 [1,1,1,0,1]) (by kernel_rfl) fun K12 hK12 => ?_
          have hJ2 : ∀ (x2 : Bool), ref1_of_j2 (ref1_of k0) p1 p2 x2 = some r → ∀ fr1 st1, Sub 58 0 [] fr1 st1 [(2, .one (.pv (.rp [[pi p1.kind, pi p1.scale, .ro (eField.els p1.fields)]] 0 0))), (3, .one (.pv (.rp [[pi p2.kind, pi p2.n, pi p2.scale, .s (.string p2.s), .ro (eValue.els p2.items)]] 0 0))), (33, vb x2)] [] → K12 fr1 st1 := by
            intro x2 h fr1 st1 hS
            unfold ref1_of_j2 at h
            refine hK12 _ _ (XW.sub hS ?_)
            refine XW.cond (x := .tmp 33) (a := cd Tryd.f37 [1,1,1,0,1,0]) (b := cd Tryd.f37 [1,1,1,0,1,1]) (t := x2) (by kernel_rfl) (by kernel_rfl) (fun b14 => ?_) (fun b14 => ?_)
            · have h := ift_t b14 h
              refine XW.seq (x := cd Tryd.f37 [1,1,1,0,1,0,0]) (y := cd Tryd.f37 [1,1,1,0,1,0,1]) (by kernel_rfl) fun K15 hK15 => ?_
              refine XW.reg (by kernel_rfl) ?_
              refine XO.go [] 1 [4] [] [(4, vb false)] [] [] (by kernel_rfl) trivial ?_
              refine XO.done (by kernel_rfl) ?_
              refine hK15 _ _ ?_
              refine XW.ret (by kernel_rfl) ?_
              obtain rfl := Option.some.inj h
              exact FinP.fin (.inr rfl) [] [vb false] [] (by kernel_rfl) trivial (.one (.rfl _ rfl))
            · have h := ift_f b14 h
              refine XW.skip (by kernel_rfl) ?_
              refine hK11 _ _ ?_
              refine XW.seq (x := cd Tryd.f37 [1,1,1,1,0]) (y := cd Tryd.f37 [1,1,1,1,1]) (by kernel_rfl) fun K16 hK16 => ?_
              have hJ4 : ∀ (_ : Unit), ref1_of_j4 = some r → ∀ fr1 st1, Sub 58 0 [] fr1 st1 [] [] → K16 fr1 st1 := by
                intro _ h fr1 st1 hS
                unfold ref1_of_j4 at h
                refine hK16 _ _ (XW.sub hS ?_)
                refine XW.seq (x := cd Tryd.f37 [1,1,1,1,1,0]) (y := cd Tryd.f37 [1,1,1,1,1,1]) (by kernel_rfl) fun K33 hK33 => ?_
                refine XW.reg (by kernel_rfl) ?_
                refine XO.go [] 1 [4] [] [(4, vb true)] [] [] (by kernel_rfl) trivial ?_
                refine XO.done (by kernel_rfl) ?_
                refine hK33 _ _ ?_
                refine XW.ret (by kernel_rfl) ?_
                obtain rfl := Option.some.inj h
                exact FinP.fin (.inr rfl) [] [vb true] [] (by kernel_rfl) trivial (.one (.rfl _ rfl))
              refine XW.seq (x := cd Tryd.f37 [1,1,1,1,0,0]) (y := cd Tryd.f37 [1,1,1,1,0,1]) (by kernel_rfl) fun K17 hK17 => ?_
              refine XW.reg (by kernel_rfl) ?_
              refine XO.go [] 3 [2,3,36] [[pi p2.kind, pi p2.n, pi p2.scale, .s (.string p2.s), .ro (eValue.els p2.items)]] [(2, .one (.pv (.rp [[pi p1.kind, pi p1.scale, .ro (eField.els p1.fields)]] 0 0))), (3, .one (.pv (.rp [[pi p2.kind, pi p2.n, pi p2.scale, .s (.string p2.s), .ro (eValue.els p2.items)]] 0 0))), (36, vi ((eValue.els p2.items).length : Int))] [] [([[pi p2.kind, pi p2.n, pi p2.scale, .s (.string p2.s), .ro (eValue.els p2.items)]] : List (List PV))[0]? = some [pi p2.kind, pi p2.n, pi p2.scale, .s (.string p2.s), .ro (eValue.els p2.items)]] (by kernel_rfl) (⟨rfl, trivial⟩) ?_
              rw [eValue.len p2.items]
              refine XO.go [] 1 [2,3,36,37] [] [(2, .one (.pv (.rp [[pi p1.kind, pi p1.scale, .ro (eField.els p1.fields)]] 0 0))), (3, .one (.pv (.rp [[pi p2.kind, pi p2.n, pi p2.scale, .s (.string p2.s), .ro (eValue.els p2.items)]] 0 0))), (36, vi (p2.items.length : Int)), (37, vi (0 : Int))] [] [] (by kernel_rfl) trivial ?_
              refine XO.done (by kernel_rfl) ?_
              refine hK17 _ _ ?_
              refine XW.block (id := 0) (x := cd Tryd.f37 [1,1,1,1,0,1,0]) (by kernel_rfl) ?_
              refine XW.rounds' BIG (x := cd Tryd.f37 [1,1,1,1,0,1,0,0]) (by kernel_rfl) fun Q1 hQ1 => ?_
              have hL1 : ∀ (k1 : Nat) (x3 : Int), ref1_of_l1 (ref1_of k0) p1 p2 k1 x3 = some r → XR Tryd.prog 58 0 [] (cd Tryd.f37 [1,1,1,1,0,1,0,0]) Q1 k1 [(2, .one (.pv (.rp [[pi p1.kind, pi p1.scale, .ro (eField.els p1.fields)]] 0 0))), (3, .one (.pv (.rp [[pi p2.kind, pi p2.n, pi p2.scale, .s (.string p2.s), .ro (eValue.els p2.items)]] 0 0))), (36, vi (p2.items.length : Int)), (37, vi x3)] [] := by
                intro k1
                induction k1 with
                | zero => intro x3 h; rw [ref1_of_l1.eq_1] at h; cases h
                | succ k1 ih1 =>
                  intro x3 h
                  rw [ref1_of_l1.eq_2] at h
                  refine XW.seq (x := cd Tryd.f37 [1,1,1,1,0,1,0,0,0]) (y := cd Tryd.f37 [1,1,1,1,0,1,0,0,1]) (by kernel_rfl) fun K18 hK18 => ?_
                  refine XW.reg (by kernel_rfl) ?_
                  refine XO.go [] 1 [2,3,36,37,38] [] [(2, .one (.pv (.rp [[pi p1.kind, pi p1.scale, .ro (eField.els p1.fields)]] 0 0))), (3, .one (.pv (.rp [[pi p2.kind, pi p2.n, pi p2.scale, .s (.string p2.s), .ro (eValue.els p2.items)]] 0 0))), (36, vi (p2.items.length : Int)), (37, vi x3), (38, vb (decide (x3 < (p2.items.length : Int))))] [] [] (by kernel_rfl) trivial ?_
                  refine XO.done (by kernel_rfl) ?_
                  refine hK18 _ _ ?_
                  refine XW.seq (x := cd Tryd.f37 [1,1,1,1,0,1,0,0,1,0]) (y := cd Tryd.f37 [1,1,1,1,0,1,0,0,1,1]) (by kernel_rfl) fun K19 hK19 => ?_
                  refine XW.cond (x := .tmp 38) (a := cd Tryd.f37 [1,1,1,1,0,1,0,0,1,0,0]) (b := cd Tryd.f37 [1,1,1,1,0,1,0,0,1,0,1]) (t := (decide (x3 < (p2.items.length : Int)))) (by kernel_rfl) (by kernel_rfl) (fun b20 => ?_) (fun b20 => ?_)
                  · have h := ift_t b20 h
                    refine XW.skip (by kernel_rfl) ?_
                    refine hK19 _ _ ?_
                    refine XW.seq (x := cd Tryd.f37 [1,1,1,1,0,1,0,0,1,1,0]) (y := cd Tryd.f37 [1,1,1,1,0,1,0,0,1,1,1]) (by kernel_rfl) fun K21 hK21 => ?_
                    refine XW.block (id := 1) (x := cd Tryd.f37 [1,1,1,1,0,1,0,0,1,1,0,0]) (by kernel_rfl) ?_
                    refine XW.seq (x := cd Tryd.f37 [1,1,1,1,0,1,0,0,1,1,0,0,0]) (y := cd Tryd.f37 [1,1,1,1,0,1,0,0,1,1,0,0,1]) (by kernel_rfl) fun K22 hK22 => ?_
                    refine XW.reg (by kernel_rfl) ?_
                    refine XO.go [] 2 [2,3,5,36,37] [] [(2, .one (.pv (.rp [[pi p1.kind, pi p1.scale, .ro (eField.els p1.fields)]] 0 0))), (3, .one (.pv (.rp [[pi p2.kind, pi p2.n, pi p2.scale, .s (.string p2.s), .ro (eValue.els p2.items)]] 0 0))), (5, vi x3), (36, vi (p2.items.length : Int)), (37, vi x3)] [] [] (by kernel_rfl) trivial ?_
                    refine XO.done (by kernel_rfl) ?_
                    refine hK22 _ _ ?_
                    refine XW.seq (x := cd Tryd.f37 [1,1,1,1,0,1,0,0,1,1,0,0,1,0]) (y := cd Tryd.f37 [1,1,1,1,0,1,0,0,1,1,0,0,1,1]) (by kernel_rfl) fun K23 hK23 => ?_
                    refine XW.reg (by kernel_rfl) ?_
                    refine XO.go [] 2 [2,3,5,6,36,37] [] [(2, .one (.pv (.rp [[pi p1.kind, pi p1.scale, .ro (eField.els p1.fields)]] 0 0))), (3, .one (.pv (.rp [[pi p2.kind, pi p2.n, pi p2.scale, .s (.string p2.s), .ro (eValue.els p2.items)]] 0 0))), (5, vi x3), (6, vi x3), (36, vi (p2.items.length : Int)), (37, vi x3)] [] [] (by kernel_rfl) trivial ?_
                    refine XO.done (by kernel_rfl) ?_
                    refine hK23 _ _ ?_
                    refine XW.seq (x := cd Tryd.f37 [1,1,1,1,0,1,0,0,1,1,0,0,1,1,0]) (y := cd Tryd.f37 [1,1,1,1,0,1,0,0,1,1,0,0,1,1,1]) (by kernel_rfl) fun K24 hK24 => ?_
                    have hJ3 : ∀ (x4 : Int), ref1_of_j3 (ref1_of_l1 (ref1_of k0) p1 p2 k1) (ref1_of k0) p1 p2 x3 x4 = some r → ∀ fr1 st1, Sub 58 0 [] fr1 st1 [(2, .one (.pv (.rp [[pi p1.kind, pi p1.scale, .ro (eField.els p1.fields)]] 0 0))), (3, .one (.pv (.rp [[pi p2.kind, pi p2.n, pi p2.scale, .s (.string p2.s), .ro (eValue.els p2.items)]] 0 0))), (5, vi x3), (6, vi x4), (36, vi (p2.items.length : Int)), (37, vi x3)] [] → K24 fr1 st1 := by
                      intro x4 h fr1 st1 hS
                      unfold ref1_of_j3 at h
                      refine hK24 _ _ (XW.sub hS ?_)
                      refine XW.seq (x := cd Tryd.f37 [1,1,1,1,0,1,0,0,1,1,0,0,1,1,1,0]) (y := cd Tryd.f37 [1,1,1,1,0,1,0,0,1,1,0,0,1,1,1,1]) (by kernel_rfl) fun K27 hK27 => ?_
                      obtain ⟨e1, a28, h⟩ := bnd_some h
                      obtain ⟨e2, a29, h⟩ := bnd_some h
                      obtain ⟨r1, c30, h⟩ := bnd_some h
                      refine XW.drwS 11 [(54, .ag [ci e2.kind, ci e2.n, ci e2.scale, cst e2.s, cl eValue e2.items]), (53, .one (.pv (.rp (eValue.els p2.items) x3.toNat 0))), (52, vi x3), (51, vl eValue p2.items), (50, .one (.pv (.rp [[pi p2.kind, pi p2.n, pi p2.scale, .s (.string p2.s), .ro (eValue.els p2.items)]] 0 4))), (49, .ag [ci e1.type.kind, ci e1.type.scale, cl eField e1.type.fields]), (48, .one (.pv (.rp (eField.els p1.fields) x4.toNat 3))), (47, .one (.pv (.rp (eField.els p1.fields) x4.toNat 0))), (46, vi x4), (45, vl eField p1.fields), (44, .one (.pv (.rp [[pi p1.kind, pi p1.scale, .ro (eField.els p1.fields)]] 0 2))), (2, .one (.pv (.rp [[pi p1.kind, pi p1.scale, .ro (eField.els p1.fields)]] 0 0))), (3, .one (.pv (.rp [[pi p2.kind, pi p2.n, pi p2.scale, .s (.string p2.s), .ro (eValue.els p2.items)]] 0 0))), (5, vi x3), (6, vi x4), (36, vi (p2.items.length : Int)), (37, vi x3)] (by kernel_rfl) (by kernel_rfl) ?_ ?_
                      · refine DX.go 11 [[pi p1.kind, pi p1.scale, .ro (eField.els p1.fields)], [pi e1.id, .s (.string e1.name), .s (.bool e1.need), pi e1.type.kind, pi e1.type.scale, .ro (eField.els e1.type.fields)], [pi p2.kind, pi p2.n, pi p2.scale, .s (.string p2.s), .ro (eValue.els p2.items)], [pi e2.kind, pi e2.n, pi e2.scale, .s (.string e2.s), .ro (eValue.els e2.items)]] [(54, .ag [ci e2.kind, ci e2.n, ci e2.scale, cst e2.s, cl eValue e2.items]), (53, .one (.pv (.rp (eValue.els p2.items) x3.toNat 0))), (52, vi x3), (51, vl eValue p2.items), (50, .one (.pv (.rp [[pi p2.kind, pi p2.n, pi p2.scale, .s (.string p2.s), .ro (eValue.els p2.items)]] 0 4))), (49, .ag [ci e1.type.kind, ci e1.type.scale, cl eField e1.type.fields]), (48, .one (.pv (.rp (eField.els p1.fields) x4.toNat 3))), (47, .one (.pv (.rp (eField.els p1.fields) x4.toNat 0))), (46, vi x4), (45, vl eField p1.fields), (44, .one (.pv (.rp [[pi p1.kind, pi p1.scale, .ro (eField.els p1.fields)]] 0 2))), (2, .one (.pv (.rp [[pi p1.kind, pi p1.scale, .ro (eField.els p1.fields)]] 0 0))), (3, .one (.pv (.rp [[pi p2.kind, pi p2.n, pi p2.scale, .s (.string p2.s), .ro (eValue.els p2.items)]] 0 0))), (5, vi x3), (6, vi x4), (36, vi (p2.items.length : Int)), (37, vi x3)] [([[pi p1.kind, pi p1.scale, .ro (eField.els p1.fields)]] : List (List PV))[0]? = some [pi p1.kind, pi p1.scale, .ro (eField.els p1.fields)], 0 ≤ x4 ∧ x4 < ((eField.els p1.fields).length : Int) ∧ elemsOk 6 (eField.els p1.fields), (eField.els p1.fields)[x4.toNat]? = some [pi e1.id, .s (.string e1.name), .s (.bool e1.need), pi e1.type.kind, pi e1.type.scale, .ro (eField.els e1.type.fields)], ([[pi p2.kind, pi p2.n, pi p2.scale, .s (.string p2.s), .ro (eValue.els p2.items)]] : List (List PV))[0]? = some [pi p2.kind, pi p2.n, pi p2.scale, .s (.string p2.s), .ro (eValue.els p2.items)], 0 ≤ x3 ∧ x3 < ((eValue.els p2.items).length : Int) ∧ elemsOk 5 (eValue.els p2.items), (eValue.els p2.items)[x3.toNat]? = some [pi e2.kind, pi e2.n, pi e2.scale, .s (.string e2.s), .ro (eValue.els e2.items)]] (by kernel_rfl) (⟨rfl, eField.inb a28, ((eField.get a28).trans (by rcases e1 with ⟨_, _, _, ⟨_, _, _⟩⟩; rfl)), rfl, eValue.inb a29, ((eValue.get a29).trans (by cases e2; rfl)), trivial⟩) ?_
                        exact DX.done (by kernel_rfl)
                      refine XO.cal 37 [.ag [ci e1.type.kind, ci e1.type.scale, cl eField e1.type.fields], .ag [ci e2.kind, ci e2.n, ci e2.scale, cst e2.s, cl eValue e2.items]] (vb r1) [(55, vb r1), (54, .ag [ci e2.kind, ci e2.n, ci e2.scale, cst e2.s, cl eValue e2.items]), (53, .one (.pv (.rp (eValue.els p2.items) x3.toNat 0))), (52, vi x3), (51, vl eValue p2.items), (50, .one (.pv (.rp [[pi p2.kind, pi p2.n, pi p2.scale, .s (.string p2.s), .ro (eValue.els p2.items)]] 0 4))), (49, .ag [ci e1.type.kind, ci e1.type.scale, cl eField e1.type.fields]), (48, .one (.pv (.rp (eField.els p1.fields) x4.toNat 3))), (47, .one (.pv (.rp (eField.els p1.fields) x4.toNat 0))), (46, vi x4), (45, vl eField p1.fields), (44, .one (.pv (.rp [[pi p1.kind, pi p1.scale, .ro (eField.els p1.fields)]] 0 2))), (2, .one (.pv (.rp [[pi p1.kind, pi p1.scale, .ro (eField.els p1.fields)]] 0 0))), (3, .one (.pv (.rp [[pi p2.kind, pi p2.n, pi p2.scale, .s (.string p2.s), .ro (eValue.els p2.items)]] 0 0))), (5, vi x3), (6, vi x4), (36, vi (p2.items.length : Int)), (37, vi x3)] (by kernel_rfl) (c_ref1_of k0 _ _ _ c30) rfl rfl (by kernel_rfl) ?_
                      refine XO.go [] 1 [2,3,36,37,56] [] [(2, .one (.pv (.rp [[pi p1.kind, pi p1.scale, .ro (eField.els p1.fields)]] 0 0))), (3, .one (.pv (.rp [[pi p2.kind, pi p2.n, pi p2.scale, .s (.string p2.s), .ro (eValue.els p2.items)]] 0 0))), (36, vi (p2.items.length : Int)), (37, vi x3), (56, vb (!r1))] [] [] (by kernel_rfl) trivial ?_
                      refine XO.done (by kernel_rfl) ?_
                      refine hK27 _ _ ?_
                      refine XW.cond (x := .tmp 56) (a := cd Tryd.f37 [1,1,1,1,0,1,0,0,1,1,0,0,1,1,1,1,0]) (b := cd Tryd.f37 [1,1,1,1,0,1,0,0,1,1,0,0,1,1,1,1,1]) (t := (!r1)) (by kernel_rfl) (by kernel_rfl) (fun b31 => ?_) (fun b31 => ?_)
                      · have h := ift_t b31 h
                        refine XW.seq (x := cd Tryd.f37 [1,1,1,1,0,1,0,0,1,1,0,0,1,1,1,1,0,0]) (y := cd Tryd.f37 [1,1,1,1,0,1,0,0,1,1,0,0,1,1,1,1,0,1]) (by kernel_rfl) fun K32 hK32 => ?_
                        refine XW.reg (by kernel_rfl) ?_
                        refine XO.go [] 1 [4] [] [(4, vb false)] [] [] (by kernel_rfl) trivial ?_
                        refine XO.done (by kernel_rfl) ?_
                        refine hK32 _ _ ?_
                        refine XW.ret (by kernel_rfl) ?_
                        refine hQ1 _ _ _ ?_
                        obtain rfl := Option.some.inj h
                        exact FinP.fin (.inr rfl) [] [vb false] [] (by kernel_rfl) trivial (.one (.rfl _ rfl))
                      · have h := ift_f b31 h
                        refine XW.skip (by kernel_rfl) ?_
                        refine hK21 _ _ ?_
                        refine XW.reg (by kernel_rfl) ?_
                        refine XO.go [] 2 [2,3,36,37] [] [(2, .one (.pv (.rp [[pi p1.kind, pi p1.scale, .ro (eField.els p1.fields)]] 0 0))), (3, .one (.pv (.rp [[pi p2.kind, pi p2.n, pi p2.scale, .s (.string p2.s), .ro (eValue.els p2.items)]] 0 0))), (36, vi (p2.items.length : Int)), (37, vi (IntKind.i64.wrap (x3 + (1 : Int))))] [] [] (by kernel_rfl) trivial ?_
                        refine XO.done (by kernel_rfl) ?_
                        exact XR.sub (Sub.pick [2,3,36,37] (by kernel_rfl)) (ih1 (IntKind.i64.wrap (x3 + (1 : Int))) h)
                    refine XW.seq (x := cd Tryd.f37 [1,1,1,1,0,1,0,0,1,1,0,0,1,1,0,0]) (y := cd Tryd.f37 [1,1,1,1,0,1,0,0,1,1,0,0,1,1,0,1]) (by kernel_rfl) fun K25 hK25 => ?_
                    refine XW.reg (by kernel_rfl) ?_
                    refine XO.go [] 3 [2,3,5,6,36,37,43] [[pi p1.kind, pi p1.scale, .ro (eField.els p1.fields)]] [(2, .one (.pv (.rp [[pi p1.kind, pi p1.scale, .ro (eField.els p1.fields)]] 0 0))), (3, .one (.pv (.rp [[pi p2.kind, pi p2.n, pi p2.scale, .s (.string p2.s), .ro (eValue.els p2.items)]] 0 0))), (5, vi x3), (6, vi x3), (36, vi (p2.items.length : Int)), (37, vi x3), (43, vb (p1.kind == (6 : Int)))] [] [([[pi p1.kind, pi p1.scale, .ro (eField.els p1.fields)]] : List (List PV))[0]? = some [pi p1.kind, pi p1.scale, .ro (eField.els p1.fields)]] (by kernel_rfl) (⟨rfl, trivial⟩) ?_
                    refine XO.done (by kernel_rfl) ?_
                    refine hK25 _ _ ?_
                    refine XW.cond (x := .tmp 43) (a := cd Tryd.f37 [1,1,1,1,0,1,0,0,1,1,0,0,1,1,0,1,0]) (b := cd Tryd.f37 [1,1,1,1,0,1,0,0,1,1,0,0,1,1,0,1,1]) (t := (p1.kind == (6 : Int))) (by kernel_rfl) (by kernel_rfl) (fun b26 => ?_) (fun b26 => ?_)
                    · have h := ift_t b26 h
                      refine XW.reg (by kernel_rfl) ?_
                      refine XO.go [] 1 [2,3,5,6,36,37] [] [(2, .one (.pv (.rp [[pi p1.kind, pi p1.scale, .ro (eField.els p1.fields)]] 0 0))), (3, .one (.pv (.rp [[pi p2.kind, pi p2.n, pi p2.scale, .s (.string p2.s), .ro (eValue.els p2.items)]] 0 0))), (5, vi x3), (6, vi (0 : Int)), (36, vi (p2.items.length : Int)), (37, vi x3)] [] [] (by kernel_rfl) trivial ?_
                      refine XO.done (by kernel_rfl) ?_
                      exact hJ3 (0 : Int) h _ _ (Sub.pick [2,3,5,6,36,37] (by kernel_rfl))
                    · have h := ift_f b26 h
                      refine XW.skip (by kernel_rfl) ?_
                      exact hJ3 x3 h _ _ (Sub.pick [2,3,5,6,36,37] (by kernel_rfl))
                  · have h := ift_f b20 h
                    refine XW.exit (id := 0) (by kernel_rfl) ?_
                    refine hQ1 _ _ _ ?_
                    exact hJ4 () h _ _ (Sub.pick [] (by kernel_rfl))
              exact XR.sub (Sub.pick [2,3,36,37] (by kernel_rfl)) (hL1 BIG (0 : Int) h)
          rcases Bool.eq_false_or_eq_true (p1.kind == (7 : Int)) with b13 | b13
          · have h := ift_t b13 h
            refine XW.reg (by kernel_rfl) ?_
            refine XO.go [] 4 [2,3,25] [[pi p1.kind, pi p1.scale, .ro (eField.els p1.fields)]] [(2, .one (.pv (.rp [[pi p1.kind, pi p1.scale, .ro (eField.els p1.fields)]] 0 0))), (3, .one (.pv (.rp [[pi p2.kind, pi p2.n, pi p2.scale, .s (.string p2.s), .ro (eValue.els p2.items)]] 0 0))), (25, vb (p1.kind == (7 : Int)))] [] [([[pi p1.kind, pi p1.scale, .ro (eField.els p1.fields)]] : List (List PV))[0]? = some [pi p1.kind, pi p1.scale, .ro (eField.els p1.fields)]] (by kernel_rfl) (⟨rfl, trivial⟩) ?_
            refine XO.setb 25 true (B := (p1.kind == (7 : Int))) rfl b13 ?_
            refine XO.go [] 3 [2,3,25,28] [[pi p2.kind, pi p2.n, pi p2.scale, .s (.string p2.s), .ro (eValue.els p2.items)]] [(2, .one (.pv (.rp [[pi p1.kind, pi p1.scale, .ro (eField.els p1.fields)]] 0 0))), (3, .one (.pv (.rp [[pi p2.kind, pi p2.n, pi p2.scale, .s (.string p2.s), .ro (eValue.els p2.items)]] 0 0))), (25, vb true), (28, vi ((eValue.els p2.items).length : Int))] [] [([[pi p2.kind, pi p2.n, pi p2.scale, .s (.string p2.s), .ro (eValue.els p2.items)]] : List (List PV))[0]? = some [pi p2.kind, pi p2.n, pi p2.scale, .s (.string p2.s), .ro (eValue.els p2.items)]] (by kernel_rfl) (⟨rfl, trivial⟩) ?_
            rw [eValue.len p2.items]
            refine XO.go [] 3 [2,3,25,28,31] [[pi p1.kind, pi p1.scale, .ro (eField.els p1.fields)]] [(2, .one (.pv (.rp [[pi p1.kind, pi p1.scale, .ro (eField.els p1.fields)]] 0 0))), (3, .one (.pv (.rp [[pi p2.kind, pi p2.n, pi p2.scale, .s (.string p2.s), .ro (eValue.els p2.items)]] 0 0))), (25, vb true), (28, vi (p2.items.length : Int)), (31, vi ((eField.els p1.fields).length : Int))] [] [([[pi p1.kind, pi p1.scale, .ro (eField.els p1.fields)]] : List (List PV))[0]? = some [pi p1.kind, pi p1.scale, .ro (eField.els p1.fields)]] (by kernel_rfl) (⟨rfl, trivial⟩) ?_
            rw [eField.len p1.fields]
            refine XO.go [] 2 [2,3,33] [] [(2, .one (.pv (.rp [[pi p1.kind, pi p1.scale, .ro (eField.els p1.fields)]] 0 0))), (3, .one (.pv (.rp [[pi p2.kind, pi p2.n, pi p2.scale, .s (.string p2.s), .ro (eValue.els p2.items)]] 0 0))), (33, vb ((p2.items.length : Int) != (p1.fields.length : Int)))] [] [] (by kernel_rfl) trivial ?_
            refine XO.done (by kernel_rfl) ?_
            exact hJ2 ((p2.items.length : Int) != (p1.fields.length : Int)) h _ _ (Sub.pick [2,3,33] (by kernel_rfl))
          · have h := ift_f b13 h
            refine XW.reg (by kernel_rfl) ?_
            refine XO.go [] 4 [2,3,25] [[pi p1.kind, pi p1.scale, .ro (eField.els p1.fields)]] [(2, .one (.pv (.rp [[pi p1.kind, pi p1.scale, .ro (eField.els p1.fields)]] 0 0))), (3, .one (.pv (.rp [[pi p2.kind, pi p2.n, pi p2.scale, .s (.string p2.s), .ro (eValue.els p2.items)]] 0 0))), (25, vb (p1.kind == (7 : Int)))] [] [([[pi p1.kind, pi p1.scale, .ro (eField.els p1.fields)]] : List (List PV))[0]? = some [pi p1.kind, pi p1.scale, .ro (eField.els p1.fields)]] (by kernel_rfl) (⟨rfl, trivial⟩) ?_
            refine XO.setb 25 false (B := (p1.kind == (7 : Int))) rfl b13 ?_
            refine XO.go [] 8 [2,3,33] [] [(2, .one (.pv (.rp [[pi p1.kind, pi p1.scale, .ro (eField.els p1.fields)]] 0 0))), (3, .one (.pv (.rp [[pi p2.kind, pi p2.n, pi p2.scale, .s (.string p2.s), .ro (eValue.els p2.items)]] 0 0))), (33, vb false)] [] [] (by kernel_rfl) trivial ?_
            refine XO.done (by kernel_rfl) ?_
            exact hJ2 false h _ _ (Sub.pick [2,3,33] (by kernel_rfl))
      rcases Bool.eq_false_or_eq_true (p2.kind != p1.kind) with b8 | b8
      · have h := ift_t b8 h
        refine XW.reg (by kernel_rfl) ?_
        refine XO.go [] 6 [2,3,15] [[pi p2.kind, pi p2.n, pi p2.scale, .s (.string p2.s), .ro (eValue.els p2.items)], [pi p1.kind, pi p1.scale, .ro (eField.els p1.fields)]] [(2, .one (.pv (.rp [[pi p1.kind, pi p1.scale, .ro (eField.els p1.fields)]] 0 0))), (3, .one (.pv (.rp [[pi p2.kind, pi p2.n, pi p2.scale, .s (.string p2.s), .ro (eValue.els p2.items)]] 0 0))), (15, vb (p2.kind != p1.kind))] [] [([[pi p2.kind, pi p2.n, pi p2.scale, .s (.string p2.s), .ro (eValue.els p2.items)]] : List (List PV))[0]? = some [pi p2.kind, pi p2.n, pi p2.scale, .s (.string p2.s), .ro (eValue.els p2.items)], ([[pi p1.kind, pi p1.scale, .ro (eField.els p1.fields)]] : List (List PV))[0]? = some [pi p1.kind, pi p1.scale, .ro (eField.els p1.fields)]] (by kernel_rfl) (⟨rfl, rfl, trivial⟩) ?_
        refine XO.setb 15 true (B := (p2.kind != p1.kind)) rfl b8 ?_
        refine XO.go [] 6 [2,3,21] [] [(2, .one (.pv (.rp [[pi p1.kind, pi p1.scale, .ro (eField.els p1.fields)]] 0 0))), (3, .one (.pv (.rp [[pi p2.kind, pi p2.n, pi p2.scale, .s (.string p2.s), .ro (eValue.els p2.items)]] 0 0))), (21, vb true)] [] [] (by kernel_rfl) trivial ?_
        refine XO.done (by kernel_rfl) ?_
        exact hJ1 true h _ _ (Sub.pick [2,3,21] (by kernel_rfl))
      · have h := ift_f b8 h
        refine XW.reg (by kernel_rfl) ?_
        refine XO.go [] 6 [2,3,15] [[pi p2.kind, pi p2.n, pi p2.scale, .s (.string p2.s), .ro (eValue.els p2.items)], [pi p1.kind, pi p1.scale, .ro (eField.els p1.fields)]] [(2, .one (.pv (.rp [[pi p1.kind, pi p1.scale, .ro (eField.els p1.fields)]] 0 0))), (3, .one (.pv (.rp [[pi p2.kind, pi p2.n, pi p2.scale, .s (.string p2.s), .ro (eValue.els p2.items)]] 0 0))), (15, vb (p2.kind != p1.kind))] [] [([[pi p2.kind, pi p2.n, pi p2.scale, .s (.string p2.s), .ro (eValue.els p2.items)]] : List (List PV))[0]? = some [pi p2.kind, pi p2.n, pi p2.scale, .s (.string p2.s), .ro (eValue.els p2.items)], ([[pi p1.kind, pi p1.scale, .ro (eField.els p1.fields)]] : List (List PV))[0]? = some [pi p1.kind, pi p1.scale, .ro (eField.els p1.fields)]] (by kernel_rfl) (⟨rfl, rfl, trivial⟩) ?_
        refine XO.setb 15 false (B := (p2.kind != p1.kind)) rfl b8 ?_
        refine XO.go [] 6 [2,3,21] [[pi p2.kind, pi p2.n, pi p2.scale, .s (.string p2.s), .ro (eValue.els p2.items)], [pi p1.kind, pi p1.scale, .ro (eField.els p1.fields)]] [(2, .one (.pv (.rp [[pi p1.kind, pi p1.scale, .ro (eField.els p1.fields)]] 0 0))), (3, .one (.pv (.rp [[pi p2.kind, pi p2.n, pi p2.scale, .s (.string p2.s), .ro (eValue.els p2.items)]] 0 0))), (21, vb (p2.scale != p1.scale))] [] [([[pi p2.kind, pi p2.n, pi p2.scale, .s (.string p2.s), .ro (eValue.els p2.items)]] : List (List PV))[0]? = some [pi p2.kind, pi p2.n, pi p2.scale, .s (.string p2.s), .ro (eValue.els p2.items)], ([[pi p1.kind, pi p1.scale, .ro (eField.els p1.fields)]] : List (List PV))[0]? = some [pi p1.kind, pi p1.scale, .ro (eField.els p1.fields)]] (by kernel_rfl) (⟨rfl, rfl, trivial⟩) ?_
        refine XO.done (by kernel_rfl) ?_
        exact hJ1 (p2.scale != p1.scale) h _ _ (Sub.pick [2,3,21] (by kernel_rfl))

def ref1_missing_j2 (rec1 : Int → Option Bool) (x1 : Int) (x3 : Bool) : Option Bool :=
    ift x3
      (some true)
      (rec1 (IntKind.i64.wrap (x1 + (1 : Int))))

def ref1_missing_j1 (rec1 : Int → Option Bool) (q_ref1_missing : GType → GValue → Option Bool) (p1 : GType) (p2 : GValue) (x1 : Int) (x2 : Int) : Option Bool :=
    bnd (at? p1.fields x2) fun e1 =>
    ift e1.need
      (bnd (at? p2.items x1) fun e2 =>
       ift (e2.kind == (0 : Int))
         (ref1_missing_j2 rec1 x1 true)
         (bnd (q_ref1_missing e1.type e2) fun r1 =>
          ref1_missing_j2 rec1 x1 r1))
      (bnd (at? p2.items x1) fun e3 =>
       bnd (q_ref1_missing e1.type e3) fun r2 =>
       ref1_missing_j2 rec1 x1 r2)

def ref1_missing_j3 : Option Bool :=
    some false

def ref1_missing_l1 (q_ref1_missing : GType → GValue → Option Bool) (p1 : GType) (p2 : GValue) : Nat → Int → Option Bool
  | 0, _ => none
  | k1 + 1, x1 =>
    ift (decide (x1 < (p2.items.length : Int)))
      (ift (p1.kind == (6 : Int))
         (ref1_missing_j1 (ref1_missing_l1 q_ref1_missing p1 p2 k1) q_ref1_missing p1 p2 x1 (0 : Int))
         (ref1_missing_j1 (ref1_missing_l1 q_ref1_missing p1 p2 k1) q_ref1_missing p1 p2 x1 x1))
      (ref1_missing_j3)

def ref1_missing : Nat → GType → GValue → Option Bool
  | 0, _, _ => none
  | k0 + 1, p1, p2 =>
    ref1_missing_l1 (ref1_missing k0) p1 p2 BIG (0 : Int)


theorem c_ref1_missing : ∀ (k0 : Nat) (p1 : GType) (p2 : GValue) (r : Bool), ref1_missing k0 p1 p2 = some r → PC Tryd.prog 38 [.ag [ci p1.kind, ci p1.scale, cl eField p1.fields], .ag [ci p2.kind, ci p2.n, ci p2.scale, cst p2.s, cl eValue p2.items]] (vb r)
  | 0, _, _, r, h => by rw [ref1_missing.eq_1] at h; cases h
  | k0 + 1, p1, p2, r, h => by
    rw [ref1_missing.eq_2] at h
    refine PC.of (n := 45) (fn := Tryd.f38) (c := cd Tryd.f38 []) (by kernel_rfl) (by kernel_rfl) (by kernel_rfl) (Nat.le_of_ble_eq_true rfl) ?_
    refine XW.seq (x := cd Tryd.f38 [0]) (y := cd Tryd.f38 [1]) (by kernel_rfl) fun K1 hK1 => ?_
    refine XW.reg (by kernel_rfl) ?_
    refine XO.go [7] 3 [2,3] [] [(2, .one (.pv (.rp [[pi p1.kind, pi p1.scale, .ro (eField.els p1.fields)]] 0 0))), (3, .one (.pv (.rp [[pi p2.kind, pi p2.n, pi p2.scale, .s (.string p2.s), .ro (eValue.els p2.items)]] 0 0)))] [] [] (by kernel_rfl) trivial ?_
    refine XO.done (by kernel_rfl) ?_
    refine hK1 _ _ ?_
    refine XW.seq (x := cd Tryd.f38 [1,0]) (y := cd Tryd.f38 [1,1]) (by kernel_rfl) fun K2 hK2 => ?_
    have hJ3 : ∀ (_ : Unit), ref1_missing_j3 = some r → ∀ fr1 st1, Sub 45 0 [] fr1 st1 [] [] → K2 fr1 st1 := by
      intro _ h fr1 st1 hS
      unfold ref1_missing_j3 at h
      refine hK2 _ _ (XW.sub hS ?_)
      refine XW.seq (x := cd Tryd.f38 [1,1,0]) (y := cd Tryd.f38 [1,1,1]) (by kernel_rfl) fun K24 hK24 => ?_
      refine XW.reg (by kernel_rfl) ?_
      refine XO.go [7] 1 [4] [] [(4, vb false)] [] [] (by kernel_rfl) trivial ?_
      refine XO.done (by kernel_rfl) ?_
      refine hK24 _ _ ?_
      refine XW.ret (by kernel_rfl) ?_
      obtain rfl := Option.some.inj h
      exact FinP.fin (.inr rfl) [] [vb false] [] (by kernel_rfl) trivial (.one (.rfl _ rfl))
    refine XW.seq (x := cd Tryd.f38 [1,0,0]) (y := cd Tryd.f38 [1,0,1]) (by kernel_rfl) fun K3 hK3 => ?_
    refine XW.reg (by kernel_rfl) ?_
    refine XO.go [7] 3 [2,3,10] [[pi p2.kind, pi p2.n, pi p2.scale, .s (.string p2.s), .ro (eValue.els p2.items)]] [(2, .one (.pv (.rp [[pi p1.kind, pi p1.scale, .ro (eField.els p1.fields)]] 0 0))), (3, .one (.pv (.rp [[pi p2.kind, pi p2.n, pi p2.scale, .s (.string p2.s), .ro (eValue.els p2.items)]] 0 0))), (10, vi ((eValue.els p2.items).length : Int))] [] [([[pi p2.kind, pi p2.n, pi p2.scale, .s (.string p2.s), .ro (eValue.els p2.items)]] : List (List PV))[0]? = some [pi p2.kind, pi p2.n, pi p2.scale, .s (.string p2.s), .ro (eValue.els p2.items)]] (by kernel_rfl) (⟨rfl, trivial⟩) ?_
    rw [eValue.len p2.items]
    refine XO.go [7] 1 [2,3,10,11] [] [(2, .one (.pv (.rp [[pi p1.kind, pi p1.scale, .ro (eField.els p1.fields)]] 0 0))), (3, .one (.pv (.rp [[pi p2.kind, pi p2.n, pi p2.scale, .s (.string p2.s), .ro (eValue.els p2.items)]] 0 0))), (10, vi (p2.items.length : Int)), (11, vi (0 : Int))] [] [] (by kernel_rfl) trivial ?_
    refine XO.done (by kernel_rfl) ?_
    refine hK3 _ _ ?_
    refine XW.block (id := 0) (x := cd Tryd.f38 [1,0,1,0]) (by kernel_rfl) ?_
    refine XW.rounds' BIG (x := cd Tryd.f38 [1,0,1,0,0]) (by kernel_rfl) fun Q1 hQ1 => ?_
    have hL1 : ∀ (k1 : Nat) (x1 : Int), ref1_missing_l1 (ref1_missing k0) p1 p2 k1 x1 = some r → XR Tryd.prog 45 0 [] (cd Tryd.f38 [1,0,1,0,0]) Q1 k1 [(2, .one (.pv (.rp [[pi p1.kind, pi p1.scale, .ro (eField.els p1.fields)]] 0 0))), (3, .one (.pv (.rp [[pi p2.kind, pi p2.n, pi p2.scale, .s (.string p2.s), .ro (eValue.els p2.items)]] 0 0))), (10, vi (p2.items.length : Int)), (11, vi x1)] [] := by
      intro k1
      induction k1 with
      | zero => intro x1 h; rw [ref1_missing_l1.eq_1] at h; cases h
      | succ k1 ih1 =>
        intro x1 h
        rw [ref1_missing_l1.eq_2] at h
        refine XW.seq (x := cd Tryd.f38 [1,0,1,0,0,0]) (y := cd Tryd.f38 [1,0,1,0,0,1]) (by kernel_rfl) fun K4 hK4 => ?_
        refine XW.reg (by kernel_rfl) ?_
        refine XO.go [7] 1 [2,3,10,11,12] [] [(2, .one (.pv (.rp [[pi p1.kind, pi p1.scale, .ro (eField.els p1.fields)]] 0 0))), (3, .one (.pv (.rp [[pi p2.kind, pi p2.n, pi p2.scale, .s (.string p2.s), .ro (eValue.els p2.items)]] 0 0))), (10, vi (p2.items.length : Int)), (11, vi x1), (12, vb (decide (x1 < (p2.items.length : Int))))] [] [] (by kernel_rfl) trivial ?_
        refine XO.done (by kernel_rfl) ?_
        refine hK4 _ _ ?_
        refine XW.seq (x := cd Tryd.f38 [1,0,1,0,0,1,0]) (y := cd Tryd.f38 [1,0,1,0,0,1,1]) (by kernel_rfl) fun K5 hK5 => ?_
        refine XW.cond (x := .tmp 12) (a := cd Tryd.f38 [1,0,1,0,0,1,0,0]) (b := cd Tryd.f38 [1,0,1,0,0,1,0,1]) (t := (decide (x1 < (p2.items.length : Int)))) (by kernel_rfl) (by kernel_rfl) (fun b6 => ?_) (fun b6 => ?_)
        · have h := ift_t b6 h
          refine XW.skip (by kernel_rfl) ?_
          refine hK5 _ _ ?_
          refine XW.seq (x := cd Tryd.f38 [1,0,1,0,0,1,1,0]) (y := cd Tryd.f38 [1,0,1,0,0,1,1,1]) (by kernel_rfl) fun K7 hK7 => ?_
          refine XW.block (id := 1) (x := cd Tryd.f38 [1,0,1,0,0,1,1,0,0]) (by kernel_rfl) ?_
          refine XW.seq (x := cd Tryd.f38 [1,0,1,0,0,1,1,0,0,0]) (y := cd Tryd.f38 [1,0,1,0,0,1,1,0,0,1]) (by kernel_rfl) fun K8 hK8 => ?_
          refine XW.reg (by kernel_rfl) ?_
          refine XO.go [7] 2 [2,3,5,10,11] [] [(2, .one (.pv (.rp [[pi p1.kind, pi p1.scale, .ro (eField.els p1.fields)]] 0 0))), (3, .one (.pv (.rp [[pi p2.kind, pi p2.n, pi p2.scale, .s (.string p2.s), .ro (eValue.els p2.items)]] 0 0))), (5, vi x1), (10, vi (p2.items.length : Int)), (11, vi x1)] [] [] (by kernel_rfl) trivial ?_
          refine XO.done (by kernel_rfl) ?_
          refine hK8 _ _ ?_
          refine XW.seq (x := cd Tryd.f38 [1,0,1,0,0,1,1,0,0,1,0]) (y := cd Tryd.f38 [1,0,1,0,0,1,1,0,0,1,1]) (by kernel_rfl) fun K9 hK9 => ?_
          refine XW.reg (by kernel_rfl) ?_
          refine XO.go [7] 2 [2,3,5,6,10,11] [] [(2, .one (.pv (.rp [[pi p1.kind, pi p1.scale, .ro (eField.els p1.fields)]] 0 0))), (3, .one (.pv (.rp [[pi p2.kind, pi p2.n, pi p2.scale, .s (.string p2.s), .ro (eValue.els p2.items)]] 0 0))), (5, vi x1), (6, vi x1), (10, vi (p2.items.length : Int)), (11, vi x1)] [] [] (by kernel_rfl) trivial ?_
          refine XO.done (by kernel_rfl) ?_
          refine hK9 _ _ ?_
          refine XW.seq (x := cd Tryd.f38 [1,0,1,0,0,1,1,0,0,1,1,0]) (y := cd Tryd.f38 [1,0,1,0,0,1,1,0,0,1,1,1]) (by kernel_rfl) fun K10 hK10 => ?_
          have hJ1 : ∀ (x2 : Int), ref1_missing_j1 (ref1_missing_l1 (ref1_missing k0) p1 p2 k1) (ref1_missing k0) p1 p2 x1 x2 = some r → ∀ fr1 st1, Sub 45 0 [] fr1 st1 [(2, .one (.pv (.rp [[pi p1.kind, pi p1.scale, .ro (eField.els p1.fields)]] 0 0))), (3, .one (.pv (.rp [[pi p2.kind, pi p2.n, pi p2.scale, .s (.string p2.s), .ro (eValue.els p2.items)]] 0 0))), (5, vi x1), (6, vi x2), (10, vi (p2.items.length : Int)), (11, vi x1)] [] → K10 fr1 st1 := by
            intro x2 h fr1 st1 hS
            unfold ref1_missing_j1 at h
            refine hK10 _ _ (XW.sub hS ?_)
            refine XW.seq (x := cd Tryd.f38 [1,0,1,0,0,1,1,0,0,1,1,1,0]) (y := cd Tryd.f38 [1,0,1,0,0,1,1,0,0,1,1,1,1]) (by kernel_rfl) fun K13 hK13 => ?_
            obtain ⟨e1, a14, h⟩ := bnd_some h
            refine XW.reg (by kernel_rfl) ?_
            refine XO.go [7] 7 [2,3,5,7,10,11] [[pi p1.kind, pi p1.scale, .ro (eField.els p1.fields)], [pi e1.id, .s (.string e1.name), .s (.bool e1.need), pi e1.type.kind, pi e1.type.scale, .ro (eField.els e1.type.fields)]] [(2, .one (.pv (.rp [[pi p1.kind, pi p1.scale, .ro (eField.els p1.fields)]] 0 0))), (3, .one (.pv (.rp [[pi p2.kind, pi p2.n, pi p2.scale, .s (.string p2.s), .ro (eValue.els p2.items)]] 0 0))), (5, vi x1), (7, .one (.pt 0 0 0 0)), (10, vi (p2.items.length : Int)), (11, vi x1)] [.box [ci e1.id, cst e1.name, cb e1.need, ci e1.type.kind, ci e1.type.scale, cl eField e1.type.fields]] [([[pi p1.kind, pi p1.scale, .ro (eField.els p1.fields)]] : List (List PV))[0]? = some [pi p1.kind, pi p1.scale, .ro (eField.els p1.fields)], 0 ≤ x2 ∧ x2 < ((eField.els p1.fields).length : Int) ∧ elemsOk 6 (eField.els p1.fields), (eField.els p1.fields)[x2.toNat]? = some [pi e1.id, .s (.string e1.name), .s (.bool e1.need), pi e1.type.kind, pi e1.type.scale, .ro (eField.els e1.type.fields)]] (by kernel_rfl) (⟨rfl, eField.inb a14, ((eField.get a14).trans (by rcases e1 with ⟨_, _, _, ⟨_, _, _⟩⟩; rfl)), trivial⟩) ?_
            refine XO.done (by kernel_rfl) ?_
            refine hK13 _ _ ?_
            refine XW.seq (x := cd Tryd.f38 [1,0,1,0,0,1,1,0,0,1,1,1,1,0]) (y := cd Tryd.f38 [1,0,1,0,0,1,1,0,0,1,1,1,1,1]) (by kernel_rfl) fun K15 hK15 => ?_
            have hJ2 : ∀ (x3 : Bool), ref1_missing_j2 (ref1_missing_l1 (ref1_missing k0) p1 p2 k1) x1 x3 = some r → ∀ fr1 st1, Sub 45 0 [] fr1 st1 [(2, .one (.pv (.rp [[pi p1.kind, pi p1.scale, .ro (eField.els p1.fields)]] 0 0))), (3, .one (.pv (.rp [[pi p2.kind, pi p2.n, pi p2.scale, .s (.string p2.s), .ro (eValue.els p2.items)]] 0 0))), (10, vi (p2.items.length : Int)), (11, vi x1), (43, vb x3)] [.box [ci e1.id, cst e1.name, cb e1.need, ci e1.type.kind, ci e1.type.scale, cl eField e1.type.fields]] → K15 fr1 st1 := by
              intro x3 h fr1 st1 hS
              unfold ref1_missing_j2 at h
              refine hK15 _ _ (XW.sub hS ?_)
              refine XW.cond (x := .tmp 43) (a := cd Tryd.f38 [1,0,1,0,0,1,1,0,0,1,1,1,1,1,0]) (b := cd Tryd.f38 [1,0,1,0,0,1,1,0,0,1,1,1,1,1,1]) (t := x3) (by kernel_rfl) (by kernel_rfl) (fun b22 => ?_) (fun b22 => ?_)
              · have h := ift_t b22 h
                refine XW.seq (x := cd Tryd.f38 [1,0,1,0,0,1,1,0,0,1,1,1,1,1,0,0]) (y := cd Tryd.f38 [1,0,1,0,0,1,1,0,0,1,1,1,1,1,0,1]) (by kernel_rfl) fun K23 hK23 => ?_
                refine XW.reg (by kernel_rfl) ?_
                refine XO.go [7] 1 [4] [] [(4, vb true)] [.box [ci e1.id, cst e1.name, cb e1.need, ci e1.type.kind, ci e1.type.scale, cl eField e1.type.fields]] [] (by kernel_rfl) trivial ?_
                refine XO.done (by kernel_rfl) ?_
                refine hK23 _ _ ?_
                refine XW.ret (by kernel_rfl) ?_
                refine hQ1 _ _ _ ?_
                obtain rfl := Option.some.inj h
                exact FinP.fin (.inr rfl) [] [vb true] [] (by kernel_rfl) trivial (.one (.rfl _ rfl))
              · have h := ift_f b22 h
                refine XW.skip (by kernel_rfl) ?_
                refine hK7 _ _ ?_
                refine XW.reg (by kernel_rfl) ?_
                refine XO.go [7] 2 [2,3,10,11] [] [(2, .one (.pv (.rp [[pi p1.kind, pi p1.scale, .ro (eField.els p1.fields)]] 0 0))), (3, .one (.pv (.rp [[pi p2.kind, pi p2.n, pi p2.scale, .s (.string p2.s), .ro (eValue.els p2.items)]] 0 0))), (10, vi (p2.items.length : Int)), (11, vi (IntKind.i64.wrap (x1 + (1 : Int))))] [.box [ci e1.id, cst e1.name, cb e1.need, ci e1.type.kind, ci e1.type.scale, cl eField e1.type.fields]] [] (by kernel_rfl) trivial ?_
                refine XO.done (by kernel_rfl) ?_
                exact XR.sub (Sub.trans (Sub.pick (fr' := [(2, .one (.pv (.rp [[pi p1.kind, pi p1.scale, .ro (eField.els p1.fields)]] 0 0))), (3, .one (.pv (.rp [[pi p2.kind, pi p2.n, pi p2.scale, .s (.string p2.s), .ro (eValue.els p2.items)]] 0 0))), (10, vi (p2.items.length : Int)), (11, vi (IntKind.i64.wrap (x1 + (1 : Int))))]) [2,3,10,11] (by kernel_rfl)) (Sub.take (fr' := [(2, .one (.pv (.rp [[pi p1.kind, pi p1.scale, .ro (eField.els p1.fields)]] 0 0))), (3, .one (.pv (.rp [[pi p2.kind, pi p2.n, pi p2.scale, .s (.string p2.s), .ro (eValue.els p2.items)]] 0 0))), (10, vi (p2.items.length : Int)), (11, vi (IntKind.i64.wrap (x1 + (1 : Int))))]) 0 (Nat.zero_le _) (by kernel_rfl) (by kernel_rfl))) (ih1 (IntKind.i64.wrap (x1 + (1 : Int))) h)
            rcases Bool.eq_false_or_eq_true e1.need with b16 | b16
            · have h := ift_t b16 h
              obtain ⟨e2, a17, h⟩ := bnd_some h
              rcases Bool.eq_false_or_eq_true (e2.kind == (0 : Int)) with b18 | b18
              · have h := ift_t b18 h
                refine XW.drwS 19 [(41, .tp []), (40, .tp []), (39, .tp []), (38, .tp []), (37, .tp []), (36, .tp []), (35, .tp []), (34, vb true), (33, vb (e2.kind == (0 : Int))), (32, vb (e2.kind == (0 : Int))), (31, vi e2.kind), (30, .one (.pv (.rp (eValue.els p2.items) x1.toNat 0))), (29, .one (.pv (.rp (eValue.els p2.items) x1.toNat 0))), (28, vi x1), (27, vl eValue p2.items), (26, .one (.pv (.rp [[pi p2.kind, pi p2.n, pi p2.scale, .s (.string p2.s), .ro (eValue.els p2.items)]] 0 4))), (25, vb true), (24, vb e1.need), (23, .one (.pt 0 0 0 2)), (2, .one (.pv (.rp [[pi p1.kind, pi p1.scale, .ro (eField.els p1.fields)]] 0 0))), (3, .one (.pv (.rp [[pi p2.kind, pi p2.n, pi p2.scale, .s (.string p2.s), .ro (eValue.els p2.items)]] 0 0))), (5, vi x1), (7, .one (.pt 0 0 0 0)), (10, vi (p2.items.length : Int)), (11, vi x1)] (by kernel_rfl) (by kernel_rfl) ?_ ?_
                · refine DX.go 3 [] [(25, vb e1.need), (24, vb e1.need), (23, .one (.pt 0 0 0 2)), (2, .one (.pv (.rp [[pi p1.kind, pi p1.scale, .ro (eField.els p1.fields)]] 0 0))), (3, .one (.pv (.rp [[pi p2.kind, pi p2.n, pi p2.scale, .s (.string p2.s), .ro (eValue.els p2.items)]] 0 0))), (5, vi x1), (7, .one (.pt 0 0 0 0)), (10, vi (p2.items.length : Int)), (11, vi x1)] [] (by kernel_rfl) trivial ?_
                  refine DX.eq (fr1 := [(25, vb true), (24, vb e1.need), (23, .one (.pt 0 0 0 2)), (2, .one (.pv (.rp [[pi p1.kind, pi p1.scale, .ro (eField.els p1.fields)]] 0 0))), (3, .one (.pv (.rp [[pi p2.kind, pi p2.n, pi p2.scale, .s (.string p2.s), .ro (eValue.els p2.items)]] 0 0))), (5, vi x1), (7, .one (.pt 0 0 0 0)), (10, vi (p2.items.length : Int)), (11, vi x1)]) (by rw [b16]) ?_
                  refine DX.go 9 [[pi p2.kind, pi p2.n, pi p2.scale, .s (.string p2.s), .ro (eValue.els p2.items)], [pi e2.kind, pi e2.n, pi e2.scale, .s (.string e2.s), .ro (eValue.els e2.items)]] [(34, vb (e2.kind == (0 : Int))), (33, vb (e2.kind == (0 : Int))), (32, vb (e2.kind == (0 : Int))), (31, vi e2.kind), (30, .one (.pv (.rp (eValue.els p2.items) x1.toNat 0))), (29, .one (.pv (.rp (eValue.els p2.items) x1.toNat 0))), (28, vi x1), (27, vl eValue p2.items), (26, .one (.pv (.rp [[pi p2.kind, pi p2.n, pi p2.scale, .s (.string p2.s), .ro (eValue.els p2.items)]] 0 4))), (25, vb true), (24, vb e1.need), (23, .one (.pt 0 0 0 2)), (2, .one (.pv (.rp [[pi p1.kind, pi p1.scale, .ro (eField.els p1.fields)]] 0 0))), (3, .one (.pv (.rp [[pi p2.kind, pi p2.n, pi p2.scale, .s (.string p2.s), .ro (eValue.els p2.items)]] 0 0))), (5, vi x1), (7, .one (.pt 0 0 0 0)), (10, vi (p2.items.length : Int)), (11, vi x1)] [([[pi p2.kind, pi p2.n, pi p2.scale, .s (.string p2.s), .ro (eValue.els p2.items)]] : List (List PV))[0]? = some [pi p2.kind, pi p2.n, pi p2.scale, .s (.string p2.s), .ro (eValue.els p2.items)], 0 ≤ x1 ∧ x1 < ((eValue.els p2.items).length : Int) ∧ elemsOk 5 (eValue.els p2.items), (eValue.els p2.items)[x1.toNat]? = some [pi e2.kind, pi e2.n, pi e2.scale, .s (.string e2.s), .ro (eValue.els e2.items)]] (by kernel_rfl) (⟨rfl, eValue.inb a17, ((eValue.get a17).trans (by cases e2; rfl)), trivial⟩) ?_
                  refine DX.eq (fr1 := [(34, vb true), (33, vb (e2.kind == (0 : Int))), (32, vb (e2.kind == (0 : Int))), (31, vi e2.kind), (30, .one (.pv (.rp (eValue.els p2.items) x1.toNat 0))), (29, .one (.pv (.rp (eValue.els p2.items) x1.toNat 0))), (28, vi x1), (27, vl eValue p2.items), (26, .one (.pv (.rp [[pi p2.kind, pi p2.n, pi p2.scale, .s (.string p2.s), .ro (eValue.els p2.items)]] 0 4))), (25, vb true), (24, vb e1.need), (23, .one (.pt 0 0 0 2)), (2, .one (.pv (.rp [[pi p1.kind, pi p1.scale, .ro (eField.els p1.fields)]] 0 0))), (3, .one (.pv (.rp [[pi p2.kind, pi p2.n, pi p2.scale, .s (.string p2.s), .ro (eValue.els p2.items)]] 0 0))), (5, vi x1), (7, .one (.pt 0 0 0 0)), (10, vi (p2.items.length : Int)), (11, vi x1)]) (by rw [b18]) ?_
                  refine DX.go 7 [] [(41, .tp []), (40, .tp []), (39, .tp []), (38, .tp []), (37, .tp []), (36, .tp []), (35, .tp []), (34, vb true), (33, vb (e2.kind == (0 : Int))), (32, vb (e2.kind == (0 : Int))), (31, vi e2.kind), (30, .one (.pv (.rp (eValue.els p2.items) x1.toNat 0))), (29, .one (.pv (.rp (eValue.els p2.items) x1.toNat 0))), (28, vi x1), (27, vl eValue p2.items), (26, .one (.pv (.rp [[pi p2.kind, pi p2.n, pi p2.scale, .s (.string p2.s), .ro (eValue.els p2.items)]] 0 4))), (25, vb true), (24, vb e1.need), (23, .one (.pt 0 0 0 2)), (2, .one (.pv (.rp [[pi p1.kind, pi p1.scale, .ro (eField.els p1.fields)]] 0 0))), (3, .one (.pv (.rp [[pi p2.kind, pi p2.n, pi p2.scale, .s (.string p2.s), .ro (eValue.els p2.items)]] 0 0))), (5, vi x1), (7, .one (.pt 0 0 0 0)), (10, vi (p2.items.length : Int)), (11, vi x1)] [] (by kernel_rfl) trivial ?_
                  exact DX.done (by kernel_rfl)
                refine XO.go [7] 2 [2,3,10,11,43] [] [(2, .one (.pv (.rp [[pi p1.kind, pi p1.scale, .ro (eField.els p1.fields)]] 0 0))), (3, .one (.pv (.rp [[pi p2.kind, pi p2.n, pi p2.scale, .s (.string p2.s), .ro (eValue.els p2.items)]] 0 0))), (10, vi (p2.items.length : Int)), (11, vi x1), (43, vb true)] [.box [ci e1.id, cst e1.name, cb e1.need, ci e1.type.kind, ci e1.type.scale, cl eField e1.type.fields]] [] (by kernel_rfl) trivial ?_
                refine XO.done (by kernel_rfl) ?_
                exact hJ2 true h _ _ (Sub.pick [2,3,10,11,43] (by kernel_rfl))
              · have h := ift_f b18 h
                obtain ⟨r1, c19, h⟩ := bnd_some h
                refine XW.drwS 19 [(41, .ag [ci e2.kind, ci e2.n, ci e2.scale, cst e2.s, cl eValue e2.items]), (40, .one (.pv (.rp (eValue.els p2.items) x1.toNat 0))), (39, vi x1), (38, vl eValue p2.items), (37, .one (.pv (.rp [[pi p2.kind, pi p2.n, pi p2.scale, .s (.string p2.s), .ro (eValue.els p2.items)]] 0 4))), (36, .ag [ci e1.type.kind, ci e1.type.scale, cl eField e1.type.fields]), (35, .one (.pt 0 0 0 3)), (34, vb false), (33, vb (e2.kind == (0 : Int))), (32, vb (e2.kind == (0 : Int))), (31, vi e2.kind), (30, .one (.pv (.rp (eValue.els p2.items) x1.toNat 0))), (29, .one (.pv (.rp (eValue.els p2.items) x1.toNat 0))), (28, vi x1), (27, vl eValue p2.items), (26, .one (.pv (.rp [[pi p2.kind, pi p2.n, pi p2.scale, .s (.string p2.s), .ro (eValue.els p2.items)]] 0 4))), (25, vb true), (24, vb e1.need), (23, .one (.pt 0 0 0 2)), (2, .one (.pv (.rp [[pi p1.kind, pi p1.scale, .ro (eField.els p1.fields)]] 0 0))), (3, .one (.pv (.rp [[pi p2.kind, pi p2.n, pi p2.scale, .s (.string p2.s), .ro (eValue.els p2.items)]] 0 0))), (5, vi x1), (7, .one (.pt 0 0 0 0)), (10, vi (p2.items.length : Int)), (11, vi x1)] (by kernel_rfl) (by kernel_rfl) ?_ ?_
                · refine DX.go 3 [] [(25, vb e1.need), (24, vb e1.need), (23, .one (.pt 0 0 0 2)), (2, .one (.pv (.rp [[pi p1.kind, pi p1.scale, .ro (eField.els p1.fields)]] 0 0))), (3, .one (.pv (.rp [[pi p2.kind, pi p2.n, pi p2.scale, .s (.string p2.s), .ro (eValue.els p2.items)]] 0 0))), (5, vi x1), (7, .one (.pt 0 0 0 0)), (10, vi (p2.items.length : Int)), (11, vi x1)] [] (by kernel_rfl) trivial ?_
                  refine DX.eq (fr1 := [(25, vb true), (24, vb e1.need), (23, .one (.pt 0 0 0 2)), (2, .one (.pv (.rp [[pi p1.kind, pi p1.scale, .ro (eField.els p1.fields)]] 0 0))), (3, .one (.pv (.rp [[pi p2.kind, pi p2.n, pi p2.scale, .s (.string p2.s), .ro (eValue.els p2.items)]] 0 0))), (5, vi x1), (7, .one (.pt 0 0 0 0)), (10, vi (p2.items.length : Int)), (11, vi x1)]) (by rw [b16]) ?_
                  refine DX.go 9 [[pi p2.kind, pi p2.n, pi p2.scale, .s (.string p2.s), .ro (eValue.els p2.items)], [pi e2.kind, pi e2.n, pi e2.scale, .s (.string e2.s), .ro (eValue.els e2.items)]] [(34, vb (e2.kind == (0 : Int))), (33, vb (e2.kind == (0 : Int))), (32, vb (e2.kind == (0 : Int))), (31, vi e2.kind), (30, .one (.pv (.rp (eValue.els p2.items) x1.toNat 0))), (29, .one (.pv (.rp (eValue.els p2.items) x1.toNat 0))), (28, vi x1), (27, vl eValue p2.items), (26, .one (.pv (.rp [[pi p2.kind, pi p2.n, pi p2.scale, .s (.string p2.s), .ro (eValue.els p2.items)]] 0 4))), (25, vb true), (24, vb e1.need), (23, .one (.pt 0 0 0 2)), (2, .one (.pv (.rp [[pi p1.kind, pi p1.scale, .ro (eField.els p1.fields)]] 0 0))), (3, .one (.pv (.rp [[pi p2.kind, pi p2.n, pi p2.scale, .s (.string p2.s), .ro (eValue.els p2.items)]] 0 0))), (5, vi x1), (7, .one (.pt 0 0 0 0)), (10, vi (p2.items.length : Int)), (11, vi x1)] [([[pi p2.kind, pi p2.n, pi p2.scale, .s (.string p2.s), .ro (eValue.els p2.items)]] : List (List PV))[0]? = some [pi p2.kind, pi p2.n, pi p2.scale, .s (.string p2.s), .ro (eValue.els p2.items)], 0 ≤ x1 ∧ x1 < ((eValue.els p2.items).length : Int) ∧ elemsOk 5 (eValue.els p2.items), (eValue.els p2.items)[x1.toNat]? = some [pi e2.kind, pi e2.n, pi e2.scale, .s (.string e2.s), .ro (eValue.els e2.items)]] (by kernel_rfl) (⟨rfl, eValue.inb a17, ((eValue.get a17).trans (by cases e2; rfl)), trivial⟩) ?_
                  refine DX.eq (fr1 := [(34, vb false), (33, vb (e2.kind == (0 : Int))), (32, vb (e2.kind == (0 : Int))), (31, vi e2.kind), (30, .one (.pv (.rp (eValue.els p2.items) x1.toNat 0))), (29, .one (.pv (.rp (eValue.els p2.items) x1.toNat 0))), (28, vi x1), (27, vl eValue p2.items), (26, .one (.pv (.rp [[pi p2.kind, pi p2.n, pi p2.scale, .s (.string p2.s), .ro (eValue.els p2.items)]] 0 4))), (25, vb true), (24, vb e1.need), (23, .one (.pt 0 0 0 2)), (2, .one (.pv (.rp [[pi p1.kind, pi p1.scale, .ro (eField.els p1.fields)]] 0 0))), (3, .one (.pv (.rp [[pi p2.kind, pi p2.n, pi p2.scale, .s (.string p2.s), .ro (eValue.els p2.items)]] 0 0))), (5, vi x1), (7, .one (.pt 0 0 0 0)), (10, vi (p2.items.length : Int)), (11, vi x1)]) (by rw [b18]) ?_
                  refine DX.go 7 [[pi p2.kind, pi p2.n, pi p2.scale, .s (.string p2.s), .ro (eValue.els p2.items)], [pi e2.kind, pi e2.n, pi e2.scale, .s (.string e2.s), .ro (eValue.els e2.items)]] [(41, .ag [ci e2.kind, ci e2.n, ci e2.scale, cst e2.s, cl eValue e2.items]), (40, .one (.pv (.rp (eValue.els p2.items) x1.toNat 0))), (39, vi x1), (38, vl eValue p2.items), (37, .one (.pv (.rp [[pi p2.kind, pi p2.n, pi p2.scale, .s (.string p2.s), .ro (eValue.els p2.items)]] 0 4))), (36, .ag [ci e1.type.kind, ci e1.type.scale, cl eField e1.type.fields]), (35, .one (.pt 0 0 0 3)), (34, vb false), (33, vb (e2.kind == (0 : Int))), (32, vb (e2.kind == (0 : Int))), (31, vi e2.kind), (30, .one (.pv (.rp (eValue.els p2.items) x1.toNat 0))), (29, .one (.pv (.rp (eValue.els p2.items) x1.toNat 0))), (28, vi x1), (27, vl eValue p2.items), (26, .one (.pv (.rp [[pi p2.kind, pi p2.n, pi p2.scale, .s (.string p2.s), .ro (eValue.els p2.items)]] 0 4))), (25, vb true), (24, vb e1.need), (23, .one (.pt 0 0 0 2)), (2, .one (.pv (.rp [[pi p1.kind, pi p1.scale, .ro (eField.els p1.fields)]] 0 0))), (3, .one (.pv (.rp [[pi p2.kind, pi p2.n, pi p2.scale, .s (.string p2.s), .ro (eValue.els p2.items)]] 0 0))), (5, vi x1), (7, .one (.pt 0 0 0 0)), (10, vi (p2.items.length : Int)), (11, vi x1)] [([[pi p2.kind, pi p2.n, pi p2.scale, .s (.string p2.s), .ro (eValue.els p2.items)]] : List (List PV))[0]? = some [pi p2.kind, pi p2.n, pi p2.scale, .s (.string p2.s), .ro (eValue.els p2.items)], 0 ≤ x1 ∧ x1 < ((eValue.els p2.items).length : Int) ∧ elemsOk 5 (eValue.els p2.items), (eValue.els p2.items)[x1.toNat]? = some [pi e2.kind, pi e2.n, pi e2.scale, .s (.string e2.s), .ro (eValue.els e2.items)]] (by kernel_rfl) (⟨rfl, eValue.inb a17, ((eValue.get a17).trans (by cases e2; rfl)), trivial⟩) ?_
                  exact DX.done (by kernel_rfl)
                refine XO.cal 38 [.ag [ci e1.type.kind, ci e1.type.scale, cl eField e1.type.fields], .ag [ci e2.kind, ci e2.n, ci e2.scale, cst e2.s, cl eValue e2.items]] (vb r1) [(42, vb r1), (41, .ag [ci e2.kind, ci e2.n, ci e2.scale, cst e2.s, cl eValue e2.items]), (40, .one (.pv (.rp (eValue.els p2.items) x1.toNat 0))), (39, vi x1), (38, vl eValue p2.items), (37, .one (.pv (.rp [[pi p2.kind, pi p2.n, pi p2.scale, .s (.string p2.s), .ro (eValue.els p2.items)]] 0 4))), (36, .ag [ci e1.type.kind, ci e1.type.scale, cl eField e1.type.fields]), (35, .one (.pt 0 0 0 3)), (34, vb false), (33, vb (e2.kind == (0 : Int))), (32, vb (e2.kind == (0 : Int))), (31, vi e2.kind), (30, .one (.pv (.rp (eValue.els p2.items) x1.toNat 0))), (29, .one (.pv (.rp (eValue.els p2.items) x1.toNat 0))), (28, vi x1), (27, vl eValue p2.items), (26, .one (.pv (.rp [[pi p2.kind, pi p2.n, pi p2.scale, .s (.string p2.s), .ro (eValue.els p2.items)]] 0 4))), (25, vb true), (24, vb e1.need), (23, .one (.pt 0 0 0 2)), (2, .one (.pv (.rp [[pi p1.kind, pi p1.scale, .ro (eField.els p1.fields)]] 0 0))), (3, .one (.pv (.rp [[pi p2.kind, pi p2.n, pi p2.scale, .s (.string p2.s), .ro (eValue.els p2.items)]] 0 0))), (5, vi x1), (7, .one (.pt 0 0 0 0)), (10, vi (p2.items.length : Int)), (11, vi x1)] (by kernel_rfl) (c_ref1_missing k0 _ _ _ c19) rfl rfl (by kernel_rfl) ?_
                refine XO.go [7] 1 [2,3,10,11,43] [] [(2, .one (.pv (.rp [[pi p1.kind, pi p1.scale, .ro (eField.els p1.fields)]] 0 0))), (3, .one (.pv (.rp [[pi p2.kind, pi p2.n, pi p2.scale, .s (.string p2.s), .ro (eValue.els p2.items)]] 0 0))), (10, vi (p2.items.length : Int)), (11, vi x1), (43, vb r1)] [.box [ci e1.id, cst e1.name, cb e1.need, ci e1.type.kind, ci e1.type.scale, cl eField e1.type.fields]] [] (by kernel_rfl) trivial ?_
                refine XO.done (by kernel_rfl) ?_
                exact hJ2 r1 h _ _ (Sub.pick [2,3,10,11,43] (by kernel_rfl))
            · have h := ift_f b16 h
              obtain ⟨e3, a20, h⟩ := bnd_some h
              obtain ⟨r2, c21, h⟩ := bnd_some h
              refine XW.drwS 19 [(41, .ag [ci e3.kind, ci e3.n, ci e3.scale, cst e3.s, cl eValue e3.items]), (40, .one (.pv (.rp (eValue.els p2.items) x1.toNat 0))), (39, vi x1), (38, vl eValue p2.items), (37, .one (.pv (.rp [[pi p2.kind, pi p2.n, pi p2.scale, .s (.string p2.s), .ro (eValue.els p2.items)]] 0 4))), (36, .ag [ci e1.type.kind, ci e1.type.scale, cl eField e1.type.fields]), (35, .one (.pt 0 0 0 3)), (34, vb false), (33, vb false), (32, .tp []), (31, .tp []), (30, .tp []), (29, .tp []), (28, .tp []), (27, .tp []), (26, .tp []), (25, vb false), (24, vb e1.need), (23, .one (.pt 0 0 0 2)), (2, .one (.pv (.rp [[pi p1.kind, pi p1.scale, .ro (eField.els p1.fields)]] 0 0))), (3, .one (.pv (.rp [[pi p2.kind, pi p2.n, pi p2.scale, .s (.string p2.s), .ro (eValue.els p2.items)]] 0 0))), (5, vi x1), (7, .one (.pt 0 0 0 0)), (10, vi (p2.items.length : Int)), (11, vi x1)] (by kernel_rfl) (by kernel_rfl) ?_ ?_
              · refine DX.go 3 [] [(25, vb e1.need), (24, vb e1.need), (23, .one (.pt 0 0 0 2)), (2, .one (.pv (.rp [[pi p1.kind, pi p1.scale, .ro (eField.els p1.fields)]] 0 0))), (3, .one (.pv (.rp [[pi p2.kind, pi p2.n, pi p2.scale, .s (.string p2.s), .ro (eValue.els p2.items)]] 0 0))), (5, vi x1), (7, .one (.pt 0 0 0 0)), (10, vi (p2.items.length : Int)), (11, vi x1)] [] (by kernel_rfl) trivial ?_
                refine DX.eq (fr1 := [(25, vb false), (24, vb e1.need), (23, .one (.pt 0 0 0 2)), (2, .one (.pv (.rp [[pi p1.kind, pi p1.scale, .ro (eField.els p1.fields)]] 0 0))), (3, .one (.pv (.rp [[pi p2.kind, pi p2.n, pi p2.scale, .s (.string p2.s), .ro (eValue.els p2.items)]] 0 0))), (5, vi x1), (7, .one (.pt 0 0 0 0)), (10, vi (p2.items.length : Int)), (11, vi x1)]) (by rw [b16]) ?_
                refine DX.go 16 [[pi p2.kind, pi p2.n, pi p2.scale, .s (.string p2.s), .ro (eValue.els p2.items)], [pi e3.kind, pi e3.n, pi e3.scale, .s (.string e3.s), .ro (eValue.els e3.items)]] [(41, .ag [ci e3.kind, ci e3.n, ci e3.scale, cst e3.s, cl eValue e3.items]), (40, .one (.pv (.rp (eValue.els p2.items) x1.toNat 0))), (39, vi x1), (38, vl eValue p2.items), (37, .one (.pv (.rp [[pi p2.kind, pi p2.n, pi p2.scale, .s (.string p2.s), .ro (eValue.els p2.items)]] 0 4))), (36, .ag [ci e1.type.kind, ci e1.type.scale, cl eField e1.type.fields]), (35, .one (.pt 0 0 0 3)), (34, vb false), (33, vb false), (32, .tp []), (31, .tp []), (30, .tp []), (29, .tp []), (28, .tp []), (27, .tp []), (26, .tp []), (25, vb false), (24, vb e1.need), (23, .one (.pt 0 0 0 2)), (2, .one (.pv (.rp [[pi p1.kind, pi p1.scale, .ro (eField.els p1.fields)]] 0 0))), (3, .one (.pv (.rp [[pi p2.kind, pi p2.n, pi p2.scale, .s (.string p2.s), .ro (eValue.els p2.items)]] 0 0))), (5, vi x1), (7, .one (.pt 0 0 0 0)), (10, vi (p2.items.length : Int)), (11, vi x1)] [([[pi p2.kind, pi p2.n, pi p2.scale, .s (.string p2.s), .ro (eValue.els p2.items)]] : List (List PV))[0]? = some [pi p2.kind, pi p2.n, pi p2.scale, .s (.string p2.s), .ro (eValue.els p2.items)], 0 ≤ x1 ∧ x1 < ((eValue.els p2.items).length : Int) ∧ elemsOk 5 (eValue.els p2.items), (eValue.els p2.items)[x1.toNat]? = some [pi e3.kind, pi e3.n, pi e3.scale, .s (.string e3.s), .ro (eValue.els e3.items)]] (by kernel_rfl) (⟨rfl, eValue.inb a20, ((eValue.get a20).trans (by cases e3; rfl)), trivial⟩) ?_
                exact DX.done (by kernel_rfl)
              refine XO.cal 38 [.ag [ci e1.type.kind, ci e1.type.scale, cl eField e1.type.fields], .ag [ci e3.kind, ci e3.n, ci e3.scale, cst e3.s, cl eValue e3.items]] (vb r2) [(42, vb r2), (41, .ag [ci e3.kind, ci e3.n, ci e3.scale, cst e3.s, cl eValue e3.items]), (40, .one (.pv (.rp (eValue.els p2.items) x1.toNat 0))), (39, vi x1), (38, vl eValue p2.items), (37, .one (.pv (.rp [[pi p2.kind, pi p2.n, pi p2.scale, .s (.string p2.s), .ro (eValue.els p2.items)]] 0 4))), (36, .ag [ci e1.type.kind, ci e1.type.scale, cl eField e1.type.fields]), (35, .one (.pt 0 0 0 3)), (34, vb false), (33, vb false), (32, .tp []), (31, .tp []), (30, .tp []), (29, .tp []), (28, .tp []), (27, .tp []), (26, .tp []), (25, vb false), (24, vb e1.need), (23, .one (.pt 0 0 0 2)), (2, .one (.pv (.rp [[pi p1.kind, pi p1.scale, .ro (eField.els p1.fields)]] 0 0))), (3, .one (.pv (.rp [[pi p2.kind, pi p2.n, pi p2.scale, .s (.string p2.s), .ro (eValue.els p2.items)]] 0 0))), (5, vi x1), (7, .one (.pt 0 0 0 0)), (10, vi (p2.items.length : Int)), (11, vi x1)] (by kernel_rfl) (c_ref1_missing k0 _ _ _ c21) rfl rfl (by kernel_rfl) ?_
              refine XO.go [7] 1 [2,3,10,11,43] [] [(2, .one (.pv (.rp [[pi p1.kind, pi p1.scale, .ro (eField.els p1.fields)]] 0 0))), (3, .one (.pv (.rp [[pi p2.kind, pi p2.n, pi p2.scale, .s (.string p2.s), .ro (eValue.els p2.items)]] 0 0))), (10, vi (p2.items.length : Int)), (11, vi x1), (43, vb r2)] [.box [ci e1.id, cst e1.name, cb e1.need, ci e1.type.kind, ci e1.type.scale, cl eField e1.type.fields]] [] (by kernel_rfl) trivial ?_
              refine XO.done (by kernel_rfl) ?_
              exact hJ2 r2 h _ _ (Sub.pick [2,3,10,11,43] (by kernel_rfl))
          refine XW.seq (x := cd Tryd.f38 [1,0,1,0,0,1,1,0,0,1,1,0,0]) (y := cd Tryd.f38 [1,0,1,0,0,1,1,0,0,1,1,0,1]) (by kernel_rfl) fun K11 hK11 => ?_
          refine XW.reg (by kernel_rfl) ?_
          refine XO.go [7] 3 [2,3,5,6,10,11,17] [[pi p1.kind, pi p1.scale, .ro (eField.els p1.fields)]] [(2, .one (.pv (.rp [[pi p1.kind, pi p1.scale, .ro (eField.els p1.fields)]] 0 0))), (3, .one (.pv (.rp [[pi p2.kind, pi p2.n, pi p2.scale, .s (.string p2.s), .ro (eValue.els p2.items)]] 0 0))), (5, vi x1), (6, vi x1), (10, vi (p2.items.length : Int)), (11, vi x1), (17, vb (p1.kind == (6 : Int)))] [] [([[pi p1.kind, pi p1.scale, .ro (eField.els p1.fields)]] : List (List PV))[0]? = some [pi p1.kind, pi p1.scale, .ro (eField.els p1.fields)]] (by kernel_rfl) (⟨rfl, trivial⟩) ?_
          refine XO.done (by kernel_rfl) ?_
          refine hK11 _ _ ?_
          refine XW.cond (x := .tmp 17) (a := cd Tryd.f38 [1,0,1,0,0,1,1,0,0,1,1,0,1,0]) (b := cd Tryd.f38 [1,0,1,0,0,1,1,0,0,1,1,0,1,1]) (t := (p1.kind == (6 : Int))) (by kernel_rfl) (by kernel_rfl) (fun b12 => ?_) (fun b12 => ?_)
          · have h := ift_t b12 h
            refine XW.reg (by kernel_rfl) ?_
            refine XO.go [7] 1 [2,3,5,6,10,11] [] [(2, .one (.pv (.rp [[pi p1.kind, pi p1.scale, .ro (eField.els p1.fields)]] 0 0))), (3, .one (.pv (.rp [[pi p2.kind, pi p2.n, pi p2.scale, .s (.string p2.s), .ro (eValue.els p2.items)]] 0 0))), (5, vi x1), (6, vi (0 : Int)), (10, vi (p2.items.length : Int)), (11, vi x1)] [] [] (by kernel_rfl) trivial ?_
            refine XO.done (by kernel_rfl) ?_
            exact hJ1 (0 : Int) h _ _ (Sub.pick [2,3,5,6,10,11] (by kernel_rfl))
          · have h := ift_f b12 h
            refine XW.skip (by kernel_rfl) ?_
            exact hJ1 x1 h _ _ (Sub.pick [2,3,5,6,10,11] (by kernel_rfl))
        · have h := ift_f b6 h
          refine XW.exit (id := 0) (by kernel_rfl) ?_
          refine hQ1 _ _ _ ?_
          exact hJ3 () h _ _ (Sub.pick [] (by kernel_rfl))
    exact XR.sub (Sub.pick [2,3,10,11] (by kernel_rfl)) (hL1 BIG (0 : Int) h)

def ref1_Check (p1 : GType) (p2 : GValue) : Option Int :=
    bnd (ref1_CheckType p1) fun r1 =>
    ift (r1 != (0 : Int))
      (some r1)
      (bnd (ref1_Sound p2) fun r2 =>
       ift (!r2)
         (some (1 : Int))
         (bnd (ref1_of BIG p1 p2) fun r3 =>
          ift (!r3)
            (some (2 : Int))
            (bnd (ref1_missing BIG p1 p2) fun r4 =>
             ift r4
               (some (9 : Int))
               (some (0 : Int)))))


theorem c_ref1_Check (p1 : GType) (p2 : GValue) (r : Int) (h : ref1_Check p1 p2 = some r) : PC Tryd.prog 13 [.ag [ci p1.kind, ci p1.scale, cl eField p1.fields], .ag [ci p2.kind, ci p2.n, ci p2.scale, cst p2.s, cl eValue p2.items]] (vi r) := by
  unfold ref1_Check at h
  refine PC.of (n := 21) (fn := Tryd.f13) (c := cd Tryd.f13 []) (by kernel_rfl) (by kernel_rfl) (by kernel_rfl) (Nat.le_of_ble_eq_true rfl) ?_
  refine XW.seq (x := cd Tryd.f13 [0]) (y := cd Tryd.f13 [1]) (by kernel_rfl) fun K1 hK1 => ?_
  refine XW.reg (by kernel_rfl) ?_
  refine XO.go [] 3 [2,3] [] [(2, .one (.pv (.rp [[pi p1.kind, pi p1.scale, .ro (eField.els p1.fields)]] 0 0))), (3, .one (.pv (.rp [[pi p2.kind, pi p2.n, pi p2.scale, .s (.string p2.s), .ro (eValue.els p2.items)]] 0 0)))] [] [] (by kernel_rfl) trivial ?_
  refine XO.done (by kernel_rfl) ?_
  refine hK1 _ _ ?_
  refine XW.seq (x := cd Tryd.f13 [1,0]) (y := cd Tryd.f13 [1,1]) (by kernel_rfl) fun K2 hK2 => ?_
  refine XW.seq (x := cd Tryd.f13 [1,0,0]) (y := cd Tryd.f13 [1,0,1]) (by kernel_rfl) fun K3 hK3 => ?_
  obtain ⟨r1, c4, h⟩ := bnd_some h
  refine XW.reg (by kernel_rfl) ?_
  refine XO.go [] 1 [2,3,6] [[pi p1.kind, pi p1.scale, .ro (eField.els p1.fields)]] [(2, .one (.pv (.rp [[pi p1.kind, pi p1.scale, .ro (eField.els p1.fields)]] 0 0))), (3, .one (.pv (.rp [[pi p2.kind, pi p2.n, pi p2.scale, .s (.string p2.s), .ro (eValue.els p2.items)]] 0 0))), (6, .ag [ci p1.kind, ci p1.scale, cl eField p1.fields])] [] [([[pi p1.kind, pi p1.scale, .ro (eField.els p1.fields)]] : List (List PV))[0]? = some [pi p1.kind, pi p1.scale, .ro (eField.els p1.fields)]] (by kernel_rfl) (⟨rfl, trivial⟩) ?_
  refine XO.cal 36 [.ag [ci p1.kind, ci p1.scale, cl eField p1.fields]] (vi r1) [(7, vi r1), (2, .one (.pv (.rp [[pi p1.kind, pi p1.scale, .ro (eField.els p1.fields)]] 0 0))), (3, .one (.pv (.rp [[pi p2.kind, pi p2.n, pi p2.scale, .s (.string p2.s), .ro (eValue.els p2.items)]] 0 0))), (6, .ag [ci p1.kind, ci p1.scale, cl eField p1.fields])] (by kernel_rfl) (c_ref1_CheckType _ _ c4) rfl rfl (by kernel_rfl) ?_
  refine XO.go [] 1 [2,3,5] [] [(2, .one (.pv (.rp [[pi p1.kind, pi p1.scale, .ro (eField.els p1.fields)]] 0 0))), (3, .one (.pv (.rp [[pi p2.kind, pi p2.n, pi p2.scale, .s (.string p2.s), .ro (eValue.els p2.items)]] 0 0))), (5, vi r1)] [] [] (by kernel_rfl) trivial ?_
  refine XO.done (by kernel_rfl) ?_
  refine hK3 _ _ ?_
  refine XW.seq (x := cd Tryd.f13 [1,0,1,0]) (y := cd Tryd.f13 [1,0,1,1]) (by kernel_rfl) fun K5 hK5 => ?_
  refine XW.reg (by kernel_rfl) ?_
  refine XO.go [] 2 [2,3,5,9] [] [(2, .one (.pv (.rp [[pi p1.kind, pi p1.scale, .ro (eField.els p1.fields)]] 0 0))), (3, .one (.pv (.rp [[pi p2.kind, pi p2.n, pi p2.scale, .s (.string p2.s), .ro (eValue.els p2.items)]] 0 0))), (5, vi r1), (9, vb (r1 != (0 : Int)))] [] [] (by kernel_rfl) trivial ?_
  refine XO.done (by kernel_rfl) ?_
  refine hK5 _ _ ?_
  refine XW.cond (x := .tmp 9) (a := cd Tryd.f13 [1,0,1,1,0]) (b := cd Tryd.f13 [1,0,1,1,1]) (t := (r1 != (0 : Int))) (by kernel_rfl) (by kernel_rfl) (fun b6 => ?_) (fun b6 => ?_)
  · have h := ift_t b6 h
    refine XW.seq (x := cd Tryd.f13 [1,0,1,1,0,0]) (y := cd Tryd.f13 [1,0,1,1,0,1]) (by kernel_rfl) fun K7 hK7 => ?_
    refine XW.reg (by kernel_rfl) ?_
    refine XO.go [] 2 [4] [] [(4, vi r1)] [] [] (by kernel_rfl) trivial ?_
    refine XO.done (by kernel_rfl) ?_
    refine hK7 _ _ ?_
    refine XW.ret (by kernel_rfl) ?_
    obtain rfl := Option.some.inj h
    exact FinP.fin (.inr rfl) [] [vi r1] [] (by kernel_rfl) trivial (.one (.rfl _ rfl))
  · have h := ift_f b6 h
    refine XW.skip (by kernel_rfl) ?_
    refine hK2 _ _ ?_
    refine XW.seq (x := cd Tryd.f13 [1,1,0]) (y := cd Tryd.f13 [1,1,1]) (by kernel_rfl) fun K8 hK8 => ?_
    refine XW.seq (x := cd Tryd.f13 [1,1,0,0]) (y := cd Tryd.f13 [1,1,0,1]) (by kernel_rfl) fun K9 hK9 => ?_
    obtain ⟨r2, c10, h⟩ := bnd_some h
    refine XW.reg (by kernel_rfl) ?_
    refine XO.go [] 1 [2,3,11] [[pi p2.kind, pi p2.n, pi p2.scale, .s (.string p2.s), .ro (eValue.els p2.items)]] [(2, .one (.pv (.rp [[pi p1.kind, pi p1.scale, .ro (eField.els p1.fields)]] 0 0))), (3, .one (.pv (.rp [[pi p2.kind, pi p2.n, pi p2.scale, .s (.string p2.s), .ro (eValue.els p2.items)]] 0 0))), (11, .ag [ci p2.kind, ci p2.n, ci p2.scale, cst p2.s, cl eValue p2.items])] [] [([[pi p2.kind, pi p2.n, pi p2.scale, .s (.string p2.s), .ro (eValue.els p2.items)]] : List (List PV))[0]? = some [pi p2.kind, pi p2.n, pi p2.scale, .s (.string p2.s), .ro (eValue.els p2.items)]] (by kernel_rfl) (⟨rfl, trivial⟩) ?_
    refine XO.cal 11 [.ag [ci p2.kind, ci p2.n, ci p2.scale, cst p2.s, cl eValue p2.items]] (vb r2) [(12, vb r2), (2, .one (.pv (.rp [[pi p1.kind, pi p1.scale, .ro (eField.els p1.fields)]] 0 0))), (3, .one (.pv (.rp [[pi p2.kind, pi p2.n, pi p2.scale, .s (.string p2.s), .ro (eValue.els p2.items)]] 0 0))), (11, .ag [ci p2.kind, ci p2.n, ci p2.scale, cst p2.s, cl eValue p2.items])] (by kernel_rfl) (c_ref1_Sound _ _ c10) rfl rfl (by kernel_rfl) ?_
    refine XO.go [] 1 [2,3,13] [] [(2, .one (.pv (.rp [[pi p1.kind, pi p1.scale, .ro (eField.els p1.fields)]] 0 0))), (3, .one (.pv (.rp [[pi p2.kind, pi p2.n, pi p2.scale, .s (.string p2.s), .ro (eValue.els p2.items)]] 0 0))), (13, vb (!r2))] [] [] (by kernel_rfl) trivial ?_
    refine XO.done (by kernel_rfl) ?_
    refine hK9 _ _ ?_
    refine XW.cond (x := .tmp 13) (a := cd Tryd.f13 [1,1,0,1,0]) (b := cd Tryd.f13 [1,1,0,1,1]) (t := (!r2)) (by kernel_rfl) (by kernel_rfl) (fun b11 => ?_) (fun b11 => ?_)
    · have h := ift_t b11 h
      refine XW.seq (x := cd Tryd.f13 [1,1,0,1,0,0]) (y := cd Tryd.f13 [1,1,0,1,0,1]) (by kernel_rfl) fun K12 hK12 => ?_
      refine XW.reg (by kernel_rfl) ?_
      refine XO.go [] 1 [4] [] [(4, vi (1 : Int))] [] [] (by kernel_rfl) trivial ?_
      refine XO.done (by kernel_rfl) ?_
      refine hK12 _ _ ?_
      refine XW.ret (by kernel_rfl) ?_
      obtain rfl := Option.some.inj h
      exact FinP.fin (.inr rfl) [] [vi (1 : Int)] [] (by kernel_rfl) trivial (.one (.rfl _ rfl))
    · have h := ift_f b11 h
      refine XW.skip (by kernel_rfl) ?_
      refine hK8 _ _ ?_
      refine XW.seq (x := cd Tryd.f13 [1,1,1,0]) (y := cd Tryd.f13 [1,1,1,1]) (by kernel_rfl) fun K13 hK13 => ?_
      refine XW.seq (x := cd Tryd.f13 [1,1,1,0,0]) (y := cd Tryd.f13 [1,1,1,0,1]) (by kernel_rfl) fun K14 hK14 => ?_
      obtain ⟨r3, c15, h⟩ := bnd_some h
      refine XW.reg (by kernel_rfl) ?_
      refine XO.go [] 2 [2,3,14,15] [[pi p1.kind, pi p1.scale, .ro (eField.els p1.fields)], [pi p2.kind, pi p2.n, pi p2.scale, .s (.string p2.s), .ro (eValue.els p2.items)]] [(2, .one (.pv (.rp [[pi p1.kind, pi p1.scale, .ro (eField.els p1.fields)]] 0 0))), (3, .one (.pv (.rp [[pi p2.kind, pi p2.n, pi p2.scale, .s (.string p2.s), .ro (eValue.els p2.items)]] 0 0))), (14, .ag [ci p1.kind, ci p1.scale, cl eField p1.fields]), (15, .ag [ci p2.kind, ci p2.n, ci p2.scale, cst p2.s, cl eValue p2.items])] [] [([[pi p1.kind, pi p1.scale, .ro (eField.els p1.fields)]] : List (List PV))[0]? = some [pi p1.kind, pi p1.scale, .ro (eField.els p1.fields)], ([[pi p2.kind, pi p2.n, pi p2.scale, .s (.string p2.s), .ro (eValue.els p2.items)]] : List (List PV))[0]? = some [pi p2.kind, pi p2.n, pi p2.scale, .s (.string p2.s), .ro (eValue.els p2.items)]] (by kernel_rfl) (⟨rfl, rfl, trivial⟩) ?_
      refine XO.cal 37 [.ag [ci p1.kind, ci p1.scale, cl eField p1.fields], .ag [ci p2.kind, ci p2.n, ci p2.scale, cst p2.s, cl eValue p2.items]] (vb r3) [(16, vb r3), (2, .one (.pv (.rp [[pi p1.kind, pi p1.scale, .ro (eField.els p1.fields)]] 0 0))), (3, .one (.pv (.rp [[pi p2.kind, pi p2.n, pi p2.scale, .s (.string p2.s), .ro (eValue.els p2.items)]] 0 0))), (14, .ag [ci p1.kind, ci p1.scale, cl eField p1.fields]), (15, .ag [ci p2.kind, ci p2.n, ci p2.scale, cst p2.s, cl eValue p2.items])] (by kernel_rfl) (c_ref1_of BIG _ _ _ c15) rfl rfl (by kernel_rfl) ?_
      refine XO.go [] 1 [2,3,17] [] [(2, .one (.pv (.rp [[pi p1.kind, pi p1.scale, .ro (eField.els p1.fields)]] 0 0))), (3, .one (.pv (.rp [[pi p2.kind, pi p2.n, pi p2.scale, .s (.string p2.s), .ro (eValue.els p2.items)]] 0 0))), (17, vb (!r3))] [] [] (by kernel_rfl) trivial ?_
      refine XO.done (by kernel_rfl) ?_
      refine hK14 _ _ ?_
      refine XW.cond (x := .tmp 17) (a := cd Tryd.f13 [1,1,1,0,1,0]) (b := cd Tryd.f13 [1,1,1,0,1,1]) (t := (!r3)) (by kernel_rfl) (by kernel_rfl) (fun b16 => ?_) (fun b16 => ?_)
      · have h := ift_t b16 h
        refine XW.seq (x := cd Tryd.f13 [1,1,1,0,1,0,0]) (y := cd Tryd.f13 [1,1,1,0,1,0,1]) (by kernel_rfl) fun K17 hK17 => ?_
        refine XW.reg (by kernel_rfl) ?_
        refine XO.go [] 1 [4] [] [(4, vi (2 : Int))] [] [] (by kernel_rfl) trivial ?_
        refine XO.done (by kernel_rfl) ?_
        refine hK17 _ _ ?_
        refine XW.ret (by kernel_rfl) ?_
        obtain rfl := Option.some.inj h
        exact FinP.fin (.inr rfl) [] [vi (2 : Int)] [] (by kernel_rfl) trivial (.one (.rfl _ rfl))
      · have h := ift_f b16 h
        refine XW.skip (by kernel_rfl) ?_
        refine hK13 _ _ ?_
        refine XW.seq (x := cd Tryd.f13 [1,1,1,1,0]) (y := cd Tryd.f13 [1,1,1,1,1]) (by kernel_rfl) fun K18 hK18 => ?_
        refine XW.seq (x := cd Tryd.f13 [1,1,1,1,0,0]) (y := cd Tryd.f13 [1,1,1,1,0,1]) (by kernel_rfl) fun K19 hK19 => ?_
        obtain ⟨r4, c20, h⟩ := bnd_some h
        refine XW.reg (by kernel_rfl) ?_
        refine XO.go [] 2 [18,19] [[pi p1.kind, pi p1.scale, .ro (eField.els p1.fields)], [pi p2.kind, pi p2.n, pi p2.scale, .s (.string p2.s), .ro (eValue.els p2.items)]] [(18, .ag [ci p1.kind, ci p1.scale, cl eField p1.fields]), (19, .ag [ci p2.kind, ci p2.n, ci p2.scale, cst p2.s, cl eValue p2.items])] [] [([[pi p1.kind, pi p1.scale, .ro (eField.els p1.fields)]] : List (List PV))[0]? = some [pi p1.kind, pi p1.scale, .ro (eField.els p1.fields)], ([[pi p2.kind, pi p2.n, pi p2.scale, .s (.string p2.s), .ro (eValue.els p2.items)]] : List (List PV))[0]? = some [pi p2.kind, pi p2.n, pi p2.scale, .s (.string p2.s), .ro (eValue.els p2.items)]] (by kernel_rfl) (⟨rfl, rfl, trivial⟩) ?_
        refine XO.cal 38 [.ag [ci p1.kind, ci p1.scale, cl eField p1.fields], .ag [ci p2.kind, ci p2.n, ci p2.scale, cst p2.s, cl eValue p2.items]] (vb r4) [(20, vb r4), (18, .ag [ci p1.kind, ci p1.scale, cl eField p1.fields]), (19, .ag [ci p2.kind, ci p2.n, ci p2.scale, cst p2.s, cl eValue p2.items])] (by kernel_rfl) (c_ref1_missing BIG _ _ _ c20) rfl rfl (by kernel_rfl) ?_
        refine XO.done (by kernel_rfl) ?_
        refine hK19 _ _ ?_
        refine XW.cond (x := .tmp 20) (a := cd Tryd.f13 [1,1,1,1,0,1,0]) (b := cd Tryd.f13 [1,1,1,1,0,1,1]) (t := r4) (by kernel_rfl) (by kernel_rfl) (fun b21 => ?_) (fun b21 => ?_)
        · have h := ift_t b21 h
          refine XW.seq (x := cd Tryd.f13 [1,1,1,1,0,1,0,0]) (y := cd Tryd.f13 [1,1,1,1,0,1,0,1]) (by kernel_rfl) fun K22 hK22 => ?_
          refine XW.reg (by kernel_rfl) ?_
          refine XO.go [] 1 [4] [] [(4, vi (9 : Int))] [] [] (by kernel_rfl) trivial ?_
          refine XO.done (by kernel_rfl) ?_
          refine hK22 _ _ ?_
          refine XW.ret (by kernel_rfl) ?_
          obtain rfl := Option.some.inj h
          exact FinP.fin (.inr rfl) [] [vi (9 : Int)] [] (by kernel_rfl) trivial (.one (.rfl _ rfl))
        · have h := ift_f b21 h
          refine XW.skip (by kernel_rfl) ?_
          refine hK18 _ _ ?_
          refine XW.seq (x := cd Tryd.f13 [1,1,1,1,1,0]) (y := cd Tryd.f13 [1,1,1,1,1,1]) (by kernel_rfl) fun K23 hK23 => ?_
          refine XW.reg (by kernel_rfl) ?_
          refine XO.go [] 1 [4] [] [(4, vi (0 : Int))] [] [] (by kernel_rfl) trivial ?_
          refine XO.done (by kernel_rfl) ?_
          refine hK23 _ _ ?_
          refine XW.ret (by kernel_rfl) ?_
          obtain rfl := Option.some.inj h
          exact FinP.fin (.inr rfl) [] [vi (0 : Int)] [] (by kernel_rfl) trivial (.one (.rfl _ rfl))

def law1_ValueChecksMatchSpec_j1 (x1 : Bool) : Option Bool :=
    some x1

def law1_ValueChecksMatchSpec (p1 : GType) (p2 : GValue) : Option Bool :=
    bnd (law1_number (5 : Int)) fun r1 =>
    bnd (value_Sound r1) fun r2 =>
    ift r2
      (bnd (value_Sound p2) fun r3 =>
       bnd (ref1_Sound p2) fun r4 =>
       ift (r3 == r4)
         (bnd (value_Check p1 p2) fun r5 =>
          bnd (ref1_Check p1 p2) fun r6 =>
          law1_ValueChecksMatchSpec_j1 (r5 == r6))
         (law1_ValueChecksMatchSpec_j1 false))
      (law1_ValueChecksMatchSpec_j1 false)


theorem c_law1_ValueChecksMatchSpec (p1 : GType) (p2 : GValue) (r : Bool) (h : law1_ValueChecksMatchSpec p1 p2 = some r) : PC Tryd.prog 3 [.ag [ci p1.kind, ci p1.scale, cl eField p1.fields], .ag [ci p2.kind, ci p2.n, ci p2.scale, cst p2.s, cl eValue p2.items]] (vb r) := by
  unfold law1_ValueChecksMatchSpec at h
  refine PC.of (n := 23) (fn := Tryd.f3) (c := cd Tryd.f3 []) (by kernel_rfl) (by kernel_rfl) (by kernel_rfl) (Nat.le_of_ble_eq_true rfl) ?_
  refine XW.seq (x := cd Tryd.f3 [0]) (y := cd Tryd.f3 [1]) (by kernel_rfl) fun K1 hK1 => ?_
  refine XW.reg (by kernel_rfl) ?_
  refine XO.go [] 3 [2,3] [] [(2, .one (.pv (.rp [[pi p1.kind, pi p1.scale, .ro (eField.els p1.fields)]] 0 0))), (3, .one (.pv (.rp [[pi p2.kind, pi p2.n, pi p2.scale, .s (.string p2.s), .ro (eValue.els p2.items)]] 0 0)))] [] [] (by kernel_rfl) trivial ?_
  refine XO.done (by kernel_rfl) ?_
  refine hK1 _ _ ?_
  refine XW.seq (x := cd Tryd.f3 [1,0]) (y := cd Tryd.f3 [1,1]) (by kernel_rfl) fun K2 hK2 => ?_
  have hJ1 : ∀ (x1 : Bool), law1_ValueChecksMatchSpec_j1 x1 = some r → ∀ fr1 st1, Sub 23 0 [] fr1 st1 [(4, vb x1)] [] → K2 fr1 st1 := by
    intro x1 h fr1 st1 hS
    unfold law1_ValueChecksMatchSpec_j1 at h
    refine hK2 _ _ (XW.sub hS ?_)
    refine XW.ret (by kernel_rfl) ?_
    obtain rfl := Option.some.inj h
    exact FinP.fin (.inr rfl) [] [vb x1] [] (by kernel_rfl) trivial (.one (.rfl _ rfl))
  obtain ⟨r1, c3, h⟩ := bnd_some h
  obtain ⟨r2, c4, h⟩ := bnd_some h
  rcases Bool.eq_false_or_eq_true r2 with b5 | b5
  · have h := ift_t b5 h
    obtain ⟨r3, c6, h⟩ := bnd_some h
    obtain ⟨r4, c7, h⟩ := bnd_some h
    rcases Bool.eq_false_or_eq_true (r3 == r4) with b8 | b8
    · have h := ift_t b8 h
      obtain ⟨r5, c9, h⟩ := bnd_some h
      obtain ⟨r6, c10, h⟩ := bnd_some h
      refine XW.drwS 15 [(19, .ag [ci p2.kind, ci p2.n, ci p2.scale, cst p2.s, cl eValue p2.items]), (18, .ag [ci p1.kind, ci p1.scale, cl eField p1.fields]), (17, vi r5), (16, .ag [ci p2.kind, ci p2.n, ci p2.scale, cst p2.s, cl eValue p2.items]), (15, .ag [ci p1.kind, ci p1.scale, cl eField p1.fields]), (14, vb true), (13, vb (r3 == r4)), (12, vb (r3 == r4)), (11, vb r4), (10, .ag [ci p2.kind, ci p2.n, ci p2.scale, cst p2.s, cl eValue p2.items]), (9, vb r3), (8, .ag [ci p2.kind, ci p2.n, ci p2.scale, cst p2.s, cl eValue p2.items]), (7, vb true), (6, vb r2), (5, .ag [ci r1.kind, ci r1.n, ci r1.scale, cst r1.s, cl eValue r1.items]), (2, .one (.pv (.rp [[pi p1.kind, pi p1.scale, .ro (eField.els p1.fields)]] 0 0))), (3, .one (.pv (.rp [[pi p2.kind, pi p2.n, pi p2.scale, .s (.string p2.s), .ro (eValue.els p2.items)]] 0 0)))] (by kernel_rfl) (by kernel_rfl) ?_ ?_
      · refine DX.cal 10 [vi (5 : Int)] (.ag [ci r1.kind, ci r1.n, ci r1.scale, cst r1.s, cl eValue r1.items]) [(5, .ag [ci r1.kind, ci r1.n, ci r1.scale, cst r1.s, cl eValue r1.items]), (2, .one (.pv (.rp [[pi p1.kind, pi p1.scale, .ro (eField.els p1.fields)]] 0 0))), (3, .one (.pv (.rp [[pi p2.kind, pi p2.n, pi p2.scale, .s (.string p2.s), .ro (eValue.els p2.items)]] 0 0)))] (by kernel_rfl) (c_law1_number _ _ c3) rfl rfl (by kernel_rfl) ?_
        refine DX.cal 9 [.ag [ci r1.kind, ci r1.n, ci r1.scale, cst r1.s, cl eValue r1.items]] (vb r2) [(6, vb r2), (5, .ag [ci r1.kind, ci r1.n, ci r1.scale, cst r1.s, cl eValue r1.items]), (2, .one (.pv (.rp [[pi p1.kind, pi p1.scale, .ro (eField.els p1.fields)]] 0 0))), (3, .one (.pv (.rp [[pi p2.kind, pi p2.n, pi p2.scale, .s (.string p2.s), .ro (eValue.els p2.items)]] 0 0)))] (by kernel_rfl) (c_value_Sound _ _ c4) rfl rfl (by kernel_rfl) ?_
        refine DX.go 1 [] [(7, vb r2), (6, vb r2), (5, .ag [ci r1.kind, ci r1.n, ci r1.scale, cst r1.s, cl eValue r1.items]), (2, .one (.pv (.rp [[pi p1.kind, pi p1.scale, .ro (eField.els p1.fields)]] 0 0))), (3, .one (.pv (.rp [[pi p2.kind, pi p2.n, pi p2.scale, .s (.string p2.s), .ro (eValue.els p2.items)]] 0 0)))] [] (by kernel_rfl) trivial ?_
        refine DX.eq (fr1 := [(7, vb true), (6, vb r2), (5, .ag [ci r1.kind, ci r1.n, ci r1.scale, cst r1.s, cl eValue r1.items]), (2, .one (.pv (.rp [[pi p1.kind, pi p1.scale, .ro (eField.els p1.fields)]] 0 0))), (3, .one (.pv (.rp [[pi p2.kind, pi p2.n, pi p2.scale, .s (.string p2.s), .ro (eValue.els p2.items)]] 0 0)))]) (by rw [b5]) ?_
        refine DX.go 1 [[pi p2.kind, pi p2.n, pi p2.scale, .s (.string p2.s), .ro (eValue.els p2.items)]] [(8, .ag [ci p2.kind, ci p2.n, ci p2.scale, cst p2.s, cl eValue p2.items]), (7, vb true), (6, vb r2), (5, .ag [ci r1.kind, ci r1.n, ci r1.scale, cst r1.s, cl eValue r1.items]), (2, .one (.pv (.rp [[pi p1.kind, pi p1.scale, .ro (eField.els p1.fields)]] 0 0))), (3, .one (.pv (.rp [[pi p2.kind, pi p2.n, pi p2.scale, .s (.string p2.s), .ro (eValue.els p2.items)]] 0 0)))] [([[pi p2.kind, pi p2.n, pi p2.scale, .s (.string p2.s), .ro (eValue.els p2.items)]] : List (List PV))[0]? = some [pi p2.kind, pi p2.n, pi p2.scale, .s (.string p2.s), .ro (eValue.els p2.items)]] (by kernel_rfl) (⟨rfl, trivial⟩) ?_
        refine DX.cal 9 [.ag [ci p2.kind, ci p2.n, ci p2.scale, cst p2.s, cl eValue p2.items]] (vb r3) [(9, vb r3), (8, .ag [ci p2.kind, ci p2.n, ci p2.scale, cst p2.s, cl eValue p2.items]), (7, vb true), (6, vb r2), (5, .ag [ci r1.kind, ci r1.n, ci r1.scale, cst r1.s, cl eValue r1.items]), (2, .one (.pv (.rp [[pi p1.kind, pi p1.scale, .ro (eField.els p1.fields)]] 0 0))), (3, .one (.pv (.rp [[pi p2.kind, pi p2.n, pi p2.scale, .s (.string p2.s), .ro (eValue.els p2.items)]] 0 0)))] (by kernel_rfl) (c_value_Sound _ _ c6) rfl rfl (by kernel_rfl) ?_
        refine DX.go 1 [[pi p2.kind, pi p2.n, pi p2.scale, .s (.string p2.s), .ro (eValue.els p2.items)]] [(10, .ag [ci p2.kind, ci p2.n, ci p2.scale, cst p2.s, cl eValue p2.items]), (9, vb r3), (8, .ag [ci p2.kind, ci p2.n, ci p2.scale, cst p2.s, cl eValue p2.items]), (7, vb true), (6, vb r2), (5, .ag [ci r1.kind, ci r1.n, ci r1.scale, cst r1.s, cl eValue r1.items]), (2, .one (.pv (.rp [[pi p1.kind, pi p1.scale, .ro (eField.els p1.fields)]] 0 0))), (3, .one (.pv (.rp [[pi p2.kind, pi p2.n, pi p2.scale, .s (.string p2.s), .ro (eValue.els p2.items)]] 0 0)))] [([[pi p2.kind, pi p2.n, pi p2.scale, .s (.string p2.s), .ro (eValue.els p2.items)]] : List (List PV))[0]? = some [pi p2.kind, pi p2.n, pi p2.scale, .s (.string p2.s), .ro (eValue.els p2.items)]] (by kernel_rfl) (⟨rfl, trivial⟩) ?_
        refine DX.cal 11 [.ag [ci p2.kind, ci p2.n, ci p2.scale, cst p2.s, cl eValue p2.items]] (vb r4) [(11, vb r4), (10, .ag [ci p2.kind, ci p2.n, ci p2.scale, cst p2.s, cl eValue p2.items]), (9, vb r3), (8, .ag [ci p2.kind, ci p2.n, ci p2.scale, cst p2.s, cl eValue p2.items]), (7, vb true), (6, vb r2), (5, .ag [ci r1.kind, ci r1.n, ci r1.scale, cst r1.s, cl eValue r1.items]), (2, .one (.pv (.rp [[pi p1.kind, pi p1.scale, .ro (eField.els p1.fields)]] 0 0))), (3, .one (.pv (.rp [[pi p2.kind, pi p2.n, pi p2.scale, .s (.string p2.s), .ro (eValue.els p2.items)]] 0 0)))] (by kernel_rfl) (c_ref1_Sound _ _ c7) rfl rfl (by kernel_rfl) ?_
        refine DX.go 3 [] [(14, vb (r3 == r4)), (13, vb (r3 == r4)), (12, vb (r3 == r4)), (11, vb r4), (10, .ag [ci p2.kind, ci p2.n, ci p2.scale, cst p2.s, cl eValue p2.items]), (9, vb r3), (8, .ag [ci p2.kind, ci p2.n, ci p2.scale, cst p2.s, cl eValue p2.items]), (7, vb true), (6, vb r2), (5, .ag [ci r1.kind, ci r1.n, ci r1.scale, cst r1.s, cl eValue r1.items]), (2, .one (.pv (.rp [[pi p1.kind, pi p1.scale, .ro (eField.els p1.fields)]] 0 0))), (3, .one (.pv (.rp [[pi p2.kind, pi p2.n, pi p2.scale, .s (.string p2.s), .ro (eValue.els p2.items)]] 0 0)))] [] (by kernel_rfl) trivial ?_
        refine DX.eq (fr1 := [(14, vb true), (13, vb (r3 == r4)), (12, vb (r3 == r4)), (11, vb r4), (10, .ag [ci p2.kind, ci p2.n, ci p2.scale, cst p2.s, cl eValue p2.items]), (9, vb r3), (8, .ag [ci p2.kind, ci p2.n, ci p2.scale, cst p2.s, cl eValue p2.items]), (7, vb true), (6, vb r2), (5, .ag [ci r1.kind, ci r1.n, ci r1.scale, cst r1.s, cl eValue r1.items]), (2, .one (.pv (.rp [[pi p1.kind, pi p1.scale, .ro (eField.els p1.fields)]] 0 0))), (3, .one (.pv (.rp [[pi p2.kind, pi p2.n, pi p2.scale, .s (.string p2.s), .ro (eValue.els p2.items)]] 0 0)))]) (by rw [b8]) ?_
        refine DX.go 2 [[pi p1.kind, pi p1.scale, .ro (eField.els p1.fields)], [pi p2.kind, pi p2.n, pi p2.scale, .s (.string p2.s), .ro (eValue.els p2.items)]] [(16, .ag [ci p2.kind, ci p2.n, ci p2.scale, cst p2.s, cl eValue p2.items]), (15, .ag [ci p1.kind, ci p1.scale, cl eField p1.fields]), (14, vb true), (13, vb (r3 == r4)), (12, vb (r3 == r4)), (11, vb r4), (10, .ag [ci p2.kind, ci p2.n, ci p2.scale, cst p2.s, cl eValue p2.items]), (9, vb r3), (8, .ag [ci p2.kind, ci p2.n, ci p2.scale, cst p2.s, cl eValue p2.items]), (7, vb true), (6, vb r2), (5, .ag [ci r1.kind, ci r1.n, ci r1.scale, cst r1.s, cl eValue r1.items]), (2, .one (.pv (.rp [[pi p1.kind, pi p1.scale, .ro (eField.els p1.fields)]] 0 0))), (3, .one (.pv (.rp [[pi p2.kind, pi p2.n, pi p2.scale, .s (.string p2.s), .ro (eValue.els p2.items)]] 0 0)))] [([[pi p1.kind, pi p1.scale, .ro (eField.els p1.fields)]] : List (List PV))[0]? = some [pi p1.kind, pi p1.scale, .ro (eField.els p1.fields)], ([[pi p2.kind, pi p2.n, pi p2.scale, .s (.string p2.s), .ro (eValue.els p2.items)]] : List (List PV))[0]? = some [pi p2.kind, pi p2.n, pi p2.scale, .s (.string p2.s), .ro (eValue.els p2.items)]] (by kernel_rfl) (⟨rfl, rfl, trivial⟩) ?_
        refine DX.cal 12 [.ag [ci p1.kind, ci p1.scale, cl eField p1.fields], .ag [ci p2.kind, ci p2.n, ci p2.scale, cst p2.s, cl eValue p2.items]] (vi r5) [(17, vi r5), (16, .ag [ci p2.kind, ci p2.n, ci p2.scale, cst p2.s, cl eValue p2.items]), (15, .ag [ci p1.kind, ci p1.scale, cl eField p1.fields]), (14, vb true), (13, vb (r3 == r4)), (12, vb (r3 == r4)), (11, vb r4), (10, .ag [ci p2.kind, ci p2.n, ci p2.scale, cst p2.s, cl eValue p2.items]), (9, vb r3), (8, .ag [ci p2.kind, ci p2.n, ci p2.scale, cst p2.s, cl eValue p2.items]), (7, vb true), (6, vb r2), (5, .ag [ci r1.kind, ci r1.n, ci r1.scale, cst r1.s, cl eValue r1.items]), (2, .one (.pv (.rp [[pi p1.kind, pi p1.scale, .ro (eField.els p1.fields)]] 0 0))), (3, .one (.pv (.rp [[pi p2.kind, pi p2.n, pi p2.scale, .s (.string p2.s), .ro (eValue.els p2.items)]] 0 0)))] (by kernel_rfl) (c_value_Check _ _ _ c9) rfl rfl (by kernel_rfl) ?_
        refine DX.go 2 [[pi p1.kind, pi p1.scale, .ro (eField.els p1.fields)], [pi p2.kind, pi p2.n, pi p2.scale, .s (.string p2.s), .ro (eValue.els p2.items)]] [(19, .ag [ci p2.kind, ci p2.n, ci p2.scale, cst p2.s, cl eValue p2.items]), (18, .ag [ci p1.kind, ci p1.scale, cl eField p1.fields]), (17, vi r5), (16, .ag [ci p2.kind, ci p2.n, ci p2.scale, cst p2.s, cl eValue p2.items]), (15, .ag [ci p1.kind, ci p1.scale, cl eField p1.fields]), (14, vb true), (13, vb (r3 == r4)), (12, vb (r3 == r4)), (11, vb r4), (10, .ag [ci p2.kind, ci p2.n, ci p2.scale, cst p2.s, cl eValue p2.items]), (9, vb r3), (8, .ag [ci p2.kind, ci p2.n, ci p2.scale, cst p2.s, cl eValue p2.items]), (7, vb true), (6, vb r2), (5, .ag [ci r1.kind, ci r1.n, ci r1.scale, cst r1.s, cl eValue r1.items]), (2, .one (.pv (.rp [[pi p1.kind, pi p1.scale, .ro (eField.els p1.fields)]] 0 0))), (3, .one (.pv (.rp [[pi p2.kind, pi p2.n, pi p2.scale, .s (.string p2.s), .ro (eValue.els p2.items)]] 0 0)))] [([[pi p1.kind, pi p1.scale, .ro (eField.els p1.fields)]] : List (List PV))[0]? = some [pi p1.kind, pi p1.scale, .ro (eField.els p1.fields)], ([[pi p2.kind, pi p2.n, pi p2.scale, .s (.string p2.s), .ro (eValue.els p2.items)]] : List (List PV))[0]? = some [pi p2.kind, pi p2.n, pi p2.scale, .s (.string p2.s), .ro (eValue.els p2.items)]] (by kernel_rfl) (⟨rfl, rfl, trivial⟩) ?_
        exact DX.done (by kernel_rfl)
      refine XO.cal 13 [.ag [ci p1.kind, ci p1.scale, cl eField p1.fields], .ag [ci p2.kind, ci p2.n, ci p2.scale, cst p2.s, cl eValue p2.items]] (vi r6) [(20, vi r6), (19, .ag [ci p2.kind, ci p2.n, ci p2.scale, cst p2.s, cl eValue p2.items]), (18, .ag [ci p1.kind, ci p1.scale, cl eField p1.fields]), (17, vi r5), (16, .ag [ci p2.kind, ci p2.n, ci p2.scale, cst p2.s, cl eValue p2.items]), (15, .ag [ci p1.kind, ci p1.scale, cl eField p1.fields]), (14, vb true), (13, vb (r3 == r4)), (12, vb (r3 == r4)), (11, vb r4), (10, .ag [ci p2.kind, ci p2.n, ci p2.scale, cst p2.s, cl eValue p2.items]), (9, vb r3), (8, .ag [ci p2.kind, ci p2.n, ci p2.scale, cst p2.s, cl eValue p2.items]), (7, vb true), (6, vb r2), (5, .ag [ci r1.kind, ci r1.n, ci r1.scale, cst r1.s, cl eValue r1.items]), (2, .one (.pv (.rp [[pi p1.kind, pi p1.scale, .ro (eField.els p1.fields)]] 0 0))), (3, .one (.pv (.rp [[pi p2.kind, pi p2.n, pi p2.scale, .s (.string p2.s), .ro (eValue.els p2.items)]] 0 0)))] (by kernel_rfl) (c_ref1_Check _ _ _ c10) rfl rfl (by kernel_rfl) ?_
      refine XO.go [] 3 [4] [] [(4, vb (r5 == r6))] [] [] (by kernel_rfl) trivial ?_
      refine XO.done (by kernel_rfl) ?_
      exact hJ1 (r5 == r6) h _ _ (Sub.pick [4] (by kernel_rfl))
    · have h := ift_f b8 h
      refine XW.drwS 15 [(19, .tp []), (18, .tp []), (17, .tp []), (16, .tp []), (15, .tp []), (14, vb false), (13, vb (r3 == r4)), (12, vb (r3 == r4)), (11, vb r4), (10, .ag [ci p2.kind, ci p2.n, ci p2.scale, cst p2.s, cl eValue p2.items]), (9, vb r3), (8, .ag [ci p2.kind, ci p2.n, ci p2.scale, cst p2.s, cl eValue p2.items]), (7, vb true), (6, vb r2), (5, .ag [ci r1.kind, ci r1.n, ci r1.scale, cst r1.s, cl eValue r1.items]), (2, .one (.pv (.rp [[pi p1.kind, pi p1.scale, .ro (eField.els p1.fields)]] 0 0))), (3, .one (.pv (.rp [[pi p2.kind, pi p2.n, pi p2.scale, .s (.string p2.s), .ro (eValue.els p2.items)]] 0 0)))] (by kernel_rfl) (by kernel_rfl) ?_ ?_
      · refine DX.cal 10 [vi (5 : Int)] (.ag [ci r1.kind, ci r1.n, ci r1.scale, cst r1.s, cl eValue r1.items]) [(5, .ag [ci r1.kind, ci r1.n, ci r1.scale, cst r1.s, cl eValue r1.items]), (2, .one (.pv (.rp [[pi p1.kind, pi p1.scale, .ro (eField.els p1.fields)]] 0 0))), (3, .one (.pv (.rp [[pi p2.kind, pi p2.n, pi p2.scale, .s (.string p2.s), .ro (eValue.els p2.items)]] 0 0)))] (by kernel_rfl) (c_law1_number _ _ c3) rfl rfl (by kernel_rfl) ?_
        refine DX.cal 9 [.ag [ci r1.kind, ci r1.n, ci r1.scale, cst r1.s, cl eValue r1.items]] (vb r2) [(6, vb r2), (5, .ag [ci r1.kind, ci r1.n, ci r1.scale, cst r1.s, cl eValue r1.items]), (2, .one (.pv (.rp [[pi p1.kind, pi p1.scale, .ro (eField.els p1.fields)]] 0 0))), (3, .one (.pv (.rp [[pi p2.kind, pi p2.n, pi p2.scale, .s (.string p2.s), .ro (eValue.els p2.items)]] 0 0)))] (by kernel_rfl) (c_value_Sound _ _ c4) rfl rfl (by kernel_rfl) ?_
        refine DX.go 1 [] [(7, vb r2), (6, vb r2), (5, .ag [ci r1.kind, ci r1.n, ci r1.scale, cst r1.s, cl eValue r1.items]), (2, .one (.pv (.rp [[pi p1.kind, pi p1.scale, .ro (eField.els p1.fields)]] 0 0))), (3, .one (.pv (.rp [[pi p2.kind, pi p2.n, pi p2.scale, .s (.string p2.s), .ro (eValue.els p2.items)]] 0 0)))] [] (by kernel_rfl) trivial ?_
        refine DX.eq (fr1 := [(7, vb true), (6, vb r2), (5, .ag [ci r1.kind, ci r1.n, ci r1.scale, cst r1.s, cl eValue r1.items]), (2, .one (.pv (.rp [[pi p1.kind, pi p1.scale, .ro (eField.els p1.fields)]] 0 0))), (3, .one (.pv (.rp [[pi p2.kind, pi p2.n, pi p2.scale, .s (.string p2.s), .ro (eValue.els p2.items)]] 0 0)))]) (by rw [b5]) ?_
        refine DX.go 1 [[pi p2.kind, pi p2.n, pi p2.scale, .s (.string p2.s), .ro (eValue.els p2.items)]] [(8, .ag [ci p2.kind, ci p2.n, ci p2.scale, cst p2.s, cl eValue p2.items]), (7, vb true), (6, vb r2), (5, .ag [ci r1.kind, ci r1.n, ci r1.scale, cst r1.s, cl eValue r1.items]), (2, .one (.pv (.rp [[pi p1.kind, pi p1.scale, .ro (eField.els p1.fields)]] 0 0))), (3, .one (.pv (.rp [[pi p2.kind, pi p2.n, pi p2.scale, .s (.string p2.s), .ro (eValue.els p2.items)]] 0 0)))] [([[pi p2.kind, pi p2.n, pi p2.scale, .s (.string p2.s), .ro (eValue.els p2.items)]] : List (List PV))[0]? = some [pi p2.kind, pi p2.n, pi p2.scale, .s (.string p2.s), .ro (eValue.els p2.items)]] (by kernel_rfl) (⟨rfl, trivial⟩) ?_
        refine DX.cal 9 [.ag [ci p2.kind, ci p2.n, ci p2.scale, cst p2.s, cl eValue p2.items]] (vb r3) [(9, vb r3), (8, .ag [ci p2.kind, ci p2.n, ci p2.scale, cst p2.s, cl eValue p2.items]), (7, vb true), (6, vb r2), (5, .ag [ci r1.kind, ci r1.n, ci r1.scale, cst r1.s, cl eValue r1.items]), (2, .one (.pv (.rp [[pi p1.kind, pi p1.scale, .ro (eField.els p1.fields)]] 0 0))), (3, .one (.pv (.rp [[pi p2.kind, pi p2.n, pi p2.scale, .s (.string p2.s), .ro (eValue.els p2.items)]] 0 0)))] (by kernel_rfl) (c_value_Sound _ _ c6) rfl rfl (by kernel_rfl) ?_
        refine DX.go 1 [[pi p2.kind, pi p2.n, pi p2.scale, .s (.string p2.s), .ro (eValue.els p2.items)]] [(10, .ag [ci p2.kind, ci p2.n, ci p2.scale, cst p2.s, cl eValue p2.items]), (9, vb r3), (8, .ag [ci p2.kind, ci p2.n, ci p2.scale, cst p2.s, cl eValue p2.items]), (7, vb true), (6, vb r2), (5, .ag [ci r1.kind, ci r1.n, ci r1.scale, cst r1.s, cl eValue r1.items]), (2, .one (.pv (.rp [[pi p1.kind, pi p1.scale, .ro (eField.els p1.fields)]] 0 0))), (3, .one (.pv (.rp [[pi p2.kind, pi p2.n, pi p2.scale, .s (.string p2.s), .ro (eValue.els p2.items)]] 0 0)))] [([[pi p2.kind, pi p2.n, pi p2.scale, .s (.string p2.s), .ro (eValue.els p2.items)]] : List (List PV))[0]? = some [pi p2.kind, pi p2.n, pi p2.scale, .s (.string p2.s), .ro (eValue.els p2.items)]] (by kernel_rfl) (⟨rfl, trivial⟩) ?_
        refine DX.cal 11 [.ag [ci p2.kind, ci p2.n, ci p2.scale, cst p2.s, cl eValue p2.items]] (vb r4) [(11, vb r4), (10, .ag [ci p2.kind, ci p2.n, ci p2.scale, cst p2.s, cl eValue p2.items]), (9, vb r3), (8, .ag [ci p2.kind, ci p2.n, ci p2.scale, cst p2.s, cl eValue p2.items]), (7, vb true), (6, vb r2), (5, .ag [ci r1.kind, ci r1.n, ci r1.scale, cst r1.s, cl eValue r1.items]), (2, .one (.pv (.rp [[pi p1.kind, pi p1.scale, .ro (eField.els p1.fields)]] 0 0))), (3, .one (.pv (.rp [[pi p2.kind, pi p2.n, pi p2.scale, .s (.string p2.s), .ro (eValue.els p2.items)]] 0 0)))] (by kernel_rfl) (c_ref1_Sound _ _ c7) rfl rfl (by kernel_rfl) ?_
        refine DX.go 3 [] [(14, vb (r3 == r4)), (13, vb (r3 == r4)), (12, vb (r3 == r4)), (11, vb r4), (10, .ag [ci p2.kind, ci p2.n, ci p2.scale, cst p2.s, cl eValue p2.items]), (9, vb r3), (8, .ag [ci p2.kind, ci p2.n, ci p2.scale, cst p2.s, cl eValue p2.items]), (7, vb true), (6, vb r2), (5, .ag [ci r1.kind, ci r1.n, ci r1.scale, cst r1.s, cl eValue r1.items]), (2, .one (.pv (.rp [[pi p1.kind, pi p1.scale, .ro (eField.els p1.fields)]] 0 0))), (3, .one (.pv (.rp [[pi p2.kind, pi p2.n, pi p2.scale, .s (.string p2.s), .ro (eValue.els p2.items)]] 0 0)))] [] (by kernel_rfl) trivial ?_
        refine DX.eq (fr1 := [(14, vb false), (13, vb (r3 == r4)), (12, vb (r3 == r4)), (11, vb r4), (10, .ag [ci p2.kind, ci p2.n, ci p2.scale, cst p2.s, cl eValue p2.items]), (9, vb r3), (8, .ag [ci p2.kind, ci p2.n, ci p2.scale, cst p2.s, cl eValue p2.items]), (7, vb true), (6, vb r2), (5, .ag [ci r1.kind, ci r1.n, ci r1.scale, cst r1.s, cl eValue r1.items]), (2, .one (.pv (.rp [[pi p1.kind, pi p1.scale, .ro (eField.els p1.fields)]] 0 0))), (3, .one (.pv (.rp [[pi p2.kind, pi p2.n, pi p2.scale, .s (.string p2.s), .ro (eValue.els p2.items)]] 0 0)))]) (by rw [b8]) ?_
        refine DX.go 5 [] [(19, .tp []), (18, .tp []), (17, .tp []), (16, .tp []), (15, .tp []), (14, vb false), (13, vb (r3 == r4)), (12, vb (r3 == r4)), (11, vb r4), (10, .ag [ci p2.kind, ci p2.n, ci p2.scale, cst p2.s, cl eValue p2.items]), (9, vb r3), (8, .ag [ci p2.kind, ci p2.n, ci p2.scale, cst p2.s, cl eValue p2.items]), (7, vb true), (6, vb r2), (5, .ag [ci r1.kind, ci r1.n, ci r1.scale, cst r1.s, cl eValue r1.items]), (2, .one (.pv (.rp [[pi p1.kind, pi p1.scale, .ro (eField.els p1.fields)]] 0 0))), (3, .one (.pv (.rp [[pi p2.kind, pi p2.n, pi p2.scale, .s (.string p2.s), .ro (eValue.els p2.items)]] 0 0)))] [] (by kernel_rfl) trivial ?_
        exact DX.done (by kernel_rfl)
      refine XO.go [] 4 [4] [] [(4, vb false)] [] [] (by kernel_rfl) trivial ?_
      refine XO.done (by kernel_rfl) ?_
      exact hJ1 false h _ _ (Sub.pick [4] (by kernel_rfl))
  · have h := ift_f b5 h
    refine XW.drwS 15 [(19, .tp []), (18, .tp []), (17, .tp []), (16, .tp []), (15, .tp []), (14, vb false), (13, vb false), (12, .tp []), (11, .tp []), (10, .tp []), (9, .tp []), (8, .tp []), (7, vb false), (6, vb r2), (5, .ag [ci r1.kind, ci r1.n, ci r1.scale, cst r1.s, cl eValue r1.items]), (2, .one (.pv (.rp [[pi p1.kind, pi p1.scale, .ro (eField.els p1.fields)]] 0 0))), (3, .one (.pv (.rp [[pi p2.kind, pi p2.n, pi p2.scale, .s (.string p2.s), .ro (eValue.els p2.items)]] 0 0)))] (by kernel_rfl) (by kernel_rfl) ?_ ?_
    · refine DX.cal 10 [vi (5 : Int)] (.ag [ci r1.kind, ci r1.n, ci r1.scale, cst r1.s, cl eValue r1.items]) [(5, .ag [ci r1.kind, ci r1.n, ci r1.scale, cst r1.s, cl eValue r1.items]), (2, .one (.pv (.rp [[pi p1.kind, pi p1.scale, .ro (eField.els p1.fields)]] 0 0))), (3, .one (.pv (.rp [[pi p2.kind, pi p2.n, pi p2.scale, .s (.string p2.s), .ro (eValue.els p2.items)]] 0 0)))] (by kernel_rfl) (c_law1_number _ _ c3) rfl rfl (by kernel_rfl) ?_
      refine DX.cal 9 [.ag [ci r1.kind, ci r1.n, ci r1.scale, cst r1.s, cl eValue r1.items]] (vb r2) [(6, vb r2), (5, .ag [ci r1.kind, ci r1.n, ci r1.scale, cst r1.s, cl eValue r1.items]), (2, .one (.pv (.rp [[pi p1.kind, pi p1.scale, .ro (eField.els p1.fields)]] 0 0))), (3, .one (.pv (.rp [[pi p2.kind, pi p2.n, pi p2.scale, .s (.string p2.s), .ro (eValue.els p2.items)]] 0 0)))] (by kernel_rfl) (c_value_Sound _ _ c4) rfl rfl (by kernel_rfl) ?_
      refine DX.go 1 [] [(7, vb r2), (6, vb r2), (5, .ag [ci r1.kind, ci r1.n, ci r1.scale, cst r1.s, cl eValue r1.items]), (2, .one (.pv (.rp [[pi p1.kind, pi p1.scale, .ro (eField.els p1.fields)]] 0 0))), (3, .one (.pv (.rp [[pi p2.kind, pi p2.n, pi p2.scale, .s (.string p2.s), .ro (eValue.els p2.items)]] 0 0)))] [] (by kernel_rfl) trivial ?_
      refine DX.eq (fr1 := [(7, vb false), (6, vb r2), (5, .ag [ci r1.kind, ci r1.n, ci r1.scale, cst r1.s, cl eValue r1.items]), (2, .one (.pv (.rp [[pi p1.kind, pi p1.scale, .ro (eField.els p1.fields)]] 0 0))), (3, .one (.pv (.rp [[pi p2.kind, pi p2.n, pi p2.scale, .s (.string p2.s), .ro (eValue.els p2.items)]] 0 0)))]) (by rw [b5]) ?_
      refine DX.go 12 [] [(19, .tp []), (18, .tp []), (17, .tp []), (16, .tp []), (15, .tp []), (14, vb false), (13, vb false), (12, .tp []), (11, .tp []), (10, .tp []), (9, .tp []), (8, .tp []), (7, vb false), (6, vb r2), (5, .ag [ci r1.kind, ci r1.n, ci r1.scale, cst r1.s, cl eValue r1.items]), (2, .one (.pv (.rp [[pi p1.kind, pi p1.scale, .ro (eField.els p1.fields)]] 0 0))), (3, .one (.pv (.rp [[pi p2.kind, pi p2.n, pi p2.scale, .s (.string p2.s), .ro (eValue.els p2.items)]] 0 0)))] [] (by kernel_rfl) trivial ?_
      exact DX.done (by kernel_rfl)
    refine XO.go [] 4 [4] [] [(4, vb false)] [] [] (by kernel_rfl) trivial ?_
    refine XO.done (by kernel_rfl) ?_
    exact hJ1 false h _ _ (Sub.pick [4] (by kernel_rfl))


end Go.Proofs.YtdkmclmdemngfaaDoor
