/- Printed by a program: what the functions compute, and the proofs of their contracts. -/
import Derived.Test.YtdkmclmdemngfaaGenN1
namespace Go.Proofs.Ytdkmclmdemngfaa
open Go.SX Go
set_option linter.unusedVariables false
set_option linter.unusedSimpArgs false
set_option maxRecDepth 100000

def ref1_shape_j5 (rec2 : Int → Option Int) (x5 : Int) : Option Int :=
    rec2 (IntKind.i64.wrap (x5 + (1 : Int)))

def ref1_shape_l3 (rec2 : Int → Option Int) (p1 : GType) (x5 : Int) : Nat → Int → Option Int
  | 0, _ => none
  | k3 + 1, x6 =>
    ift (decide (x6 < x5))
      (bnd (at? p1.fields x6) fun e3 =>
       bnd (at? p1.fields x5) fun e4 =>
       ift (e3.name.toList == e4.name.toList)
         (some (5 : Int))
         ((ref1_shape_l3 rec2 p1 x5 k3) (IntKind.i64.wrap (x6 + (1 : Int)))))
      (ref1_shape_j5 rec2 x5)

def ref1_shape_j6 : Option Int :=
    some (0 : Int)

def ref1_shape_l2 (p1 : GType) : Nat → Int → Option Int
  | 0, _ => none
  | k2 + 1, x5 =>
    ift (decide (x5 < (p1.fields.length : Int)))
      (ref1_shape_l3 (ref1_shape_l2 p1 k2) p1 x5 BIG (0 : Int))
      (ref1_shape_j6)

def ref1_shape_j4 (p1 : GType) : Option Int :=
    ref1_shape_l2 p1 BIG (0 : Int)

def ref1_shape_l1 (p1 : GType) : Nat → Int → Option Int
  | 0, _ => none
  | k1 + 1, x4 =>
    ift (decide (x4 < (p1.fields.length : Int)))
      (bnd (at? p1.fields x4) fun e2 =>
       bnd (ref1_Name e2.name) fun r5 =>
       ift (!r5)
         (some (4 : Int))
         ((ref1_shape_l1 p1 k1) (IntKind.i64.wrap (x4 + (1 : Int)))))
      (ref1_shape_j4 p1)

def ref1_shape_j3 (p1 : GType) (x3 : Bool) : Option Int :=
    ift x3
      (some (1 : Int))
      (ift (p1.kind != (7 : Int))
         (some (0 : Int))
         (ref1_shape_l1 p1 BIG (0 : Int)))

def ref1_shape_j2 (p1 : GType) (x2 : Bool) : Option Int :=
    ift x2
      (some (1 : Int))
      (ift (p1.kind == (7 : Int))
         (ift ((p1.fields.length : Int) == (0 : Int))
            (ref1_shape_j3 p1 true)
            (bnd (ref1_Leaf p1.kind) fun r3 =>
             ift r3
               (ref1_shape_j3 p1 (decide ((0 : Int) < (p1.fields.length : Int))))
               (ref1_shape_j3 p1 false)))
         (bnd (ref1_Leaf p1.kind) fun r4 =>
          ift r4
            (ref1_shape_j3 p1 (decide ((0 : Int) < (p1.fields.length : Int))))
            (ref1_shape_j3 p1 false)))

def ref1_shape_j1 (p1 : GType) (x1 : Bool) : Option Int :=
    ift x1
      (some (1 : Int))
      (ift (p1.kind == (6 : Int))
         (ift ((p1.fields.length : Int) != (1 : Int))
            (ref1_shape_j2 p1 true)
            (bnd (at? p1.fields (0 : Int)) fun e1 =>
             ref1_shape_j2 p1 (!(e1.name.toList == (ByteArray.mk #[]).toList))))
         (ref1_shape_j2 p1 false))

def ref1_shape (p1 : GType) : Option Int :=
    bnd (ref1_within p1.kind (1 : Int) (7 : Int)) fun r1 =>
    ift (!r1)
      (some (3 : Int))
      (ift (p1.kind == (3 : Int))
         (bnd (ref1_within p1.scale (0 : Int) (12 : Int)) fun r2 =>
          ift (!r2)
            (ref1_shape_j1 p1 true)
            (ift (p1.kind != (3 : Int))
               (ref1_shape_j1 p1 (p1.scale != (0 : Int)))
               (ref1_shape_j1 p1 false)))
         (ift (p1.kind != (3 : Int))
            (ref1_shape_j1 p1 (p1.scale != (0 : Int)))
            (ref1_shape_j1 p1 false)))


theorem c_ref1_shape (p1 : GType) (r : Int) (h : ref1_shape p1 = some r) : PC Try.prog 74 [.ag [ci p1.kind, ci p1.scale, cl eField p1.fields]] (vi r) := by
  unfold ref1_shape at h
  refine PC.of (n := 109) (fn := Try.f74) (c := cd Try.f74 []) (by kernel_rfl) (by kernel_rfl) (by kernel_rfl) (Nat.le_of_ble_eq_true rfl) ?_
  refine XW.seq (x := cd Try.f74 [0]) (y := cd Try.f74 [1]) (by kernel_rfl) fun K1 hK1 => ?_
  refine XW.reg (by kernel_rfl) ?_
  refine XO.go [] 2 [1] [] [(1, .one (.pv (.rp [[pi p1.kind, pi p1.scale, .ro (eField.els p1.fields)]] 0 0)))] [] [] (by kernel_rfl) trivial ?_
  refine XO.done (by kernel_rfl) ?_
  refine hK1 _ _ ?_
  refine XW.seq (x := cd Try.f74 [1,0]) (y := cd Try.f74 [1,1]) (by kernel_rfl) fun K2 hK2 => ?_
  refine XW.seq (x := cd Try.f74 [1,0,0]) (y := cd Try.f74 [1,0,1]) (by kernel_rfl) fun K3 hK3 => ?_
  obtain ⟨r1, c4, h⟩ := bnd_some h
  refine XW.reg (by kernel_rfl) ?_
  refine XO.go [] 2 [1,7] [[pi p1.kind, pi p1.scale, .ro (eField.els p1.fields)]] [(1, .one (.pv (.rp [[pi p1.kind, pi p1.scale, .ro (eField.els p1.fields)]] 0 0))), (7, vi p1.kind)] [] [([[pi p1.kind, pi p1.scale, .ro (eField.els p1.fields)]] : List (List PV))[0]? = some [pi p1.kind, pi p1.scale, .ro (eField.els p1.fields)]] (by kernel_rfl) (⟨rfl, trivial⟩) ?_
  refine XO.cal 58 [vi p1.kind, vi (1 : Int), vi (7 : Int)] (vb r1) [(8, vb r1), (1, .one (.pv (.rp [[pi p1.kind, pi p1.scale, .ro (eField.els p1.fields)]] 0 0))), (7, vi p1.kind)] (by kernel_rfl) (c_ref1_within _ _ _ _ c4) rfl rfl (by kernel_rfl) ?_
  refine XO.go [] 1 [1,9] [] [(1, .one (.pv (.rp [[pi p1.kind, pi p1.scale, .ro (eField.els p1.fields)]] 0 0))), (9, vb (!r1))] [] [] (by kernel_rfl) trivial ?_
  refine XO.done (by kernel_rfl) ?_
  refine hK3 _ _ ?_
  refine XW.cond (x := .tmp 9) (a := cd Try.f74 [1,0,1,0]) (b := cd Try.f74 [1,0,1,1]) (t := (!r1)) (by kernel_rfl) (by kernel_rfl) (fun b5 => ?_) (fun b5 => ?_)
  · have h := ift_t b5 h
    refine XW.seq (x := cd Try.f74 [1,0,1,0,0]) (y := cd Try.f74 [1,0,1,0,1]) (by kernel_rfl) fun K6 hK6 => ?_
    refine XW.reg (by kernel_rfl) ?_
    refine XO.go [] 1 [2] [] [(2, vi (3 : Int))] [] [] (by kernel_rfl) trivial ?_
    refine XO.done (by kernel_rfl) ?_
    refine hK6 _ _ ?_
    refine XW.ret (by kernel_rfl) ?_
    obtain rfl := Option.some.inj h
    exact FinP.fin (.inr rfl) [] [vi (3 : Int)] [] (by kernel_rfl) trivial (.one (.rfl _ rfl))
  · have h := ift_f b5 h
    refine XW.skip (by kernel_rfl) ?_
    refine hK2 _ _ ?_
    refine XW.seq (x := cd Try.f74 [1,1,0]) (y := cd Try.f74 [1,1,1]) (by kernel_rfl) fun K7 hK7 => ?_
    refine XW.seq (x := cd Try.f74 [1,1,0,0]) (y := cd Try.f74 [1,1,0,1]) (by kernel_rfl) fun K8 hK8 => ?_
    have hJ1 : ∀ (x1 : Bool), ref1_shape_j1 p1 x1 = some r → ∀ fr1 st1, Sub 109 0 [] fr1 st1 [(1, .one (.pv (.rp [[pi p1.kind, pi p1.scale, .ro (eField.els p1.fields)]] 0 0))), (28, vb x1)] [] → K8 fr1 st1 := by
      intro x1 h fr1 st1 hS
      unfold ref1_shape_j1 at h
      refine hK8 _ _ (XW.sub hS ?_)
      refine XW.cond (x := .tmp 28) (a := cd Try.f74 [1,1,0,1,0]) (b := cd Try.f74 [1,1,0,1,1]) (t := x1) (by kernel_rfl) (by kernel_rfl) (fun b14 => ?_) (fun b14 => ?_)
      · have h := ift_t b14 h
        refine XW.seq (x := cd Try.f74 [1,1,0,1,0,0]) (y := cd Try.f74 [1,1,0,1,0,1]) (by kernel_rfl) fun K15 hK15 => ?_
        refine XW.reg (by kernel_rfl) ?_
        refine XO.go [] 1 [2] [] [(2, vi (1 : Int))] [] [] (by kernel_rfl) trivial ?_
        refine XO.done (by kernel_rfl) ?_
        refine hK15 _ _ ?_
        refine XW.ret (by kernel_rfl) ?_
        obtain rfl := Option.some.inj h
        exact FinP.fin (.inr rfl) [] [vi (1 : Int)] [] (by kernel_rfl) trivial (.one (.rfl _ rfl))
      · have h := ift_f b14 h
        refine XW.skip (by kernel_rfl) ?_
        refine hK7 _ _ ?_
        refine XW.seq (x := cd Try.f74 [1,1,1,0]) (y := cd Try.f74 [1,1,1,1]) (by kernel_rfl) fun K16 hK16 => ?_
        refine XW.seq (x := cd Try.f74 [1,1,1,0,0]) (y := cd Try.f74 [1,1,1,0,1]) (by kernel_rfl) fun K17 hK17 => ?_
        have hJ2 : ∀ (x2 : Bool), ref1_shape_j2 p1 x2 = some r → ∀ fr1 st1, Sub 109 0 [] fr1 st1 [(1, .one (.pv (.rp [[pi p1.kind, pi p1.scale, .ro (eField.els p1.fields)]] 0 0))), (45, vb x2)] [] → K17 fr1 st1 := by
          intro x2 h fr1 st1 hS
          unfold ref1_shape_j2 at h
          refine hK17 _ _ (XW.sub hS ?_)
          refine XW.cond (x := .tmp 45) (a := cd Try.f74 [1,1,1,0,1,0]) (b := cd Try.f74 [1,1,1,0,1,1]) (t := x2) (by kernel_rfl) (by kernel_rfl) (fun b21 => ?_) (fun b21 => ?_)
          · have h := ift_t b21 h
            refine XW.seq (x := cd Try.f74 [1,1,1,0,1,0,0]) (y := cd Try.f74 [1,1,1,0,1,0,1]) (by kernel_rfl) fun K22 hK22 => ?_
            refine XW.reg (by kernel_rfl) ?_
            refine XO.go [] 1 [2] [] [(2, vi (1 : Int))] [] [] (by kernel_rfl) trivial ?_
            refine XO.done (by kernel_rfl) ?_
            refine hK22 _ _ ?_
            refine XW.ret (by kernel_rfl) ?_
            obtain rfl := Option.some.inj h
            exact FinP.fin (.inr rfl) [] [vi (1 : Int)] [] (by kernel_rfl) trivial (.one (.rfl _ rfl))
          · have h := ift_f b21 h
            refine XW.skip (by kernel_rfl) ?_
            refine hK16 _ _ ?_
            refine XW.seq (x := cd Try.f74 [1,1,1,1,0]) (y := cd Try.f74 [1,1,1,1,1]) (by kernel_rfl) fun K23 hK23 => ?_
            refine XW.seq (x := cd Try.f74 [1,1,1,1,0,0]) (y := cd Try.f74 [1,1,1,1,0,1]) (by kernel_rfl) fun K24 hK24 => ?_
            have hJ3 : ∀ (x3 : Bool), ref1_shape_j3 p1 x3 = some r → ∀ fr1 st1, Sub 109 0 [] fr1 st1 [(1, .one (.pv (.rp [[pi p1.kind, pi p1.scale, .ro (eField.els p1.fields)]] 0 0))), (65, vb x3)] [] → K24 fr1 st1 := by
              intro x3 h fr1 st1 hS
              unfold ref1_shape_j3 at h
              refine hK24 _ _ (XW.sub hS ?_)
              refine XW.cond (x := .tmp 65) (a := cd Try.f74 [1,1,1,1,0,1,0]) (b := cd Try.f74 [1,1,1,1,0,1,1]) (t := x3) (by kernel_rfl) (by kernel_rfl) (fun b31 => ?_) (fun b31 => ?_)
              · have h := ift_t b31 h
                refine XW.seq (x := cd Try.f74 [1,1,1,1,0,1,0,0]) (y := cd Try.f74 [1,1,1,1,0,1,0,1]) (by kernel_rfl) fun K32 hK32 => ?_
                refine XW.reg (by kernel_rfl) ?_
                refine XO.go [] 1 [2] [] [(2, vi (1 : Int))] [] [] (by kernel_rfl) trivial ?_
                refine XO.done (by kernel_rfl) ?_
                refine hK32 _ _ ?_
                refine XW.ret (by kernel_rfl) ?_
                obtain rfl := Option.some.inj h
                exact FinP.fin (.inr rfl) [] [vi (1 : Int)] [] (by kernel_rfl) trivial (.one (.rfl _ rfl))
              · have h := ift_f b31 h
                refine XW.skip (by kernel_rfl) ?_
                refine hK23 _ _ ?_
                refine XW.seq (x := cd Try.f74 [1,1,1,1,1,0]) (y := cd Try.f74 [1,1,1,1,1,1]) (by kernel_rfl) fun K33 hK33 => ?_
                refine XW.seq (x := cd Try.f74 [1,1,1,1,1,0,0]) (y := cd Try.f74 [1,1,1,1,1,0,1]) (by kernel_rfl) fun K34 hK34 => ?_
                refine XW.reg (by kernel_rfl) ?_
                refine XO.go [] 3 [1,68] [[pi p1.kind, pi p1.scale, .ro (eField.els p1.fields)]] [(1, .one (.pv (.rp [[pi p1.kind, pi p1.scale, .ro (eField.els p1.fields)]] 0 0))), (68, vb (p1.kind != (7 : Int)))] [] [([[pi p1.kind, pi p1.scale, .ro (eField.els p1.fields)]] : List (List PV))[0]? = some [pi p1.kind, pi p1.scale, .ro (eField.els p1.fields)]] (by kernel_rfl) (⟨rfl, trivial⟩) ?_
                refine XO.done (by kernel_rfl) ?_
                refine hK34 _ _ ?_
                refine XW.cond (x := .tmp 68) (a := cd Try.f74 [1,1,1,1,1,0,1,0]) (b := cd Try.f74 [1,1,1,1,1,0,1,1]) (t := (p1.kind != (7 : Int))) (by kernel_rfl) (by kernel_rfl) (fun b35 => ?_) (fun b35 => ?_)
                · have h := ift_t b35 h
                  refine XW.seq (x := cd Try.f74 [1,1,1,1,1,0,1,0,0]) (y := cd Try.f74 [1,1,1,1,1,0,1,0,1]) (by kernel_rfl) fun K36 hK36 => ?_
                  refine XW.reg (by kernel_rfl) ?_
                  refine XO.go [] 1 [2] [] [(2, vi (0 : Int))] [] [] (by kernel_rfl) trivial ?_
                  refine XO.done (by kernel_rfl) ?_
                  refine hK36 _ _ ?_
                  refine XW.ret (by kernel_rfl) ?_
                  obtain rfl := Option.some.inj h
                  exact FinP.fin (.inr rfl) [] [vi (0 : Int)] [] (by kernel_rfl) trivial (.one (.rfl _ rfl))
                · have h := ift_f b35 h
                  refine XW.skip (by kernel_rfl) ?_
                  refine hK33 _ _ ?_
                  refine XW.seq (x := cd Try.f74 [1,1,1,1,1,1,0]) (y := cd Try.f74 [1,1,1,1,1,1,1]) (by kernel_rfl) fun K37 hK37 => ?_
                  have hJ4 : ∀ (_ : Unit), ref1_shape_j4 p1 = some r → ∀ fr1 st1, Sub 109 0 [] fr1 st1 [(1, .one (.pv (.rp [[pi p1.kind, pi p1.scale, .ro (eField.els p1.fields)]] 0 0)))] [] → K37 fr1 st1 := by
                    intro _ h fr1 st1 hS
                    unfold ref1_shape_j4 at h
                    refine hK37 _ _ (XW.sub hS ?_)
                    refine XW.seq (x := cd Try.f74 [1,1,1,1,1,1,1,0]) (y := cd Try.f74 [1,1,1,1,1,1,1,1]) (by kernel_rfl) fun K49 hK49 => ?_
                    have hJ6 : ∀ (_ : Unit), ref1_shape_j6 = some r → ∀ fr1 st1, Sub 109 0 [] fr1 st1 [] [] → K49 fr1 st1 := by
                      intro _ h fr1 st1 hS
                      unfold ref1_shape_j6 at h
                      refine hK49 _ _ (XW.sub hS ?_)
                      refine XW.seq (x := cd Try.f74 [1,1,1,1,1,1,1,1,0]) (y := cd Try.f74 [1,1,1,1,1,1,1,1,1]) (by kernel_rfl) fun K66 hK66 => ?_
                      refine XW.reg (by kernel_rfl) ?_
                      refine XO.go [] 1 [2] [] [(2, vi (0 : Int))] [] [] (by kernel_rfl) trivial ?_
                      refine XO.done (by kernel_rfl) ?_
                      refine hK66 _ _ ?_
                      refine XW.ret (by kernel_rfl) ?_
                      obtain rfl := Option.some.inj h
                      exact FinP.fin (.inr rfl) [] [vi (0 : Int)] [] (by kernel_rfl) trivial (.one (.rfl _ rfl))
                    refine XW.seq (x := cd Try.f74 [1,1,1,1,1,1,1,0,0]) (y := cd Try.f74 [1,1,1,1,1,1,1,0,1]) (by kernel_rfl) fun K50 hK50 => ?_
                    refine XW.reg (by kernel_rfl) ?_
                    refine XO.go [] 3 [1,86] [[pi p1.kind, pi p1.scale, .ro (eField.els p1.fields)]] [(1, .one (.pv (.rp [[pi p1.kind, pi p1.scale, .ro (eField.els p1.fields)]] 0 0))), (86, vi ((eField.els p1.fields).length : Int))] [] [([[pi p1.kind, pi p1.scale, .ro (eField.els p1.fields)]] : List (List PV))[0]? = some [pi p1.kind, pi p1.scale, .ro (eField.els p1.fields)]] (by kernel_rfl) (⟨rfl, trivial⟩) ?_
                    rw [eField.len p1.fields]
                    refine XO.go [] 1 [1,86,87] [] [(1, .one (.pv (.rp [[pi p1.kind, pi p1.scale, .ro (eField.els p1.fields)]] 0 0))), (86, vi (p1.fields.length : Int)), (87, vi (0 : Int))] [] [] (by kernel_rfl) trivial ?_
                    refine XO.done (by kernel_rfl) ?_
                    refine hK50 _ _ ?_
                    refine XW.block (id := 2) (x := cd Try.f74 [1,1,1,1,1,1,1,0,1,0]) (by kernel_rfl) ?_
                    refine XW.rounds' BIG (x := cd Try.f74 [1,1,1,1,1,1,1,0,1,0,0]) (by kernel_rfl) fun Q2 hQ2 => ?_
                    have hL2 : ∀ (k2 : Nat) (x5 : Int), ref1_shape_l2 p1 k2 x5 = some r → XR Try.prog 109 0 [] (cd Try.f74 [1,1,1,1,1,1,1,0,1,0,0]) Q2 k2 [(1, .one (.pv (.rp [[pi p1.kind, pi p1.scale, .ro (eField.els p1.fields)]] 0 0))), (86, vi (p1.fields.length : Int)), (87, vi x5)] [] := by
                      intro k2
                      induction k2 with
                      | zero => intro x5 h; rw [ref1_shape_l2.eq_1] at h; cases h
                      | succ k2 ih2 =>
                        intro x5 h
                        rw [ref1_shape_l2.eq_2] at h
                        refine XW.seq (x := cd Try.f74 [1,1,1,1,1,1,1,0,1,0,0,0]) (y := cd Try.f74 [1,1,1,1,1,1,1,0,1,0,0,1]) (by kernel_rfl) fun K51 hK51 => ?_
                        refine XW.reg (by kernel_rfl) ?_
                        refine XO.go [] 1 [1,86,87,88] [] [(1, .one (.pv (.rp [[pi p1.kind, pi p1.scale, .ro (eField.els p1.fields)]] 0 0))), (86, vi (p1.fields.length : Int)), (87, vi x5), (88, vb (decide (x5 < (p1.fields.length : Int))))] [] [] (by kernel_rfl) trivial ?_
                        refine XO.done (by kernel_rfl) ?_
                        refine hK51 _ _ ?_
                        refine XW.seq (x := cd Try.f74 [1,1,1,1,1,1,1,0,1,0,0,1,0]) (y := cd Try.f74 [1,1,1,1,1,1,1,0,1,0,0,1,1]) (by kernel_rfl) fun K52 hK52 => ?_
                        refine XW.cond (x := .tmp 88) (a := cd Try.f74 [1,1,1,1,1,1,1,0,1,0,0,1,0,0]) (b := cd Try.f74 [1,1,1,1,1,1,1,0,1,0,0,1,0,1]) (t := (decide (x5 < (p1.fields.length : Int)))) (by kernel_rfl) (by kernel_rfl) (fun b53 => ?_) (fun b53 => ?_)
                        · have h := ift_t b53 h
                          refine XW.skip (by kernel_rfl) ?_
                          refine hK52 _ _ ?_
                          refine XW.seq (x := cd Try.f74 [1,1,1,1,1,1,1,0,1,0,0,1,1,0]) (y := cd Try.f74 [1,1,1,1,1,1,1,0,1,0,0,1,1,1]) (by kernel_rfl) fun K54 hK54 => ?_
                          have hJ5 : ∀ (_ : Unit), ref1_shape_j5 (ref1_shape_l2 p1 k2) x5 = some r → ∀ fr1 st1, Sub 109 0 [] fr1 st1 [(1, .one (.pv (.rp [[pi p1.kind, pi p1.scale, .ro (eField.els p1.fields)]] 0 0))), (86, vi (p1.fields.length : Int)), (87, vi x5)] [] → K54 fr1 st1 := by
                            intro _ h fr1 st1 hS
                            unfold ref1_shape_j5 at h
                            refine hK54 _ _ (XW.sub hS ?_)
                            refine XW.reg (by kernel_rfl) ?_
                            refine XO.go [] 2 [1,86,87] [] [(1, .one (.pv (.rp [[pi p1.kind, pi p1.scale, .ro (eField.els p1.fields)]] 0 0))), (86, vi (p1.fields.length : Int)), (87, vi (IntKind.i64.wrap (x5 + (1 : Int))))] [] [] (by kernel_rfl) trivial ?_
                            refine XO.done (by kernel_rfl) ?_
                            exact XR.sub (Sub.pick [1,86,87] (by kernel_rfl)) (ih2 (IntKind.i64.wrap (x5 + (1 : Int))) h)
                          refine XW.block (id := 3) (x := cd Try.f74 [1,1,1,1,1,1,1,0,1,0,0,1,1,0,0]) (by kernel_rfl) ?_
                          refine XW.seq (x := cd Try.f74 [1,1,1,1,1,1,1,0,1,0,0,1,1,0,0,0]) (y := cd Try.f74 [1,1,1,1,1,1,1,0,1,0,0,1,1,0,0,1]) (by kernel_rfl) fun K55 hK55 => ?_
                          refine XW.reg (by kernel_rfl) ?_
                          refine XO.go [] 2 [1,4,86,87] [] [(1, .one (.pv (.rp [[pi p1.kind, pi p1.scale, .ro (eField.els p1.fields)]] 0 0))), (4, vi x5), (86, vi (p1.fields.length : Int)), (87, vi x5)] [] [] (by kernel_rfl) trivial ?_
                          refine XO.done (by kernel_rfl) ?_
                          refine hK55 _ _ ?_
                          refine XW.seq (x := cd Try.f74 [1,1,1,1,1,1,1,0,1,0,0,1,1,0,0,1,0]) (y := cd Try.f74 [1,1,1,1,1,1,1,0,1,0,0,1,1,0,0,1,1]) (by kernel_rfl) fun K56 hK56 => ?_
                          refine XW.reg (by kernel_rfl) ?_
                          refine XO.go [] 1 [1,4,5,86,87] [] [(1, .one (.pv (.rp [[pi p1.kind, pi p1.scale, .ro (eField.els p1.fields)]] 0 0))), (4, vi x5), (5, vi (0 : Int)), (86, vi (p1.fields.length : Int)), (87, vi x5)] [] [] (by kernel_rfl) trivial ?_
                          refine XO.done (by kernel_rfl) ?_
                          refine hK56 _ _ ?_
                          refine XW.block (id := 4) (x := cd Try.f74 [1,1,1,1,1,1,1,0,1,0,0,1,1,0,0,1,1,0]) (by kernel_rfl) ?_
                          refine XW.rounds' BIG (x := cd Try.f74 [1,1,1,1,1,1,1,0,1,0,0,1,1,0,0,1,1,0,0]) (by kernel_rfl) fun Q3 hQ3 => ?_
                          have hL3 : ∀ (k3 : Nat) (x6 : Int), ref1_shape_l3 (ref1_shape_l2 p1 k2) p1 x5 k3 x6 = some r → XR Try.prog 109 0 [] (cd Try.f74 [1,1,1,1,1,1,1,0,1,0,0,1,1,0,0,1,1,0,0]) Q3 k3 [(1, .one (.pv (.rp [[pi p1.kind, pi p1.scale, .ro (eField.els p1.fields)]] 0 0))), (4, vi x5), (5, vi x6), (86, vi (p1.fields.length : Int)), (87, vi x5)] [] := by
                            intro k3
                            induction k3 with
                            | zero => intro x6 h; rw [ref1_shape_l3.eq_1] at h; cases h
                            | succ k3 ih3 =>
                              intro x6 h
                              rw [ref1_shape_l3.eq_2] at h
                              refine XW.seq (x := cd Try.f74 [1,1,1,1,1,1,1,0,1,0,0,1,1,0,0,1,1,0,0,0]) (y := cd Try.f74 [1,1,1,1,1,1,1,0,1,0,0,1,1,0,0,1,1,0,0,1]) (by kernel_rfl) fun K57 hK57 => ?_
                              refine XW.seq (x := cd Try.f74 [1,1,1,1,1,1,1,0,1,0,0,1,1,0,0,1,1,0,0,0,0]) (y := cd Try.f74 [1,1,1,1,1,1,1,0,1,0,0,1,1,0,0,1,1,0,0,0,1]) (by kernel_rfl) fun K58 hK58 => ?_
                              refine XW.reg (by kernel_rfl) ?_
                              refine XO.go [] 3 [1,4,5,86,87,92] [] [(1, .one (.pv (.rp [[pi p1.kind, pi p1.scale, .ro (eField.els p1.fields)]] 0 0))), (4, vi x5), (5, vi x6), (86, vi (p1.fields.length : Int)), (87, vi x5), (92, vb (decide (x6 < x5)))] [] [] (by kernel_rfl) trivial ?_
                              refine XO.done (by kernel_rfl) ?_
                              refine hK58 _ _ ?_
                              refine XW.cond (x := .tmp 92) (a := cd Try.f74 [1,1,1,1,1,1,1,0,1,0,0,1,1,0,0,1,1,0,0,0,1,0]) (b := cd Try.f74 [1,1,1,1,1,1,1,0,1,0,0,1,1,0,0,1,1,0,0,0,1,1]) (t := (decide (x6 < x5))) (by kernel_rfl) (by kernel_rfl) (fun b59 => ?_) (fun b59 => ?_)
                              · have h := ift_t b59 h
                                refine XW.skip (by kernel_rfl) ?_
                                refine hK57 _ _ ?_
                                refine XW.seq (x := cd Try.f74 [1,1,1,1,1,1,1,0,1,0,0,1,1,0,0,1,1,0,0,1,0]) (y := cd Try.f74 [1,1,1,1,1,1,1,0,1,0,0,1,1,0,0,1,1,0,0,1,1]) (by kernel_rfl) fun K60 hK60 => ?_
                                refine XW.block (id := 5) (x := cd Try.f74 [1,1,1,1,1,1,1,0,1,0,0,1,1,0,0,1,1,0,0,1,0,0]) (by kernel_rfl) ?_
                                refine XW.seq (x := cd Try.f74 [1,1,1,1,1,1,1,0,1,0,0,1,1,0,0,1,1,0,0,1,0,0,0]) (y := cd Try.f74 [1,1,1,1,1,1,1,0,1,0,0,1,1,0,0,1,1,0,0,1,0,0,1]) (by kernel_rfl) fun K61 hK61 => ?_
                                obtain ⟨e3, a62, h⟩ := bnd_some h
                                obtain ⟨e4, a63, h⟩ := bnd_some h
                                refine XW.drwS 12 [(106, vs e4.name), (105, .one (.pv (.rp (eField.els p1.fields) x5.toNat 1))), (104, .one (.pv (.rp (eField.els p1.fields) x5.toNat 0))), (103, vi x5), (102, vl eField p1.fields), (101, .one (.pv (.rp [[pi p1.kind, pi p1.scale, .ro (eField.els p1.fields)]] 0 2))), (100, vs e3.name), (99, .one (.pv (.rp (eField.els p1.fields) x6.toNat 1))), (98, .one (.pv (.rp (eField.els p1.fields) x6.toNat 0))), (97, vi x6), (96, vl eField p1.fields), (95, .one (.pv (.rp [[pi p1.kind, pi p1.scale, .ro (eField.els p1.fields)]] 0 2))), (1, .one (.pv (.rp [[pi p1.kind, pi p1.scale, .ro (eField.els p1.fields)]] 0 0))), (4, vi x5), (5, vi x6), (86, vi (p1.fields.length : Int)), (87, vi x5), (92, vb (decide (x6 < x5)))] (by kernel_rfl) (by kernel_rfl) ?_ ?_
                                · refine DX.go 12 [[pi p1.kind, pi p1.scale, .ro (eField.els p1.fields)], [pi e3.id, .s (.string e3.name), .s (.bool e3.need), pi e3.type.kind, pi e3.type.scale, .ro (eField.els e3.type.fields)], [pi p1.kind, pi p1.scale, .ro (eField.els p1.fields)], [pi e4.id, .s (.string e4.name), .s (.bool e4.need), pi e4.type.kind, pi e4.type.scale, .ro (eField.els e4.type.fields)]] [(106, vs e4.name), (105, .one (.pv (.rp (eField.els p1.fields) x5.toNat 1))), (104, .one (.pv (.rp (eField.els p1.fields) x5.toNat 0))), (103, vi x5), (102, vl eField p1.fields), (101, .one (.pv (.rp [[pi p1.kind, pi p1.scale, .ro (eField.els p1.fields)]] 0 2))), (100, vs e3.name), (99, .one (.pv (.rp (eField.els p1.fields) x6.toNat 1))), (98, .one (.pv (.rp (eField.els p1.fields) x6.toNat 0))), (97, vi x6), (96, vl eField p1.fields), (95, .one (.pv (.rp [[pi p1.kind, pi p1.scale, .ro (eField.els p1.fields)]] 0 2))), (1, .one (.pv (.rp [[pi p1.kind, pi p1.scale, .ro (eField.els p1.fields)]] 0 0))), (4, vi x5), (5, vi x6), (86, vi (p1.fields.length : Int)), (87, vi x5), (92, vb (decide (x6 < x5)))] [([[pi p1.kind, pi p1.scale, .ro (eField.els p1.fields)]] : List (List PV))[0]? = some [pi p1.kind, pi p1.scale, .ro (eField.els p1.fields)], 0 ≤ x6 ∧ x6 < ((eField.els p1.fields).length : Int) ∧ elemsOk 6 (eField.els p1.fields), (eField.els p1.fields)[x6.toNat]? = some [pi e3.id, .s (.string e3.name), .s (.bool e3.need), pi e3.type.kind, pi e3.type.scale, .ro (eField.els e3.type.fields)], ([[pi p1.kind, pi p1.scale, .ro (eField.els p1.fields)]] : List (List PV))[0]? = some [pi p1.kind, pi p1.scale, .ro (eField.els p1.fields)], 0 ≤ x5 ∧ x5 < ((eField.els p1.fields).length : Int) ∧ elemsOk 6 (eField.els p1.fields), (eField.els p1.fields)[x5.toNat]? = some [pi e4.id, .s (.string e4.name), .s (.bool e4.need), pi e4.type.kind, pi e4.type.scale, .ro (eField.els e4.type.fields)]] (by kernel_rfl) (⟨rfl, eField.inb a62, ((eField.get a62).trans (by rcases e3 with ⟨_, _, _, ⟨_, _, _⟩⟩; rfl)), rfl, eField.inb a63, ((eField.get a63).trans (by rcases e4 with ⟨_, _, _, ⟨_, _, _⟩⟩; rfl)), trivial⟩) ?_
                                  exact DX.done (by kernel_rfl)
                                refine XO.go [] 1 [1,4,5,86,87,107] [] [(1, .one (.pv (.rp [[pi p1.kind, pi p1.scale, .ro (eField.els p1.fields)]] 0 0))), (4, vi x5), (5, vi x6), (86, vi (p1.fields.length : Int)), (87, vi x5), (107, vb (e3.name.toList == e4.name.toList))] [] [] (by kernel_rfl) trivial ?_
                                refine XO.done (by kernel_rfl) ?_
                                refine hK61 _ _ ?_
                                refine XW.cond (x := .tmp 107) (a := cd Try.f74 [1,1,1,1,1,1,1,0,1,0,0,1,1,0,0,1,1,0,0,1,0,0,1,0]) (b := cd Try.f74 [1,1,1,1,1,1,1,0,1,0,0,1,1,0,0,1,1,0,0,1,0,0,1,1]) (t := (e3.name.toList == e4.name.toList)) (by kernel_rfl) (by kernel_rfl) (fun b64 => ?_) (fun b64 => ?_)
                                · have h := ift_t b64 h
                                  refine XW.seq (x := cd Try.f74 [1,1,1,1,1,1,1,0,1,0,0,1,1,0,0,1,1,0,0,1,0,0,1,0,0]) (y := cd Try.f74 [1,1,1,1,1,1,1,0,1,0,0,1,1,0,0,1,1,0,0,1,0,0,1,0,1]) (by kernel_rfl) fun K65 hK65 => ?_
                                  refine XW.reg (by kernel_rfl) ?_
                                  refine XO.go [] 1 [2] [] [(2, vi (5 : Int))] [] [] (by kernel_rfl) trivial ?_
                                  refine XO.done (by kernel_rfl) ?_
                                  refine hK65 _ _ ?_
                                  refine XW.ret (by kernel_rfl) ?_
                                  refine hQ3 _ _ _ ?_
                                  refine hQ2 _ _ _ ?_
                                  obtain rfl := Option.some.inj h
                                  exact FinP.fin (.inr rfl) [] [vi (5 : Int)] [] (by kernel_rfl) trivial (.one (.rfl _ rfl))
                                · have h := ift_f b64 h
                                  refine XW.skip (by kernel_rfl) ?_
                                  refine hK60 _ _ ?_
                                  refine XW.reg (by kernel_rfl) ?_
                                  refine XO.go [] 3 [1,4,5,86,87] [] [(1, .one (.pv (.rp [[pi p1.kind, pi p1.scale, .ro (eField.els p1.fields)]] 0 0))), (4, vi x5), (5, vi (IntKind.i64.wrap (x6 + (1 : Int)))), (86, vi (p1.fields.length : Int)), (87, vi x5)] [] [] (by kernel_rfl) trivial ?_
                                  refine XO.done (by kernel_rfl) ?_
                                  exact XR.sub (Sub.pick [1,4,5,86,87] (by kernel_rfl)) (ih3 (IntKind.i64.wrap (x6 + (1 : Int))) h)
                              · have h := ift_f b59 h
                                refine XW.exit (id := 4) (by kernel_rfl) ?_
                                refine hQ3 _ _ _ ?_
                                exact hJ5 () h _ _ (Sub.pick [1,86,87] (by kernel_rfl))
                          exact XR.sub (Sub.pick [1,4,5,86,87] (by kernel_rfl)) (hL3 BIG (0 : Int) h)
                        · have h := ift_f b53 h
                          refine XW.exit (id := 2) (by kernel_rfl) ?_
                          refine hQ2 _ _ _ ?_
                          exact hJ6 () h _ _ (Sub.pick [] (by kernel_rfl))
                    exact XR.sub (Sub.pick [1,86,87] (by kernel_rfl)) (hL2 BIG (0 : Int) h)
                  refine XW.seq (x := cd Try.f74 [1,1,1,1,1,1,0,0]) (y := cd Try.f74 [1,1,1,1,1,1,0,1]) (by kernel_rfl) fun K38 hK38 => ?_
                  refine XW.reg (by kernel_rfl) ?_
                  refine XO.go [] 3 [1,71] [[pi p1.kind, pi p1.scale, .ro (eField.els p1.fields)]] [(1, .one (.pv (.rp [[pi p1.kind, pi p1.scale, .ro (eField.els p1.fields)]] 0 0))), (71, vi ((eField.els p1.fields).length : Int))] [] [([[pi p1.kind, pi p1.scale, .ro (eField.els p1.fields)]] : List (List PV))[0]? = some [pi p1.kind, pi p1.scale, .ro (eField.els p1.fields)]] (by kernel_rfl) (⟨rfl, trivial⟩) ?_
                  rw [eField.len p1.fields]
                  refine XO.go [] 1 [1,71,72] [] [(1, .one (.pv (.rp [[pi p1.kind, pi p1.scale, .ro (eField.els p1.fields)]] 0 0))), (71, vi (p1.fields.length : Int)), (72, vi (0 : Int))] [] [] (by kernel_rfl) trivial ?_
                  refine XO.done (by kernel_rfl) ?_
                  refine hK38 _ _ ?_
                  refine XW.block (id := 0) (x := cd Try.f74 [1,1,1,1,1,1,0,1,0]) (by kernel_rfl) ?_
                  refine XW.rounds' BIG (x := cd Try.f74 [1,1,1,1,1,1,0,1,0,0]) (by kernel_rfl) fun Q1 hQ1 => ?_
                  have hL1 : ∀ (k1 : Nat) (x4 : Int), ref1_shape_l1 p1 k1 x4 = some r → XR Try.prog 109 0 [] (cd Try.f74 [1,1,1,1,1,1,0,1,0,0]) Q1 k1 [(1, .one (.pv (.rp [[pi p1.kind, pi p1.scale, .ro (eField.els p1.fields)]] 0 0))), (71, vi (p1.fields.length : Int)), (72, vi x4)] [] := by
                    intro k1
                    induction k1 with
                    | zero => intro x4 h; rw [ref1_shape_l1.eq_1] at h; cases h
                    | succ k1 ih1 =>
                      intro x4 h
                      rw [ref1_shape_l1.eq_2] at h
                      refine XW.seq (x := cd Try.f74 [1,1,1,1,1,1,0,1,0,0,0]) (y := cd Try.f74 [1,1,1,1,1,1,0,1,0,0,1]) (by kernel_rfl) fun K39 hK39 => ?_
                      refine XW.reg (by kernel_rfl) ?_
                      refine XO.go [] 1 [1,71,72,73] [] [(1, .one (.pv (.rp [[pi p1.kind, pi p1.scale, .ro (eField.els p1.fields)]] 0 0))), (71, vi (p1.fields.length : Int)), (72, vi x4), (73, vb (decide (x4 < (p1.fields.length : Int))))] [] [] (by kernel_rfl) trivial ?_
                      refine XO.done (by kernel_rfl) ?_
                      refine hK39 _ _ ?_
                      refine XW.seq (x := cd Try.f74 [1,1,1,1,1,1,0,1,0,0,1,0]) (y := cd Try.f74 [1,1,1,1,1,1,0,1,0,0,1,1]) (by kernel_rfl) fun K40 hK40 => ?_
                      refine XW.cond (x := .tmp 73) (a := cd Try.f74 [1,1,1,1,1,1,0,1,0,0,1,0,0]) (b := cd Try.f74 [1,1,1,1,1,1,0,1,0,0,1,0,1]) (t := (decide (x4 < (p1.fields.length : Int)))) (by kernel_rfl) (by kernel_rfl) (fun b41 => ?_) (fun b41 => ?_)
                      · have h := ift_t b41 h
                        refine XW.skip (by kernel_rfl) ?_
                        refine hK40 _ _ ?_
                        refine XW.seq (x := cd Try.f74 [1,1,1,1,1,1,0,1,0,0,1,1,0]) (y := cd Try.f74 [1,1,1,1,1,1,0,1,0,0,1,1,1]) (by kernel_rfl) fun K42 hK42 => ?_
                        refine XW.block (id := 1) (x := cd Try.f74 [1,1,1,1,1,1,0,1,0,0,1,1,0,0]) (by kernel_rfl) ?_
                        refine XW.seq (x := cd Try.f74 [1,1,1,1,1,1,0,1,0,0,1,1,0,0,0]) (y := cd Try.f74 [1,1,1,1,1,1,0,1,0,0,1,1,0,0,1]) (by kernel_rfl) fun K43 hK43 => ?_
                        refine XW.reg (by kernel_rfl) ?_
                        refine XO.go [] 2 [1,3,71,72] [] [(1, .one (.pv (.rp [[pi p1.kind, pi p1.scale, .ro (eField.els p1.fields)]] 0 0))), (3, vi x4), (71, vi (p1.fields.length : Int)), (72, vi x4)] [] [] (by kernel_rfl) trivial ?_
                        refine XO.done (by kernel_rfl) ?_
                        refine hK43 _ _ ?_
                        refine XW.seq (x := cd Try.f74 [1,1,1,1,1,1,0,1,0,0,1,1,0,0,1,0]) (y := cd Try.f74 [1,1,1,1,1,1,0,1,0,0,1,1,0,0,1,1]) (by kernel_rfl) fun K44 hK44 => ?_
                        obtain ⟨e2, a45, h⟩ := bnd_some h
                        obtain ⟨r5, c46, h⟩ := bnd_some h
                        refine XW.reg (by kernel_rfl) ?_
                        refine XO.go [] 6 [1,71,72,80] [[pi p1.kind, pi p1.scale, .ro (eField.els p1.fields)], [pi e2.id, .s (.string e2.name), .s (.bool e2.need), pi e2.type.kind, pi e2.type.scale, .ro (eField.els e2.type.fields)]] [(1, .one (.pv (.rp [[pi p1.kind, pi p1.scale, .ro (eField.els p1.fields)]] 0 0))), (71, vi (p1.fields.length : Int)), (72, vi x4), (80, vs e2.name)] [] [([[pi p1.kind, pi p1.scale, .ro (eField.els p1.fields)]] : List (List PV))[0]? = some [pi p1.kind, pi p1.scale, .ro (eField.els p1.fields)], 0 ≤ x4 ∧ x4 < ((eField.els p1.fields).length : Int) ∧ elemsOk 6 (eField.els p1.fields), (eField.els p1.fields)[x4.toNat]? = some [pi e2.id, .s (.string e2.name), .s (.bool e2.need), pi e2.type.kind, pi e2.type.scale, .ro (eField.els e2.type.fields)]] (by kernel_rfl) (⟨rfl, eField.inb a45, ((eField.get a45).trans (by rcases e2 with ⟨_, _, _, ⟨_, _, _⟩⟩; rfl)), trivial⟩) ?_
                        refine XO.cal 94 [vs e2.name] (vb r5) [(81, vb r5), (1, .one (.pv (.rp [[pi p1.kind, pi p1.scale, .ro (eField.els p1.fields)]] 0 0))), (71, vi (p1.fields.length : Int)), (72, vi x4), (80, vs e2.name)] (by kernel_rfl) (c_ref1_Name _ _ c46) rfl rfl (by kernel_rfl) ?_
                        refine XO.go [] 1 [1,71,72,82] [] [(1, .one (.pv (.rp [[pi p1.kind, pi p1.scale, .ro (eField.els p1.fields)]] 0 0))), (71, vi (p1.fields.length : Int)), (72, vi x4), (82, vb (!r5))] [] [] (by kernel_rfl) trivial ?_
                        refine XO.done (by kernel_rfl) ?_
                        refine hK44 _ _ ?_
                        refine XW.cond (x := .tmp 82) (a := cd Try.f74 [1,1,1,1,1,1,0,1,0,0,1,1,0,0,1,1,0]) (b := cd Try.f74 [1,1,1,1,1,1,0,1,0,0,1,1,0,0,1,1,1]) (t := (!r5)) (by kernel_rfl) (by kernel_rfl) (fun b47 => ?_) (fun b47 => ?_)
                        · have h := ift_t b47 h
                          refine XW.seq (x := cd Try.f74 [1,1,1,1,1,1,0,1,0,0,1,1,0,0,1,1,0,0]) (y := cd Try.f74 [1,1,1,1,1,1,0,1,0,0,1,1,0,0,1,1,0,1]) (by kernel_rfl) fun K48 hK48 => ?_
                          refine XW.reg (by kernel_rfl) ?_
                          refine XO.go [] 1 [2] [] [(2, vi (4 : Int))] [] [] (by kernel_rfl) trivial ?_
                          refine XO.done (by kernel_rfl) ?_
                          refine hK48 _ _ ?_
                          refine XW.ret (by kernel_rfl) ?_
                          refine hQ1 _ _ _ ?_
                          obtain rfl := Option.some.inj h
                          exact FinP.fin (.inr rfl) [] [vi (4 : Int)] [] (by kernel_rfl) trivial (.one (.rfl _ rfl))
                        · have h := ift_f b47 h
                          refine XW.skip (by kernel_rfl) ?_
                          refine hK42 _ _ ?_
                          refine XW.reg (by kernel_rfl) ?_
                          refine XO.go [] 2 [1,71,72] [] [(1, .one (.pv (.rp [[pi p1.kind, pi p1.scale, .ro (eField.els p1.fields)]] 0 0))), (71, vi (p1.fields.length : Int)), (72, vi (IntKind.i64.wrap (x4 + (1 : Int))))] [] [] (by kernel_rfl) trivial ?_
                          refine XO.done (by kernel_rfl) ?_
                          exact XR.sub (Sub.pick [1,71,72] (by kernel_rfl)) (ih1 (IntKind.i64.wrap (x4 + (1 : Int))) h)
                      · have h := ift_f b41 h
                        refine XW.exit (id := 0) (by kernel_rfl) ?_
                        refine hQ1 _ _ _ ?_
                        exact hJ4 () h _ _ (Sub.pick [1] (by kernel_rfl))
                  exact XR.sub (Sub.pick [1,71,72] (by kernel_rfl)) (hL1 BIG (0 : Int) h)
            rcases Bool.eq_false_or_eq_true (p1.kind == (7 : Int)) with b25 | b25
            · have h := ift_t b25 h
              rcases Bool.eq_false_or_eq_true ((p1.fields.length : Int) == (0 : Int)) with b26 | b26
              · have h := ift_t b26 h
                refine XW.reg (by kernel_rfl) ?_
                refine XO.go [] 4 [1,49] [[pi p1.kind, pi p1.scale, .ro (eField.els p1.fields)]] [(1, .one (.pv (.rp [[pi p1.kind, pi p1.scale, .ro (eField.els p1.fields)]] 0 0))), (49, vb (p1.kind == (7 : Int)))] [] [([[pi p1.kind, pi p1.scale, .ro (eField.els p1.fields)]] : List (List PV))[0]? = some [pi p1.kind, pi p1.scale, .ro (eField.els p1.fields)]] (by kernel_rfl) (⟨rfl, trivial⟩) ?_
                refine XO.setb 49 true (B := (p1.kind == (7 : Int))) rfl b25 ?_
                refine XO.go [] 3 [1,49,52] [[pi p1.kind, pi p1.scale, .ro (eField.els p1.fields)]] [(1, .one (.pv (.rp [[pi p1.kind, pi p1.scale, .ro (eField.els p1.fields)]] 0 0))), (49, vb true), (52, vi ((eField.els p1.fields).length : Int))] [] [([[pi p1.kind, pi p1.scale, .ro (eField.els p1.fields)]] : List (List PV))[0]? = some [pi p1.kind, pi p1.scale, .ro (eField.els p1.fields)]] (by kernel_rfl) (⟨rfl, trivial⟩) ?_
                rw [eField.len p1.fields]
                refine XO.go [] 3 [1,55] [] [(1, .one (.pv (.rp [[pi p1.kind, pi p1.scale, .ro (eField.els p1.fields)]] 0 0))), (55, vb ((p1.fields.length : Int) == (0 : Int)))] [] [] (by kernel_rfl) trivial ?_
                refine XO.setb 55 true (B := ((p1.fields.length : Int) == (0 : Int))) rfl b26 ?_
                refine XO.go [] 10 [1,65] [] [(1, .one (.pv (.rp [[pi p1.kind, pi p1.scale, .ro (eField.els p1.fields)]] 0 0))), (65, vb true)] [] [] (by kernel_rfl) trivial ?_
                refine XO.done (by kernel_rfl) ?_
                exact hJ3 true h _ _ (Sub.pick [1,65] (by kernel_rfl))
              · have h := ift_f b26 h
                obtain ⟨r3, c27, h⟩ := bnd_some h
                rcases Bool.eq_false_or_eq_true r3 with b28 | b28
                · have h := ift_t b28 h
                  refine XW.reg (by kernel_rfl) ?_
                  refine XO.go [] 4 [1,49] [[pi p1.kind, pi p1.scale, .ro (eField.els p1.fields)]] [(1, .one (.pv (.rp [[pi p1.kind, pi p1.scale, .ro (eField.els p1.fields)]] 0 0))), (49, vb (p1.kind == (7 : Int)))] [] [([[pi p1.kind, pi p1.scale, .ro (eField.els p1.fields)]] : List (List PV))[0]? = some [pi p1.kind, pi p1.scale, .ro (eField.els p1.fields)]] (by kernel_rfl) (⟨rfl, trivial⟩) ?_
                  refine XO.setb 49 true (B := (p1.kind == (7 : Int))) rfl b25 ?_
                  refine XO.go [] 3 [1,49,52] [[pi p1.kind, pi p1.scale, .ro (eField.els p1.fields)]] [(1, .one (.pv (.rp [[pi p1.kind, pi p1.scale, .ro (eField.els p1.fields)]] 0 0))), (49, vb true), (52, vi ((eField.els p1.fields).length : Int))] [] [([[pi p1.kind, pi p1.scale, .ro (eField.els p1.fields)]] : List (List PV))[0]? = some [pi p1.kind, pi p1.scale, .ro (eField.els p1.fields)]] (by kernel_rfl) (⟨rfl, trivial⟩) ?_
                  rw [eField.len p1.fields]
                  refine XO.go [] 3 [1,55] [] [(1, .one (.pv (.rp [[pi p1.kind, pi p1.scale, .ro (eField.els p1.fields)]] 0 0))), (55, vb ((p1.fields.length : Int) == (0 : Int)))] [] [] (by kernel_rfl) trivial ?_
                  refine XO.setb 55 false (B := ((p1.fields.length : Int) == (0 : Int))) rfl b26 ?_
                  refine XO.go [] 2 [1,55,57] [[pi p1.kind, pi p1.scale, .ro (eField.els p1.fields)]] [(1, .one (.pv (.rp [[pi p1.kind, pi p1.scale, .ro (eField.els p1.fields)]] 0 0))), (55, vb false), (57, vi p1.kind)] [] [([[pi p1.kind, pi p1.scale, .ro (eField.els p1.fields)]] : List (List PV))[0]? = some [pi p1.kind, pi p1.scale, .ro (eField.els p1.fields)]] (by kernel_rfl) (⟨rfl, trivial⟩) ?_
                  refine XO.cal 73 [vi p1.kind] (vb r3) [(58, vb r3), (1, .one (.pv (.rp [[pi p1.kind, pi p1.scale, .ro (eField.els p1.fields)]] 0 0))), (55, vb false), (57, vi p1.kind)] (by kernel_rfl) (c_ref1_Leaf _ _ c27) rfl rfl (by kernel_rfl) ?_
                  refine XO.go [] 1 [1,55,59] [] [(1, .one (.pv (.rp [[pi p1.kind, pi p1.scale, .ro (eField.els p1.fields)]] 0 0))), (55, vb false), (59, vb r3)] [] [] (by kernel_rfl) trivial ?_
                  refine XO.setb 59 true (B := r3) rfl b28 ?_
                  refine XO.go [] 3 [1,55,59,62] [[pi p1.kind, pi p1.scale, .ro (eField.els p1.fields)]] [(1, .one (.pv (.rp [[pi p1.kind, pi p1.scale, .ro (eField.els p1.fields)]] 0 0))), (55, vb false), (59, vb true), (62, vi ((eField.els p1.fields).length : Int))] [] [([[pi p1.kind, pi p1.scale, .ro (eField.els p1.fields)]] : List (List PV))[0]? = some [pi p1.kind, pi p1.scale, .ro (eField.els p1.fields)]] (by kernel_rfl) (⟨rfl, trivial⟩) ?_
                  rw [eField.len p1.fields]
                  refine XO.go [] 3 [1,65] [] [(1, .one (.pv (.rp [[pi p1.kind, pi p1.scale, .ro (eField.els p1.fields)]] 0 0))), (65, vb (decide ((0 : Int) < (p1.fields.length : Int))))] [] [] (by kernel_rfl) trivial ?_
                  refine XO.done (by kernel_rfl) ?_
                  exact hJ3 (decide ((0 : Int) < (p1.fields.length : Int))) h _ _ (Sub.pick [1,65] (by kernel_rfl))
                · have h := ift_f b28 h
                  refine XW.reg (by kernel_rfl) ?_
                  refine XO.go [] 4 [1,49] [[pi p1.kind, pi p1.scale, .ro (eField.els p1.fields)]] [(1, .one (.pv (.rp [[pi p1.kind, pi p1.scale, .ro (eField.els p1.fields)]] 0 0))), (49, vb (p1.kind == (7 : Int)))] [] [([[pi p1.kind, pi p1.scale, .ro (eField.els p1.fields)]] : List (List PV))[0]? = some [pi p1.kind, pi p1.scale, .ro (eField.els p1.fields)]] (by kernel_rfl) (⟨rfl, trivial⟩) ?_
                  refine XO.setb 49 true (B := (p1.kind == (7 : Int))) rfl b25 ?_
                  refine XO.go [] 3 [1,49,52] [[pi p1.kind, pi p1.scale, .ro (eField.els p1.fields)]] [(1, .one (.pv (.rp [[pi p1.kind, pi p1.scale, .ro (eField.els p1.fields)]] 0 0))), (49, vb true), (52, vi ((eField.els p1.fields).length : Int))] [] [([[pi p1.kind, pi p1.scale, .ro (eField.els p1.fields)]] : List (List PV))[0]? = some [pi p1.kind, pi p1.scale, .ro (eField.els p1.fields)]] (by kernel_rfl) (⟨rfl, trivial⟩) ?_
                  rw [eField.len p1.fields]
                  refine XO.go [] 3 [1,55] [] [(1, .one (.pv (.rp [[pi p1.kind, pi p1.scale, .ro (eField.els p1.fields)]] 0 0))), (55, vb ((p1.fields.length : Int) == (0 : Int)))] [] [] (by kernel_rfl) trivial ?_
                  refine XO.setb 55 false (B := ((p1.fields.length : Int) == (0 : Int))) rfl b26 ?_
                  refine XO.go [] 2 [1,55,57] [[pi p1.kind, pi p1.scale, .ro (eField.els p1.fields)]] [(1, .one (.pv (.rp [[pi p1.kind, pi p1.scale, .ro (eField.els p1.fields)]] 0 0))), (55, vb false), (57, vi p1.kind)] [] [([[pi p1.kind, pi p1.scale, .ro (eField.els p1.fields)]] : List (List PV))[0]? = some [pi p1.kind, pi p1.scale, .ro (eField.els p1.fields)]] (by kernel_rfl) (⟨rfl, trivial⟩) ?_
                  refine XO.cal 73 [vi p1.kind] (vb r3) [(58, vb r3), (1, .one (.pv (.rp [[pi p1.kind, pi p1.scale, .ro (eField.els p1.fields)]] 0 0))), (55, vb false), (57, vi p1.kind)] (by kernel_rfl) (c_ref1_Leaf _ _ c27) rfl rfl (by kernel_rfl) ?_
                  refine XO.go [] 1 [1,55,59] [] [(1, .one (.pv (.rp [[pi p1.kind, pi p1.scale, .ro (eField.els p1.fields)]] 0 0))), (55, vb false), (59, vb r3)] [] [] (by kernel_rfl) trivial ?_
                  refine XO.setb 59 false (B := r3) rfl b28 ?_
                  refine XO.go [] 6 [1,65] [] [(1, .one (.pv (.rp [[pi p1.kind, pi p1.scale, .ro (eField.els p1.fields)]] 0 0))), (65, vb false)] [] [] (by kernel_rfl) trivial ?_
                  refine XO.done (by kernel_rfl) ?_
                  exact hJ3 false h _ _ (Sub.pick [1,65] (by kernel_rfl))
            · have h := ift_f b25 h
              obtain ⟨r4, c29, h⟩ := bnd_some h
              rcases Bool.eq_false_or_eq_true r4 with b30 | b30
              · have h := ift_t b30 h
                refine XW.reg (by kernel_rfl) ?_
                refine XO.go [] 4 [1,49] [[pi p1.kind, pi p1.scale, .ro (eField.els p1.fields)]] [(1, .one (.pv (.rp [[pi p1.kind, pi p1.scale, .ro (eField.els p1.fields)]] 0 0))), (49, vb (p1.kind == (7 : Int)))] [] [([[pi p1.kind, pi p1.scale, .ro (eField.els p1.fields)]] : List (List PV))[0]? = some [pi p1.kind, pi p1.scale, .ro (eField.els p1.fields)]] (by kernel_rfl) (⟨rfl, trivial⟩) ?_
                refine XO.setb 49 false (B := (p1.kind == (7 : Int))) rfl b25 ?_
                refine XO.go [] 8 [1,55,57] [[pi p1.kind, pi p1.scale, .ro (eField.els p1.fields)]] [(1, .one (.pv (.rp [[pi p1.kind, pi p1.scale, .ro (eField.els p1.fields)]] 0 0))), (55, vb false), (57, vi p1.kind)] [] [([[pi p1.kind, pi p1.scale, .ro (eField.els p1.fields)]] : List (List PV))[0]? = some [pi p1.kind, pi p1.scale, .ro (eField.els p1.fields)]] (by kernel_rfl) (⟨rfl, trivial⟩) ?_
                refine XO.cal 73 [vi p1.kind] (vb r4) [(58, vb r4), (1, .one (.pv (.rp [[pi p1.kind, pi p1.scale, .ro (eField.els p1.fields)]] 0 0))), (55, vb false), (57, vi p1.kind)] (by kernel_rfl) (c_ref1_Leaf _ _ c29) rfl rfl (by kernel_rfl) ?_
                refine XO.go [] 1 [1,55,59] [] [(1, .one (.pv (.rp [[pi p1.kind, pi p1.scale, .ro (eField.els p1.fields)]] 0 0))), (55, vb false), (59, vb r4)] [] [] (by kernel_rfl) trivial ?_
                refine XO.setb 59 true (B := r4) rfl b30 ?_
                refine XO.go [] 3 [1,55,59,62] [[pi p1.kind, pi p1.scale, .ro (eField.els p1.fields)]] [(1, .one (.pv (.rp [[pi p1.kind, pi p1.scale, .ro (eField.els p1.fields)]] 0 0))), (55, vb false), (59, vb true), (62, vi ((eField.els p1.fields).length : Int))] [] [([[pi p1.kind, pi p1.scale, .ro (eField.els p1.fields)]] : List (List PV))[0]? = some [pi p1.kind, pi p1.scale, .ro (eField.els p1.fields)]] (by kernel_rfl) (⟨rfl, trivial⟩) ?_
                rw [eField.len p1.fields]
                refine XO.go [] 3 [1,65] [] [(1, .one (.pv (.rp [[pi p1.kind, pi p1.scale, .ro (eField.els p1.fields)]] 0 0))), (65, vb (decide ((0 : Int) < (p1.fields.length : Int))))] [] [] (by kernel_rfl) trivial ?_
                refine XO.done (by kernel_rfl) ?_
                exact hJ3 (decide ((0 : Int) < (p1.fields.length : Int))) h _ _ (Sub.pick [1,65] (by kernel_rfl))
              · have h := ift_f b30 h
                refine XW.reg (by kernel_rfl) ?_
                refine XO.go [] 4 [1,49] [[pi p1.kind, pi p1.scale, .ro (eField.els p1.fields)]] [(1, .one (.pv (.rp [[pi p1.kind, pi p1.scale, .ro (eField.els p1.fields)]] 0 0))), (49, vb (p1.kind == (7 : Int)))] [] [([[pi p1.kind, pi p1.scale, .ro (eField.els p1.fields)]] : List (List PV))[0]? = some [pi p1.kind, pi p1.scale, .ro (eField.els p1.fields)]] (by kernel_rfl) (⟨rfl, trivial⟩) ?_
                refine XO.setb 49 false (B := (p1.kind == (7 : Int))) rfl b25 ?_
                refine XO.go [] 8 [1,55,57] [[pi p1.kind, pi p1.scale, .ro (eField.els p1.fields)]] [(1, .one (.pv (.rp [[pi p1.kind, pi p1.scale, .ro (eField.els p1.fields)]] 0 0))), (55, vb false), (57, vi p1.kind)] [] [([[pi p1.kind, pi p1.scale, .ro (eField.els p1.fields)]] : List (List PV))[0]? = some [pi p1.kind, pi p1.scale, .ro (eField.els p1.fields)]] (by kernel_rfl) (⟨rfl, trivial⟩) ?_
                refine XO.cal 73 [vi p1.kind] (vb r4) [(58, vb r4), (1, .one (.pv (.rp [[pi p1.kind, pi p1.scale, .ro (eField.els p1.fields)]] 0 0))), (55, vb false), (57, vi p1.kind)] (by kernel_rfl) (c_ref1_Leaf _ _ c29) rfl rfl (by kernel_rfl) ?_
                refine XO.go [] 1 [1,55,59] [] [(1, .one (.pv (.rp [[pi p1.kind, pi p1.scale, .ro (eField.els p1.fields)]] 0 0))), (55, vb false), (59, vb r4)] [] [] (by kernel_rfl) trivial ?_
                refine XO.setb 59 false (B := r4) rfl b30 ?_
                refine XO.go [] 6 [1,65] [] [(1, .one (.pv (.rp [[pi p1.kind, pi p1.scale, .ro (eField.els p1.fields)]] 0 0))), (65, vb false)] [] [] (by kernel_rfl) trivial ?_
                refine XO.done (by kernel_rfl) ?_
                exact hJ3 false h _ _ (Sub.pick [1,65] (by kernel_rfl))
        rcases Bool.eq_false_or_eq_true (p1.kind == (6 : Int)) with b18 | b18
        · have h := ift_t b18 h
          rcases Bool.eq_false_or_eq_true ((p1.fields.length : Int) != (1 : Int)) with b19 | b19
          · have h := ift_t b19 h
            refine XW.reg (by kernel_rfl) ?_
            refine XO.go [] 4 [1,32] [[pi p1.kind, pi p1.scale, .ro (eField.els p1.fields)]] [(1, .one (.pv (.rp [[pi p1.kind, pi p1.scale, .ro (eField.els p1.fields)]] 0 0))), (32, vb (p1.kind == (6 : Int)))] [] [([[pi p1.kind, pi p1.scale, .ro (eField.els p1.fields)]] : List (List PV))[0]? = some [pi p1.kind, pi p1.scale, .ro (eField.els p1.fields)]] (by kernel_rfl) (⟨rfl, trivial⟩) ?_
            refine XO.setb 32 true (B := (p1.kind == (6 : Int))) rfl b18 ?_
            refine XO.go [] 3 [1,32,35] [[pi p1.kind, pi p1.scale, .ro (eField.els p1.fields)]] [(1, .one (.pv (.rp [[pi p1.kind, pi p1.scale, .ro (eField.els p1.fields)]] 0 0))), (32, vb true), (35, vi ((eField.els p1.fields).length : Int))] [] [([[pi p1.kind, pi p1.scale, .ro (eField.els p1.fields)]] : List (List PV))[0]? = some [pi p1.kind, pi p1.scale, .ro (eField.els p1.fields)]] (by kernel_rfl) (⟨rfl, trivial⟩) ?_
            rw [eField.len p1.fields]
            refine XO.go [] 2 [1,32,37] [] [(1, .one (.pv (.rp [[pi p1.kind, pi p1.scale, .ro (eField.els p1.fields)]] 0 0))), (32, vb true), (37, vb ((p1.fields.length : Int) != (1 : Int)))] [] [] (by kernel_rfl) trivial ?_
            refine XO.setb 37 true (B := ((p1.fields.length : Int) != (1 : Int))) rfl b19 ?_
            refine XO.go [] 8 [1,45] [] [(1, .one (.pv (.rp [[pi p1.kind, pi p1.scale, .ro (eField.els p1.fields)]] 0 0))), (45, vb true)] [] [] (by kernel_rfl) trivial ?_
            refine XO.done (by kernel_rfl) ?_
            exact hJ2 true h _ _ (Sub.pick [1,45] (by kernel_rfl))
          · have h := ift_f b19 h
            obtain ⟨e1, a20, h⟩ := bnd_some h
            refine XW.reg (by kernel_rfl) ?_
            refine XO.go [] 4 [1,32] [[pi p1.kind, pi p1.scale, .ro (eField.els p1.fields)]] [(1, .one (.pv (.rp [[pi p1.kind, pi p1.scale, .ro (eField.els p1.fields)]] 0 0))), (32, vb (p1.kind == (6 : Int)))] [] [([[pi p1.kind, pi p1.scale, .ro (eField.els p1.fields)]] : List (List PV))[0]? = some [pi p1.kind, pi p1.scale, .ro (eField.els p1.fields)]] (by kernel_rfl) (⟨rfl, trivial⟩) ?_
            refine XO.setb 32 true (B := (p1.kind == (6 : Int))) rfl b18 ?_
            refine XO.go [] 3 [1,32,35] [[pi p1.kind, pi p1.scale, .ro (eField.els p1.fields)]] [(1, .one (.pv (.rp [[pi p1.kind, pi p1.scale, .ro (eField.els p1.fields)]] 0 0))), (32, vb true), (35, vi ((eField.els p1.fields).length : Int))] [] [([[pi p1.kind, pi p1.scale, .ro (eField.els p1.fields)]] : List (List PV))[0]? = some [pi p1.kind, pi p1.scale, .ro (eField.els p1.fields)]] (by kernel_rfl) (⟨rfl, trivial⟩) ?_
            rw [eField.len p1.fields]
            refine XO.go [] 2 [1,32,37] [] [(1, .one (.pv (.rp [[pi p1.kind, pi p1.scale, .ro (eField.els p1.fields)]] 0 0))), (32, vb true), (37, vb ((p1.fields.length : Int) != (1 : Int)))] [] [] (by kernel_rfl) trivial ?_
            refine XO.setb 37 false (B := ((p1.fields.length : Int) != (1 : Int))) rfl b19 ?_
            refine XO.go [] 8 [1,45] [[pi p1.kind, pi p1.scale, .ro (eField.els p1.fields)], [pi e1.id, .s (.string e1.name), .s (.bool e1.need), pi e1.type.kind, pi e1.type.scale, .ro (eField.els e1.type.fields)]] [(1, .one (.pv (.rp [[pi p1.kind, pi p1.scale, .ro (eField.els p1.fields)]] 0 0))), (45, vb (!(e1.name.toList == (ByteArray.mk #[]).toList)))] [] [([[pi p1.kind, pi p1.scale, .ro (eField.els p1.fields)]] : List (List PV))[0]? = some [pi p1.kind, pi p1.scale, .ro (eField.els p1.fields)], 0 ≤ (0 : Int) ∧ (0 : Int) < ((eField.els p1.fields).length : Int) ∧ elemsOk 6 (eField.els p1.fields), (eField.els p1.fields)[(0 : Int).toNat]? = some [pi e1.id, .s (.string e1.name), .s (.bool e1.need), pi e1.type.kind, pi e1.type.scale, .ro (eField.els e1.type.fields)]] (by kernel_rfl) (⟨rfl, eField.inb a20, ((eField.get a20).trans (by rcases e1 with ⟨_, _, _, ⟨_, _, _⟩⟩; rfl)), trivial⟩) ?_
            refine XO.done (by kernel_rfl) ?_
            exact hJ2 (!(e1.name.toList == (ByteArray.mk #[]).toList)) h _ _ (Sub.pick [1,45] (by kernel_rfl))
        · have h := ift_f b18 h
          refine XW.reg (by kernel_rfl) ?_
          refine XO.go [] 4 [1,32] [[pi p1.kind, pi p1.scale, .ro (eField.els p1.fields)]] [(1, .one (.pv (.rp [[pi p1.kind, pi p1.scale, .ro (eField.els p1.fields)]] 0 0))), (32, vb (p1.kind == (6 : Int)))] [] [([[pi p1.kind, pi p1.scale, .ro (eField.els p1.fields)]] : List (List PV))[0]? = some [pi p1.kind, pi p1.scale, .ro (eField.els p1.fields)]] (by kernel_rfl) (⟨rfl, trivial⟩) ?_
          refine XO.setb 32 false (B := (p1.kind == (6 : Int))) rfl b18 ?_
          refine XO.go [] 13 [1,45] [] [(1, .one (.pv (.rp [[pi p1.kind, pi p1.scale, .ro (eField.els p1.fields)]] 0 0))), (45, vb false)] [] [] (by kernel_rfl) trivial ?_
          refine XO.done (by kernel_rfl) ?_
          exact hJ2 false h _ _ (Sub.pick [1,45] (by kernel_rfl))
    rcases Bool.eq_false_or_eq_true (p1.kind == (3 : Int)) with b9 | b9
    · have h := ift_t b9 h
      obtain ⟨r2, c10, h⟩ := bnd_some h
      rcases Bool.eq_false_or_eq_true (!r2) with b11 | b11
      · have h := ift_t b11 h
        refine XW.reg (by kernel_rfl) ?_
        refine XO.go [] 4 [1,13] [[pi p1.kind, pi p1.scale, .ro (eField.els p1.fields)]] [(1, .one (.pv (.rp [[pi p1.kind, pi p1.scale, .ro (eField.els p1.fields)]] 0 0))), (13, vb (p1.kind == (3 : Int)))] [] [([[pi p1.kind, pi p1.scale, .ro (eField.els p1.fields)]] : List (List PV))[0]? = some [pi p1.kind, pi p1.scale, .ro (eField.els p1.fields)]] (by kernel_rfl) (⟨rfl, trivial⟩) ?_
        refine XO.setb 13 true (B := (p1.kind == (3 : Int))) rfl b9 ?_
        refine XO.go [] 2 [1,13,15] [[pi p1.kind, pi p1.scale, .ro (eField.els p1.fields)]] [(1, .one (.pv (.rp [[pi p1.kind, pi p1.scale, .ro (eField.els p1.fields)]] 0 0))), (13, vb true), (15, vi p1.scale)] [] [([[pi p1.kind, pi p1.scale, .ro (eField.els p1.fields)]] : List (List PV))[0]? = some [pi p1.kind, pi p1.scale, .ro (eField.els p1.fields)]] (by kernel_rfl) (⟨rfl, trivial⟩) ?_
        refine XO.cal 58 [vi p1.scale, vi (0 : Int), vi (12 : Int)] (vb r2) [(16, vb r2), (1, .one (.pv (.rp [[pi p1.kind, pi p1.scale, .ro (eField.els p1.fields)]] 0 0))), (13, vb true), (15, vi p1.scale)] (by kernel_rfl) (c_ref1_within _ _ _ _ c10) rfl rfl (by kernel_rfl) ?_
        refine XO.go [] 3 [1,19] [] [(1, .one (.pv (.rp [[pi p1.kind, pi p1.scale, .ro (eField.els p1.fields)]] 0 0))), (19, vb (!r2))] [] [] (by kernel_rfl) trivial ?_
        refine XO.setb 19 true (B := (!r2)) rfl b11 ?_
        refine XO.go [] 9 [1,28] [] [(1, .one (.pv (.rp [[pi p1.kind, pi p1.scale, .ro (eField.els p1.fields)]] 0 0))), (28, vb true)] [] [] (by kernel_rfl) trivial ?_
        refine XO.done (by kernel_rfl) ?_
        exact hJ1 true h _ _ (Sub.pick [1,28] (by kernel_rfl))
      · have h := ift_f b11 h
        rcases Bool.eq_false_or_eq_true (p1.kind != (3 : Int)) with b12 | b12
        · have h := ift_t b12 h
          refine XW.reg (by kernel_rfl) ?_
          refine XO.go [] 4 [1,13] [[pi p1.kind, pi p1.scale, .ro (eField.els p1.fields)]] [(1, .one (.pv (.rp [[pi p1.kind, pi p1.scale, .ro (eField.els p1.fields)]] 0 0))), (13, vb (p1.kind == (3 : Int)))] [] [([[pi p1.kind, pi p1.scale, .ro (eField.els p1.fields)]] : List (List PV))[0]? = some [pi p1.kind, pi p1.scale, .ro (eField.els p1.fields)]] (by kernel_rfl) (⟨rfl, trivial⟩) ?_
          refine XO.setb 13 true (B := (p1.kind == (3 : Int))) rfl b9 ?_
          refine XO.go [] 2 [1,13,15] [[pi p1.kind, pi p1.scale, .ro (eField.els p1.fields)]] [(1, .one (.pv (.rp [[pi p1.kind, pi p1.scale, .ro (eField.els p1.fields)]] 0 0))), (13, vb true), (15, vi p1.scale)] [] [([[pi p1.kind, pi p1.scale, .ro (eField.els p1.fields)]] : List (List PV))[0]? = some [pi p1.kind, pi p1.scale, .ro (eField.els p1.fields)]] (by kernel_rfl) (⟨rfl, trivial⟩) ?_
          refine XO.cal 58 [vi p1.scale, vi (0 : Int), vi (12 : Int)] (vb r2) [(16, vb r2), (1, .one (.pv (.rp [[pi p1.kind, pi p1.scale, .ro (eField.els p1.fields)]] 0 0))), (13, vb true), (15, vi p1.scale)] (by kernel_rfl) (c_ref1_within _ _ _ _ c10) rfl rfl (by kernel_rfl) ?_
          refine XO.go [] 3 [1,19] [] [(1, .one (.pv (.rp [[pi p1.kind, pi p1.scale, .ro (eField.els p1.fields)]] 0 0))), (19, vb (!r2))] [] [] (by kernel_rfl) trivial ?_
          refine XO.setb 19 false (B := (!r2)) rfl b11 ?_
          refine XO.go [] 4 [1,19,23] [[pi p1.kind, pi p1.scale, .ro (eField.els p1.fields)]] [(1, .one (.pv (.rp [[pi p1.kind, pi p1.scale, .ro (eField.els p1.fields)]] 0 0))), (19, vb false), (23, vb (p1.kind != (3 : Int)))] [] [([[pi p1.kind, pi p1.scale, .ro (eField.els p1.fields)]] : List (List PV))[0]? = some [pi p1.kind, pi p1.scale, .ro (eField.els p1.fields)]] (by kernel_rfl) (⟨rfl, trivial⟩) ?_
          refine XO.setb 23 true (B := (p1.kind != (3 : Int))) rfl b12 ?_
          refine XO.go [] 5 [1,28] [[pi p1.kind, pi p1.scale, .ro (eField.els p1.fields)]] [(1, .one (.pv (.rp [[pi p1.kind, pi p1.scale, .ro (eField.els p1.fields)]] 0 0))), (28, vb (p1.scale != (0 : Int)))] [] [([[pi p1.kind, pi p1.scale, .ro (eField.els p1.fields)]] : List (List PV))[0]? = some [pi p1.kind, pi p1.scale, .ro (eField.els p1.fields)]] (by kernel_rfl) (⟨rfl, trivial⟩) ?_
          refine XO.done (by kernel_rfl) ?_
          exact hJ1 (p1.scale != (0 : Int)) h _ _ (Sub.pick [1,28] (by kernel_rfl))
        · have h := ift_f b12 h
          refine XW.reg (by kernel_rfl) ?_
          refine XO.go [] 4 [1,13] [[pi p1.kind, pi p1.scale, .ro (eField.els p1.fields)]] [(1, .one (.pv (.rp [[pi p1.kind, pi p1.scale, .ro (eField.els p1.fields)]] 0 0))), (13, vb (p1.kind == (3 : Int)))] [] [([[pi p1.kind, pi p1.scale, .ro (eField.els p1.fields)]] : List (List PV))[0]? = some [pi p1.kind, pi p1.scale, .ro (eField.els p1.fields)]] (by kernel_rfl) (⟨rfl, trivial⟩) ?_
          refine XO.setb 13 true (B := (p1.kind == (3 : Int))) rfl b9 ?_
          refine XO.go [] 2 [1,13,15] [[pi p1.kind, pi p1.scale, .ro (eField.els p1.fields)]] [(1, .one (.pv (.rp [[pi p1.kind, pi p1.scale, .ro (eField.els p1.fields)]] 0 0))), (13, vb true), (15, vi p1.scale)] [] [([[pi p1.kind, pi p1.scale, .ro (eField.els p1.fields)]] : List (List PV))[0]? = some [pi p1.kind, pi p1.scale, .ro (eField.els p1.fields)]] (by kernel_rfl) (⟨rfl, trivial⟩) ?_
          refine XO.cal 58 [vi p1.scale, vi (0 : Int), vi (12 : Int)] (vb r2) [(16, vb r2), (1, .one (.pv (.rp [[pi p1.kind, pi p1.scale, .ro (eField.els p1.fields)]] 0 0))), (13, vb true), (15, vi p1.scale)] (by kernel_rfl) (c_ref1_within _ _ _ _ c10) rfl rfl (by kernel_rfl) ?_
          refine XO.go [] 3 [1,19] [] [(1, .one (.pv (.rp [[pi p1.kind, pi p1.scale, .ro (eField.els p1.fields)]] 0 0))), (19, vb (!r2))] [] [] (by kernel_rfl) trivial ?_
          refine XO.setb 19 false (B := (!r2)) rfl b11 ?_
          refine XO.go [] 4 [1,19,23] [[pi p1.kind, pi p1.scale, .ro (eField.els p1.fields)]] [(1, .one (.pv (.rp [[pi p1.kind, pi p1.scale, .ro (eField.els p1.fields)]] 0 0))), (19, vb false), (23, vb (p1.kind != (3 : Int)))] [] [([[pi p1.kind, pi p1.scale, .ro (eField.els p1.fields)]] : List (List PV))[0]? = some [pi p1.kind, pi p1.scale, .ro (eField.els p1.fields)]] (by kernel_rfl) (⟨rfl, trivial⟩) ?_
          refine XO.setb 23 false (B := (p1.kind != (3 : Int))) rfl b12 ?_
          refine XO.go [] 5 [1,28] [] [(1, .one (.pv (.rp [[pi p1.kind, pi p1.scale, .ro (eField.els p1.fields)]] 0 0))), (28, vb false)] [] [] (by kernel_rfl) trivial ?_
          refine XO.done (by kernel_rfl) ?_
          exact hJ1 false h _ _ (Sub.pick [1,28] (by kernel_rfl))
    · have h := ift_f b9 h
      rcases Bool.eq_false_or_eq_true (p1.kind != (3 : Int)) with b13 | b13
      · have h := ift_t b13 h
        refine XW.reg (by kernel_rfl) ?_
        refine XO.go [] 4 [1,13] [[pi p1.kind, pi p1.scale, .ro (eField.els p1.fields)]] [(1, .one (.pv (.rp [[pi p1.kind, pi p1.scale, .ro (eField.els p1.fields)]] 0 0))), (13, vb (p1.kind == (3 : Int)))] [] [([[pi p1.kind, pi p1.scale, .ro (eField.els p1.fields)]] : List (List PV))[0]? = some [pi p1.kind, pi p1.scale, .ro (eField.els p1.fields)]] (by kernel_rfl) (⟨rfl, trivial⟩) ?_
        refine XO.setb 13 false (B := (p1.kind == (3 : Int))) rfl b9 ?_
        refine XO.go [] 10 [1,19,23] [[pi p1.kind, pi p1.scale, .ro (eField.els p1.fields)]] [(1, .one (.pv (.rp [[pi p1.kind, pi p1.scale, .ro (eField.els p1.fields)]] 0 0))), (19, vb false), (23, vb (p1.kind != (3 : Int)))] [] [([[pi p1.kind, pi p1.scale, .ro (eField.els p1.fields)]] : List (List PV))[0]? = some [pi p1.kind, pi p1.scale, .ro (eField.els p1.fields)]] (by kernel_rfl) (⟨rfl, trivial⟩) ?_
        refine XO.setb 23 true (B := (p1.kind != (3 : Int))) rfl b13 ?_
        refine XO.go [] 5 [1,28] [[pi p1.kind, pi p1.scale, .ro (eField.els p1.fields)]] [(1, .one (.pv (.rp [[pi p1.kind, pi p1.scale, .ro (eField.els p1.fields)]] 0 0))), (28, vb (p1.scale != (0 : Int)))] [] [([[pi p1.kind, pi p1.scale, .ro (eField.els p1.fields)]] : List (List PV))[0]? = some [pi p1.kind, pi p1.scale, .ro (eField.els p1.fields)]] (by kernel_rfl) (⟨rfl, trivial⟩) ?_
        refine XO.done (by kernel_rfl) ?_
        exact hJ1 (p1.scale != (0 : Int)) h _ _ (Sub.pick [1,28] (by kernel_rfl))
      · have h := ift_f b13 h
        refine XW.reg (by kernel_rfl) ?_
        refine XO.go [] 4 [1,13] [[pi p1.kind, pi p1.scale, .ro (eField.els p1.fields)]] [(1, .one (.pv (.rp [[pi p1.kind, pi p1.scale, .ro (eField.els p1.fields)]] 0 0))), (13, vb (p1.kind == (3 : Int)))] [] [([[pi p1.kind, pi p1.scale, .ro (eField.els p1.fields)]] : List (List PV))[0]? = some [pi p1.kind, pi p1.scale, .ro (eField.els p1.fields)]] (by kernel_rfl) (⟨rfl, trivial⟩) ?_
        refine XO.setb 13 false (B := (p1.kind == (3 : Int))) rfl b9 ?_
        refine XO.go [] 10 [1,19,23] [[pi p1.kind, pi p1.scale, .ro (eField.els p1.fields)]] [(1, .one (.pv (.rp [[pi p1.kind, pi p1.scale, .ro (eField.els p1.fields)]] 0 0))), (19, vb false), (23, vb (p1.kind != (3 : Int)))] [] [([[pi p1.kind, pi p1.scale, .ro (eField.els p1.fields)]] : List (List PV))[0]? = some [pi p1.kind, pi p1.scale, .ro (eField.els p1.fields)]] (by kernel_rfl) (⟨rfl, trivial⟩) ?_
        refine XO.setb 23 false (B := (p1.kind != (3 : Int))) rfl b13 ?_
        refine XO.go [] 5 [1,28] [] [(1, .one (.pv (.rp [[pi p1.kind, pi p1.scale, .ro (eField.els p1.fields)]] 0 0))), (28, vb false)] [] [] (by kernel_rfl) trivial ?_
        refine XO.done (by kernel_rfl) ?_
        exact hJ1 false h _ _ (Sub.pick [1,28] (by kernel_rfl))

def ref1_checkType_j2 (z3 : Int) : Option (Int × Int) :=
    some ((0 : Int), z3)

def ref1_checkType_l1 (q_ref1_checkType : GType → Int → Int → Option (Int × Int)) (p1 : GType) (p2 : Int) : Nat → Int → Int → Option (Int × Int)
  | 0, _, _ => none
  | k1 + 1, z2, x1 =>
    ift (decide (x1 < (p1.fields.length : Int)))
      (bnd (at? p1.fields x1) fun e1 =>
       bnd (q_ref1_checkType e1.type (IntKind.i64.wrap (p2 + (1 : Int))) z2) fun r3 =>
       ift (r3.1 != (0 : Int))
         (some (r3.1, r3.2))
         ((ref1_checkType_l1 q_ref1_checkType p1 p2 k1) r3.2 (IntKind.i64.wrap (x1 + (1 : Int)))))
      (ref1_checkType_j2 z2)

def ref1_checkType_j1 (q_ref1_checkType : GType → Int → Int → Option (Int × Int)) (p1 : GType) (p2 : Int) (z1 : Int) : Option (Int × Int) :=
    bnd (ref1_shape p1) fun r2 =>
    ift (r2 != (0 : Int))
      (some (r2, z1))
      (ref1_checkType_l1 q_ref1_checkType p1 p2 BIG z1 (0 : Int))

def ref1_checkType : Nat → GType → Int → Int → Option (Int × Int)
  | 0, _, _, _ => none
  | k0 + 1, p1, p2, p3 =>
    ift (decide ((4 : Int) < p2))
      (some ((7 : Int), p3))
      (bnd (ref1_Leaf p1.kind) fun r1 =>
       ift r1
         (ift (p3 == (40 : Int))
            (some ((7 : Int), p3))
            (ref1_checkType_j1 (ref1_checkType k0) p1 p2 (IntKind.i64.wrap (p3 + (1 : Int)))))
         (ref1_checkType_j1 (ref1_checkType k0) p1 p2 p3))


theorem c_ref1_checkType : ∀ (k0 : Nat) (p1 : GType) (p2 : Int) (p3 : Int) (r : (Int × Int)), ref1_checkType k0 p1 p2 p3 = some r → MC Try.prog 34 [.ag [ci p1.kind, ci p1.scale, cl eField p1.fields], vi p2, .one (.pt 0 0 0 0)] [.box [ci p3]] (vi r.1) [.box [ci r.2]]
  | 0, _, _, _, r, h => by rw [ref1_checkType.eq_1] at h; cases h
  | k0 + 1, p1, p2, p3, r, h => by
    rw [ref1_checkType.eq_2] at h
    refine MC.of 1 (n := 49) (fn := Try.f34) (c := cd Try.f34 []) (by kernel_rfl) (by kernel_rfl) (by kernel_rfl) (Nat.le_of_ble_eq_true rfl) rfl ?_
    refine XW.seq (x := cd Try.f34 [0]) (y := cd Try.f34 [1]) (by kernel_rfl) fun K1 hK1 => ?_
    refine XW.reg (by kernel_rfl) ?_
    refine XO.go [] 2 [1,2,3] [] [(1, vi p2), (2, .one (.pt 0 0 0 0)), (3, .one (.pv (.rp [[pi p1.kind, pi p1.scale, .ro (eField.els p1.fields)]] 0 0)))] [.box [ci p3]] [] (by kernel_rfl) trivial ?_
    refine XO.done (by kernel_rfl) ?_
    refine hK1 _ _ ?_
    refine XW.seq (x := cd Try.f34 [1,0]) (y := cd Try.f34 [1,1]) (by kernel_rfl) fun K2 hK2 => ?_
    refine XW.seq (x := cd Try.f34 [1,0,0]) (y := cd Try.f34 [1,0,1]) (by kernel_rfl) fun K3 hK3 => ?_
    refine XW.reg (by kernel_rfl) ?_
    refine XO.go [] 2 [1,2,3,11] [] [(1, vi p2), (2, .one (.pt 0 0 0 0)), (3, .one (.pv (.rp [[pi p1.kind, pi p1.scale, .ro (eField.els p1.fields)]] 0 0))), (11, vb (decide ((4 : Int) < p2)))] [.box [ci p3]] [] (by kernel_rfl) trivial ?_
    refine XO.done (by kernel_rfl) ?_
    refine hK3 _ _ ?_
    refine XW.cond (x := .tmp 11) (a := cd Try.f34 [1,0,1,0]) (b := cd Try.f34 [1,0,1,1]) (t := (decide ((4 : Int) < p2))) (by kernel_rfl) (by kernel_rfl) (fun b4 => ?_) (fun b4 => ?_)
    · have h := ift_t b4 h
      refine XW.seq (x := cd Try.f34 [1,0,1,0,0]) (y := cd Try.f34 [1,0,1,0,1]) (by kernel_rfl) fun K5 hK5 => ?_
      refine XW.reg (by kernel_rfl) ?_
      refine XO.go [] 1 [6] [] [(6, vi (7 : Int))] [.box [ci p3]] [] (by kernel_rfl) trivial ?_
      refine XO.done (by kernel_rfl) ?_
      refine hK5 _ _ ?_
      refine XW.ret (by kernel_rfl) ?_
      obtain rfl := Option.some.inj h
      exact FinM.fin (.inr rfl) [] [vi (7 : Int)] [] (by kernel_rfl) trivial (by kernel_rfl) (by kernel_rfl) (.one (.rfl _ rfl))
    · have h := ift_f b4 h
      refine XW.skip (by kernel_rfl) ?_
      refine hK2 _ _ ?_
      refine XW.seq (x := cd Try.f34 [1,1,0]) (y := cd Try.f34 [1,1,1]) (by kernel_rfl) fun K6 hK6 => ?_
      have hJ1 : ∀ (z1 : Int), ref1_checkType_j1 (ref1_checkType k0) p1 p2 z1 = some r → ∀ fr1 st1, Sub 49 1 [] fr1 st1 [(1, vi p2), (2, .one (.pt 0 0 0 0)), (3, .one (.pv (.rp [[pi p1.kind, pi p1.scale, .ro (eField.els p1.fields)]] 0 0)))] [.box [ci z1]] → K6 fr1 st1 := by
        intro z1 h fr1 st1 hS
        unfold ref1_checkType_j1 at h
        refine hK6 _ _ (XW.sub hS ?_)
        refine XW.seq (x := cd Try.f34 [1,1,1,0]) (y := cd Try.f34 [1,1,1,1]) (by kernel_rfl) fun K14 hK14 => ?_
        refine XW.seq (x := cd Try.f34 [1,1,1,0,0]) (y := cd Try.f34 [1,1,1,0,1]) (by kernel_rfl) fun K15 hK15 => ?_
        obtain ⟨r2, c16, h⟩ := bnd_some h
        refine XW.reg (by kernel_rfl) ?_
        refine XO.go [] 1 [1,2,3,24] [[pi p1.kind, pi p1.scale, .ro (eField.els p1.fields)]] [(1, vi p2), (2, .one (.pt 0 0 0 0)), (3, .one (.pv (.rp [[pi p1.kind, pi p1.scale, .ro (eField.els p1.fields)]] 0 0))), (24, .ag [ci p1.kind, ci p1.scale, cl eField p1.fields])] [.box [ci z1]] [([[pi p1.kind, pi p1.scale, .ro (eField.els p1.fields)]] : List (List PV))[0]? = some [pi p1.kind, pi p1.scale, .ro (eField.els p1.fields)]] (by kernel_rfl) (⟨rfl, trivial⟩) ?_
        refine XO.cal 74 [.ag [ci p1.kind, ci p1.scale, cl eField p1.fields]] (vi r2) [(25, vi r2), (1, vi p2), (2, .one (.pt 0 0 0 0)), (3, .one (.pv (.rp [[pi p1.kind, pi p1.scale, .ro (eField.els p1.fields)]] 0 0))), (24, .ag [ci p1.kind, ci p1.scale, cl eField p1.fields])] (by kernel_rfl) (c_ref1_shape _ _ c16) rfl rfl (by kernel_rfl) ?_
        refine XO.go [] 1 [1,2,3,7] [] [(1, vi p2), (2, .one (.pt 0 0 0 0)), (3, .one (.pv (.rp [[pi p1.kind, pi p1.scale, .ro (eField.els p1.fields)]] 0 0))), (7, vi r2)] [.box [ci z1]] [] (by kernel_rfl) trivial ?_
        refine XO.done (by kernel_rfl) ?_
        refine hK15 _ _ ?_
        refine XW.seq (x := cd Try.f34 [1,1,1,0,1,0]) (y := cd Try.f34 [1,1,1,0,1,1]) (by kernel_rfl) fun K17 hK17 => ?_
        refine XW.reg (by kernel_rfl) ?_
        refine XO.go [] 2 [1,2,3,7,27] [] [(1, vi p2), (2, .one (.pt 0 0 0 0)), (3, .one (.pv (.rp [[pi p1.kind, pi p1.scale, .ro (eField.els p1.fields)]] 0 0))), (7, vi r2), (27, vb (r2 != (0 : Int)))] [.box [ci z1]] [] (by kernel_rfl) trivial ?_
        refine XO.done (by kernel_rfl) ?_
        refine hK17 _ _ ?_
        refine XW.cond (x := .tmp 27) (a := cd Try.f34 [1,1,1,0,1,1,0]) (b := cd Try.f34 [1,1,1,0,1,1,1]) (t := (r2 != (0 : Int))) (by kernel_rfl) (by kernel_rfl) (fun b18 => ?_) (fun b18 => ?_)
        · have h := ift_t b18 h
          refine XW.seq (x := cd Try.f34 [1,1,1,0,1,1,0,0]) (y := cd Try.f34 [1,1,1,0,1,1,0,1]) (by kernel_rfl) fun K19 hK19 => ?_
          refine XW.reg (by kernel_rfl) ?_
          refine XO.go [] 2 [6] [] [(6, vi r2)] [.box [ci z1]] [] (by kernel_rfl) trivial ?_
          refine XO.done (by kernel_rfl) ?_
          refine hK19 _ _ ?_
          refine XW.ret (by kernel_rfl) ?_
          obtain rfl := Option.some.inj h
          exact FinM.fin (.inr rfl) [] [vi r2] [] (by kernel_rfl) trivial (by kernel_rfl) (by kernel_rfl) (.one (.rfl _ rfl))
        · have h := ift_f b18 h
          refine XW.skip (by kernel_rfl) ?_
          refine hK14 _ _ ?_
          refine XW.seq (x := cd Try.f34 [1,1,1,1,0]) (y := cd Try.f34 [1,1,1,1,1]) (by kernel_rfl) fun K20 hK20 => ?_
          have hJ2 : ∀ (z3 : Int), ref1_checkType_j2 z3 = some r → ∀ fr1 st1, Sub 49 1 [] fr1 st1 [] [.box [ci z3]] → K20 fr1 st1 := by
            intro z3 h fr1 st1 hS
            unfold ref1_checkType_j2 at h
            refine hK20 _ _ (XW.sub hS ?_)
            refine XW.seq (x := cd Try.f34 [1,1,1,1,1,0]) (y := cd Try.f34 [1,1,1,1,1,1]) (by kernel_rfl) fun K33 hK33 => ?_
            refine XW.reg (by kernel_rfl) ?_
            refine XO.go [] 1 [6] [] [(6, vi (0 : Int))] [.box [ci z3]] [] (by kernel_rfl) trivial ?_
            refine XO.done (by kernel_rfl) ?_
            refine hK33 _ _ ?_
            refine XW.ret (by kernel_rfl) ?_
            obtain rfl := Option.some.inj h
            exact FinM.fin (.inr rfl) [] [vi (0 : Int)] [] (by kernel_rfl) trivial (by kernel_rfl) (by kernel_rfl) (.one (.rfl _ rfl))
          refine XW.seq (x := cd Try.f34 [1,1,1,1,0,0]) (y := cd Try.f34 [1,1,1,1,0,1]) (by kernel_rfl) fun K21 hK21 => ?_
          refine XW.reg (by kernel_rfl) ?_
          refine XO.go [] 3 [1,2,3,31] [[pi p1.kind, pi p1.scale, .ro (eField.els p1.fields)]] [(1, vi p2), (2, .one (.pt 0 0 0 0)), (3, .one (.pv (.rp [[pi p1.kind, pi p1.scale, .ro (eField.els p1.fields)]] 0 0))), (31, vi ((eField.els p1.fields).length : Int))] [.box [ci z1]] [([[pi p1.kind, pi p1.scale, .ro (eField.els p1.fields)]] : List (List PV))[0]? = some [pi p1.kind, pi p1.scale, .ro (eField.els p1.fields)]] (by kernel_rfl) (⟨rfl, trivial⟩) ?_
          rw [eField.len p1.fields]
          refine XO.go [] 1 [1,2,3,31,32] [] [(1, vi p2), (2, .one (.pt 0 0 0 0)), (3, .one (.pv (.rp [[pi p1.kind, pi p1.scale, .ro (eField.els p1.fields)]] 0 0))), (31, vi (p1.fields.length : Int)), (32, vi (0 : Int))] [.box [ci z1]] [] (by kernel_rfl) trivial ?_
          refine XO.done (by kernel_rfl) ?_
          refine hK21 _ _ ?_
          refine XW.block (id := 0) (x := cd Try.f34 [1,1,1,1,0,1,0]) (by kernel_rfl) ?_
          refine XW.rounds' BIG (x := cd Try.f34 [1,1,1,1,0,1,0,0]) (by kernel_rfl) fun Q1 hQ1 => ?_
          have hL1 : ∀ (k1 : Nat) (z2 : Int) (x1 : Int), ref1_checkType_l1 (ref1_checkType k0) p1 p2 k1 z2 x1 = some r → XR Try.prog 49 1 [] (cd Try.f34 [1,1,1,1,0,1,0,0]) Q1 k1 [(1, vi p2), (2, .one (.pt 0 0 0 0)), (3, .one (.pv (.rp [[pi p1.kind, pi p1.scale, .ro (eField.els p1.fields)]] 0 0))), (31, vi (p1.fields.length : Int)), (32, vi x1)] [.box [ci z2]] := by
            intro k1
            induction k1 with
            | zero => intro z2 x1 h; rw [ref1_checkType_l1.eq_1] at h; cases h
            | succ k1 ih1 =>
              intro z2 x1 h
              rw [ref1_checkType_l1.eq_2] at h
              refine XW.seq (x := cd Try.f34 [1,1,1,1,0,1,0,0,0]) (y := cd Try.f34 [1,1,1,1,0,1,0,0,1]) (by kernel_rfl) fun K22 hK22 => ?_
              refine XW.reg (by kernel_rfl) ?_
              refine XO.go [] 1 [1,2,3,31,32,33] [] [(1, vi p2), (2, .one (.pt 0 0 0 0)), (3, .one (.pv (.rp [[pi p1.kind, pi p1.scale, .ro (eField.els p1.fields)]] 0 0))), (31, vi (p1.fields.length : Int)), (32, vi x1), (33, vb (decide (x1 < (p1.fields.length : Int))))] [.box [ci z2]] [] (by kernel_rfl) trivial ?_
              refine XO.done (by kernel_rfl) ?_
              refine hK22 _ _ ?_
              refine XW.seq (x := cd Try.f34 [1,1,1,1,0,1,0,0,1,0]) (y := cd Try.f34 [1,1,1,1,0,1,0,0,1,1]) (by kernel_rfl) fun K23 hK23 => ?_
              refine XW.cond (x := .tmp 33) (a := cd Try.f34 [1,1,1,1,0,1,0,0,1,0,0]) (b := cd Try.f34 [1,1,1,1,0,1,0,0,1,0,1]) (t := (decide (x1 < (p1.fields.length : Int)))) (by kernel_rfl) (by kernel_rfl) (fun b24 => ?_) (fun b24 => ?_)
              · have h := ift_t b24 h
                refine XW.skip (by kernel_rfl) ?_
                refine hK23 _ _ ?_
                refine XW.seq (x := cd Try.f34 [1,1,1,1,0,1,0,0,1,1,0]) (y := cd Try.f34 [1,1,1,1,0,1,0,0,1,1,1]) (by kernel_rfl) fun K25 hK25 => ?_
                refine XW.block (id := 1) (x := cd Try.f34 [1,1,1,1,0,1,0,0,1,1,0,0]) (by kernel_rfl) ?_
                refine XW.seq (x := cd Try.f34 [1,1,1,1,0,1,0,0,1,1,0,0,0]) (y := cd Try.f34 [1,1,1,1,0,1,0,0,1,1,0,0,1]) (by kernel_rfl) fun K26 hK26 => ?_
                refine XW.reg (by kernel_rfl) ?_
                refine XO.go [] 2 [1,2,3,8,31,32] [] [(1, vi p2), (2, .one (.pt 0 0 0 0)), (3, .one (.pv (.rp [[pi p1.kind, pi p1.scale, .ro (eField.els p1.fields)]] 0 0))), (8, vi x1), (31, vi (p1.fields.length : Int)), (32, vi x1)] [.box [ci z2]] [] (by kernel_rfl) trivial ?_
                refine XO.done (by kernel_rfl) ?_
                refine hK26 _ _ ?_
                refine XW.seq (x := cd Try.f34 [1,1,1,1,0,1,0,0,1,1,0,0,1,0]) (y := cd Try.f34 [1,1,1,1,0,1,0,0,1,1,0,0,1,1]) (by kernel_rfl) fun K27 hK27 => ?_
                obtain ⟨e1, a28, h⟩ := bnd_some h
                obtain ⟨r3, c29, h⟩ := bnd_some h
                refine XW.reg (by kernel_rfl) ?_
                refine XO.go [] 9 [1,2,3,31,32,40,42,43] [[pi p1.kind, pi p1.scale, .ro (eField.els p1.fields)], [pi e1.id, .s (.string e1.name), .s (.bool e1.need), pi e1.type.kind, pi e1.type.scale, .ro (eField.els e1.type.fields)]] [(1, vi p2), (2, .one (.pt 0 0 0 0)), (3, .one (.pv (.rp [[pi p1.kind, pi p1.scale, .ro (eField.els p1.fields)]] 0 0))), (31, vi (p1.fields.length : Int)), (32, vi x1), (40, .ag [ci e1.type.kind, ci e1.type.scale, cl eField e1.type.fields]), (42, vi (IntKind.i64.wrap (p2 + (1 : Int)))), (43, .one (.pt 0 0 0 0))] [.box [ci z2]] [([[pi p1.kind, pi p1.scale, .ro (eField.els p1.fields)]] : List (List PV))[0]? = some [pi p1.kind, pi p1.scale, .ro (eField.els p1.fields)], 0 ≤ x1 ∧ x1 < ((eField.els p1.fields).length : Int) ∧ elemsOk 6 (eField.els p1.fields), (eField.els p1.fields)[x1.toNat]? = some [pi e1.id, .s (.string e1.name), .s (.bool e1.need), pi e1.type.kind, pi e1.type.scale, .ro (eField.els e1.type.fields)]] (by kernel_rfl) (⟨rfl, eField.inb a28, ((eField.get a28).trans (by rcases e1 with ⟨_, _, _, ⟨_, _, _⟩⟩; rfl)), trivial⟩) ?_
                refine XO.calm 34 [.ag [ci e1.type.kind, ci e1.type.scale, cl eField e1.type.fields], vi (IntKind.i64.wrap (p2 + (1 : Int))), .one (.pt 0 0 0 0)] [.box [ci z2]] [.box [ci r3.2]] (vi r3.1) [0] [(44, vi r3.1), (1, vi p2), (2, .one (.pt 0 0 0 0)), (3, .one (.pv (.rp [[pi p1.kind, pi p1.scale, .ro (eField.els p1.fields)]] 0 0))), (31, vi (p1.fields.length : Int)), (32, vi x1), (40, .ag [ci e1.type.kind, ci e1.type.scale, cl eField e1.type.fields]), (42, vi (IntKind.i64.wrap (p2 + (1 : Int)))), (43, .one (.pt 0 0 0 0))] [.box [ci r3.2]] (by kernel_rfl) (c_ref1_checkType k0 _ _ _ _ c29) (by kernel_rfl) (by kernel_rfl) (by kernel_rfl) (by kernel_rfl) ?_
                refine XO.go [] 1 [1,2,3,9,31,32] [] [(1, vi p2), (2, .one (.pt 0 0 0 0)), (3, .one (.pv (.rp [[pi p1.kind, pi p1.scale, .ro (eField.els p1.fields)]] 0 0))), (9, vi r3.1), (31, vi (p1.fields.length : Int)), (32, vi x1)] [.box [ci r3.2]] [] (by kernel_rfl) trivial ?_
                refine XO.done (by kernel_rfl) ?_
                refine hK27 _ _ ?_
                refine XW.seq (x := cd Try.f34 [1,1,1,1,0,1,0,0,1,1,0,0,1,1,0]) (y := cd Try.f34 [1,1,1,1,0,1,0,0,1,1,0,0,1,1,1]) (by kernel_rfl) fun K30 hK30 => ?_
                refine XW.reg (by kernel_rfl) ?_
                refine XO.go [] 2 [1,2,3,9,31,32,46] [] [(1, vi p2), (2, .one (.pt 0 0 0 0)), (3, .one (.pv (.rp [[pi p1.kind, pi p1.scale, .ro (eField.els p1.fields)]] 0 0))), (9, vi r3.1), (31, vi (p1.fields.length : Int)), (32, vi x1), (46, vb (r3.1 != (0 : Int)))] [.box [ci r3.2]] [] (by kernel_rfl) trivial ?_
                refine XO.done (by kernel_rfl) ?_
                refine hK30 _ _ ?_
                refine XW.cond (x := .tmp 46) (a := cd Try.f34 [1,1,1,1,0,1,0,0,1,1,0,0,1,1,1,0]) (b := cd Try.f34 [1,1,1,1,0,1,0,0,1,1,0,0,1,1,1,1]) (t := (r3.1 != (0 : Int))) (by kernel_rfl) (by kernel_rfl) (fun b31 => ?_) (fun b31 => ?_)
                · have h := ift_t b31 h
                  refine XW.seq (x := cd Try.f34 [1,1,1,1,0,1,0,0,1,1,0,0,1,1,1,0,0]) (y := cd Try.f34 [1,1,1,1,0,1,0,0,1,1,0,0,1,1,1,0,1]) (by kernel_rfl) fun K32 hK32 => ?_
                  refine XW.reg (by kernel_rfl) ?_
                  refine XO.go [] 2 [6] [] [(6, vi r3.1)] [.box [ci r3.2]] [] (by kernel_rfl) trivial ?_
                  refine XO.done (by kernel_rfl) ?_
                  refine hK32 _ _ ?_
                  refine XW.ret (by kernel_rfl) ?_
                  refine hQ1 _ _ _ ?_
                  obtain rfl := Option.some.inj h
                  exact FinM.fin (.inr rfl) [] [vi r3.1] [] (by kernel_rfl) trivial (by kernel_rfl) (by kernel_rfl) (.one (.rfl _ rfl))
                · have h := ift_f b31 h
                  refine XW.skip (by kernel_rfl) ?_
                  refine hK25 _ _ ?_
                  refine XW.reg (by kernel_rfl) ?_
                  refine XO.go [] 2 [1,2,3,31,32] [] [(1, vi p2), (2, .one (.pt 0 0 0 0)), (3, .one (.pv (.rp [[pi p1.kind, pi p1.scale, .ro (eField.els p1.fields)]] 0 0))), (31, vi (p1.fields.length : Int)), (32, vi (IntKind.i64.wrap (x1 + (1 : Int))))] [.box [ci r3.2]] [] (by kernel_rfl) trivial ?_
                  refine XO.done (by kernel_rfl) ?_
                  exact XR.sub (Sub.pick [1,2,3,31,32] (by kernel_rfl)) (ih1 r3.2 (IntKind.i64.wrap (x1 + (1 : Int))) h)
              · have h := ift_f b24 h
                refine XW.exit (id := 0) (by kernel_rfl) ?_
                refine hQ1 _ _ _ ?_
                exact hJ2 z2 h _ _ (Sub.pick [] (by kernel_rfl))
          exact XR.sub (Sub.pick [1,2,3,31,32] (by kernel_rfl)) (hL1 BIG z1 (0 : Int) h)
      refine XW.seq (x := cd Try.f34 [1,1,0,0]) (y := cd Try.f34 [1,1,0,1]) (by kernel_rfl) fun K7 hK7 => ?_
      obtain ⟨r1, c8, h⟩ := bnd_some h
      refine XW.reg (by kernel_rfl) ?_
      refine XO.go [] 2 [1,2,3,13] [[pi p1.kind, pi p1.scale, .ro (eField.els p1.fields)]] [(1, vi p2), (2, .one (.pt 0 0 0 0)), (3, .one (.pv (.rp [[pi p1.kind, pi p1.scale, .ro (eField.els p1.fields)]] 0 0))), (13, vi p1.kind)] [.box [ci p3]] [([[pi p1.kind, pi p1.scale, .ro (eField.els p1.fields)]] : List (List PV))[0]? = some [pi p1.kind, pi p1.scale, .ro (eField.els p1.fields)]] (by kernel_rfl) (⟨rfl, trivial⟩) ?_
      refine XO.cal 73 [vi p1.kind] (vb r1) [(14, vb r1), (1, vi p2), (2, .one (.pt 0 0 0 0)), (3, .one (.pv (.rp [[pi p1.kind, pi p1.scale, .ro (eField.els p1.fields)]] 0 0))), (13, vi p1.kind)] (by kernel_rfl) (c_ref1_Leaf _ _ c8) rfl rfl (by kernel_rfl) ?_
      refine XO.done (by kernel_rfl) ?_
      refine hK7 _ _ ?_
      refine XW.cond (x := .tmp 14) (a := cd Try.f34 [1,1,0,1,0]) (b := cd Try.f34 [1,1,0,1,1]) (t := r1) (by kernel_rfl) (by kernel_rfl) (fun b9 => ?_) (fun b9 => ?_)
      · have h := ift_t b9 h
        refine XW.seq (x := cd Try.f34 [1,1,0,1,0,0]) (y := cd Try.f34 [1,1,0,1,0,1]) (by kernel_rfl) fun K10 hK10 => ?_
        refine XW.seq (x := cd Try.f34 [1,1,0,1,0,0,0]) (y := cd Try.f34 [1,1,0,1,0,0,1]) (by kernel_rfl) fun K11 hK11 => ?_
        refine XW.reg (by kernel_rfl) ?_
        refine XO.go [] 4 [1,2,3,18] [] [(1, vi p2), (2, .one (.pt 0 0 0 0)), (3, .one (.pv (.rp [[pi p1.kind, pi p1.scale, .ro (eField.els p1.fields)]] 0 0))), (18, vb (p3 == (40 : Int)))] [.box [ci p3]] [] (by kernel_rfl) trivial ?_
        refine XO.done (by kernel_rfl) ?_
        refine hK11 _ _ ?_
        refine XW.cond (x := .tmp 18) (a := cd Try.f34 [1,1,0,1,0,0,1,0]) (b := cd Try.f34 [1,1,0,1,0,0,1,1]) (t := (p3 == (40 : Int))) (by kernel_rfl) (by kernel_rfl) (fun b12 => ?_) (fun b12 => ?_)
        · have h := ift_t b12 h
          refine XW.seq (x := cd Try.f34 [1,1,0,1,0,0,1,0,0]) (y := cd Try.f34 [1,1,0,1,0,0,1,0,1]) (by kernel_rfl) fun K13 hK13 => ?_
          refine XW.reg (by kernel_rfl) ?_
          refine XO.go [] 1 [6] [] [(6, vi (7 : Int))] [.box [ci p3]] [] (by kernel_rfl) trivial ?_
          refine XO.done (by kernel_rfl) ?_
          refine hK13 _ _ ?_
          refine XW.ret (by kernel_rfl) ?_
          obtain rfl := Option.some.inj h
          exact FinM.fin (.inr rfl) [] [vi (7 : Int)] [] (by kernel_rfl) trivial (by kernel_rfl) (by kernel_rfl) (.one (.rfl _ rfl))
        · have h := ift_f b12 h
          refine XW.skip (by kernel_rfl) ?_
          refine hK10 _ _ ?_
          refine XW.reg (by kernel_rfl) ?_
          refine XO.go [] 6 [1,2,3] [] [(1, vi p2), (2, .one (.pt 0 0 0 0)), (3, .one (.pv (.rp [[pi p1.kind, pi p1.scale, .ro (eField.els p1.fields)]] 0 0)))] [.box [ci (IntKind.i64.wrap (p3 + (1 : Int)))]] [] (by kernel_rfl) trivial ?_
          refine XO.done (by kernel_rfl) ?_
          exact hJ1 (IntKind.i64.wrap (p3 + (1 : Int))) h _ _ (Sub.pick [1,2,3] (by kernel_rfl))
      · have h := ift_f b9 h
        refine XW.skip (by kernel_rfl) ?_
        exact hJ1 p3 h _ _ (Sub.pick [1,2,3] (by kernel_rfl))

def ref1_CheckType (p1 : GType) : Option Int :=
    bnd (ref1_checkType BIG p1 (1 : Int) (0 : Int)) fun r1 =>
    some r1.1


theorem c_ref1_CheckType (p1 : GType) (r : Int) (h : ref1_CheckType p1 = some r) : PC Try.prog 12 [.ag [ci p1.kind, ci p1.scale, cl eField p1.fields]] (vi r) := by
  unfold ref1_CheckType at h
  refine PC.of (n := 6) (fn := Try.f12) (c := cd Try.f12 []) (by kernel_rfl) (by kernel_rfl) (by kernel_rfl) (Nat.le_of_ble_eq_true rfl) ?_
  refine XW.seq (x := cd Try.f12 [0]) (y := cd Try.f12 [1]) (by kernel_rfl) fun K1 hK1 => ?_
  refine XW.reg (by kernel_rfl) ?_
  refine XO.go [3] 2 [1] [] [(1, .one (.pv (.rp [[pi p1.kind, pi p1.scale, .ro (eField.els p1.fields)]] 0 0)))] [] [] (by kernel_rfl) trivial ?_
  refine XO.done (by kernel_rfl) ?_
  refine hK1 _ _ ?_
  refine XW.seq (x := cd Try.f12 [1,0]) (y := cd Try.f12 [1,1]) (by kernel_rfl) fun K2 hK2 => ?_
  refine XW.reg (by kernel_rfl) ?_
  refine XO.go [3] 2 [1,3] [] [(1, .one (.pv (.rp [[pi p1.kind, pi p1.scale, .ro (eField.els p1.fields)]] 0 0))), (3, .one (.pt 0 0 0 0))] [.box [ci (0 : Int)]] [] (by kernel_rfl) trivial ?_
  refine XO.done (by kernel_rfl) ?_
  refine hK2 _ _ ?_
  refine XW.seq (x := cd Try.f12 [1,1,0]) (y := cd Try.f12 [1,1,1]) (by kernel_rfl) fun K3 hK3 => ?_
  obtain ⟨r1, c4, h⟩ := bnd_some h
  refine XW.reg (by kernel_rfl) ?_
  refine XO.go [3] 1 [3,4] [[pi p1.kind, pi p1.scale, .ro (eField.els p1.fields)]] [(3, .one (.pt 0 0 0 0)), (4, .ag [ci p1.kind, ci p1.scale, cl eField p1.fields])] [.box [ci (0 : Int)]] [([[pi p1.kind, pi p1.scale, .ro (eField.els p1.fields)]] : List (List PV))[0]? = some [pi p1.kind, pi p1.scale, .ro (eField.els p1.fields)]] (by kernel_rfl) (⟨rfl, trivial⟩) ?_
  refine XO.calm 34 [.ag [ci p1.kind, ci p1.scale, cl eField p1.fields], vi (1 : Int), .one (.pt 0 0 0 0)] [.box [ci (0 : Int)]] [.box [ci r1.2]] (vi r1.1) [0] [(5, vi r1.1), (3, .one (.pt 0 0 0 0)), (4, .ag [ci p1.kind, ci p1.scale, cl eField p1.fields])] [.box [ci r1.2]] (by kernel_rfl) (c_ref1_checkType BIG _ _ _ _ c4) (by kernel_rfl) (by kernel_rfl) (by kernel_rfl) (by kernel_rfl) ?_
  refine XO.go [3] 1 [2] [] [(2, vi r1.1)] [.box [ci r1.2]] [] (by kernel_rfl) trivial ?_
  refine XO.done (by kernel_rfl) ?_
  refine hK3 _ _ ?_
  refine XW.ret (by kernel_rfl) ?_
  obtain rfl := Option.some.inj h
  exact FinP.fin (.inr rfl) [] [vi r1.1] [] (by kernel_rfl) trivial (.one (.rfl _ rfl))

def ref1_isNumber_j1 (x1 : Bool) : Option Bool :=
    some x1

def ref1_isNumber (p1 : Int) : Option Bool :=
    ift (p1 == (2 : Int))
      (ref1_isNumber_j1 true)
      (ref1_isNumber_j1 (p1 == (3 : Int)))


theorem c_ref1_isNumber (p1 : Int) (r : Bool) (h : ref1_isNumber p1 = some r) : PC Try.prog 72 [vi p1] (vb r) := by
  unfold ref1_isNumber at h
  refine PC.of (n := 9) (fn := Try.f72) (c := cd Try.f72 []) (by kernel_rfl) (by kernel_rfl) (by kernel_rfl) (Nat.le_of_ble_eq_true rfl) ?_
  refine XW.seq (x := cd Try.f72 [0]) (y := cd Try.f72 [1]) (by kernel_rfl) fun K1 hK1 => ?_
  refine XW.reg (by kernel_rfl) ?_
  refine XO.go [] 1 [0] [] [(0, vi p1)] [] [] (by kernel_rfl) trivial ?_
  refine XO.done (by kernel_rfl) ?_
  refine hK1 _ _ ?_
  refine XW.seq (x := cd Try.f72 [1,0]) (y := cd Try.f72 [1,1]) (by kernel_rfl) fun K2 hK2 => ?_
  have hJ1 : ∀ (x1 : Bool), ref1_isNumber_j1 x1 = some r → ∀ fr1 st1, Sub 9 0 [] fr1 st1 [(2, vb x1)] [] → K2 fr1 st1 := by
    intro x1 h fr1 st1 hS
    unfold ref1_isNumber_j1 at h
    refine hK2 _ _ (XW.sub hS ?_)
    refine XW.ret (by kernel_rfl) ?_
    obtain rfl := Option.some.inj h
    exact FinP.fin (.inr rfl) [] [vb x1] [] (by kernel_rfl) trivial (.one (.rfl _ rfl))
  rcases Bool.eq_false_or_eq_true (p1 == (2 : Int)) with b3 | b3
  · have h := ift_t b3 h
    refine XW.reg (by kernel_rfl) ?_
    refine XO.go [] 3 [0,5] [] [(0, vi p1), (5, vb (p1 == (2 : Int)))] [] [] (by kernel_rfl) trivial ?_
    refine XO.setb 5 true (B := (p1 == (2 : Int))) rfl b3 ?_
    refine XO.go [] 4 [2] [] [(2, vb true)] [] [] (by kernel_rfl) trivial ?_
    refine XO.done (by kernel_rfl) ?_
    exact hJ1 true h _ _ (Sub.pick [2] (by kernel_rfl))
  · have h := ift_f b3 h
    refine XW.reg (by kernel_rfl) ?_
    refine XO.go [] 3 [0,5] [] [(0, vi p1), (5, vb (p1 == (2 : Int)))] [] [] (by kernel_rfl) trivial ?_
    refine XO.setb 5 false (B := (p1 == (2 : Int))) rfl b3 ?_
    refine XO.go [] 4 [2] [] [(2, vb (p1 == (3 : Int)))] [] [] (by kernel_rfl) trivial ?_
    refine XO.done (by kernel_rfl) ?_
    exact hJ1 (p1 == (3 : Int)) h _ _ (Sub.pick [2] (by kernel_rfl))

def ref1_common_j3 (z1 : Int) : Option (GType × Bool) :=
    some ((GType.mk (3 : Int) z1 []), true)

def ref1_common_j2 (p1 : GType) (p2 : GType) (x2 : Bool) : Option (GType × Bool) :=
    ift x2
      (some (p1, true))
      (ift (decide (p1.scale < p2.scale))
         (ref1_common_j3 p2.scale)
         (ref1_common_j3 p1.scale))

def ref1_common_j5 (rec1 : List GField → Int → Option (GType × Bool)) (x4 : Int) (l2 : List GField) : Option (GType × Bool) :=
    rec1 l2 (IntKind.i64.wrap (x4 + (1 : Int)))

def ref1_common_j6 (p1 : GType) (l3 : List GField) : Option (GType × Bool) :=
    some ((GType.mk p1.kind (0 : Int) l3), true)

def ref1_common_l1 (q_ref1_common : GType → GType → Option (GType × Bool)) (p1 : GType) (p2 : GType) : Nat → List GField → Int → Option (GType × Bool)
  | 0, _, _ => none
  | k1 + 1, l1, x4 =>
    ift (decide (x4 < (p1.fields.length : Int)))
      (bnd (at? p1.fields x4) fun e1 =>
       bnd (at? p2.fields x4) fun e2 =>
       bnd (q_ref1_common e1.type e2.type) fun r3 =>
       ift (!r3.2)
         (some ((GType.mk (0 : Int) (0 : Int) []), false))
         (ift e1.need
            (grd (l1.length + 1 ≤ 4294967296) <|
             ref1_common_j5 (ref1_common_l1 q_ref1_common p1 p2 k1) x4 (l1 ++ [(FieldP.mk (0 : Int) e1.name e2.need r3.1)]))
            (grd (l1.length + 1 ≤ 4294967296) <|
             ref1_common_j5 (ref1_common_l1 q_ref1_common p1 p2 k1) x4 (l1 ++ [(FieldP.mk (0 : Int) e1.name false r3.1)]))))
      (ref1_common_j6 p1 l1)

def ref1_common_j4 (q_ref1_common : GType → GType → Option (GType × Bool)) (p1 : GType) (p2 : GType) (x3 : Bool) : Option (GType × Bool) :=
    ift x3
      (some ((GType.mk (0 : Int) (0 : Int) []), false))
      (ref1_common_l1 q_ref1_common p1 p2 BIG [] (0 : Int))

def ref1_common_j1 (q_ref1_common : GType → GType → Option (GType × Bool)) (p1 : GType) (p2 : GType) (x1 : Bool) : Option (GType × Bool) :=
    ift x1
      (ift (p1.kind == (2 : Int))
         (ref1_common_j2 p1 p2 (p2.kind == (2 : Int)))
         (ref1_common_j2 p1 p2 false))
      (ift (p1.kind != p2.kind)
         (ref1_common_j4 q_ref1_common p1 p2 true)
         (ref1_common_j4 q_ref1_common p1 p2 ((p1.fields.length : Int) != (p2.fields.length : Int))))

def ref1_common : Nat → GType → GType → Option (GType × Bool)
  | 0, _, _ => none
  | k0 + 1, p1, p2 =>
    bnd (ref1_isNumber p1.kind) fun r1 =>
    ift r1
      (bnd (ref1_isNumber p2.kind) fun r2 =>
       ref1_common_j1 (ref1_common k0) p1 p2 r2)
      (ref1_common_j1 (ref1_common k0) p1 p2 false)


theorem c_ref1_common : ∀ (k0 : Nat) (p1 : GType) (p2 : GType) (r : (GType × Bool)), ref1_common k0 p1 p2 = some r → PC Try.prog 32 [.ag [ci p1.kind, ci p1.scale, cl eField p1.fields], .ag [ci p2.kind, ci p2.scale, cl eField p2.fields]] (.tp [.ag [ci r.1.kind, ci r.1.scale, cl eField r.1.fields], vb r.2])
  | 0, _, _, r, h => by rw [ref1_common.eq_1] at h; cases h
  | k0 + 1, p1, p2, r, h => by
    rw [ref1_common.eq_2] at h
    refine PC.of (n := 112) (fn := Try.f32) (c := cd Try.f32 []) (by kernel_rfl) (by kernel_rfl) (by kernel_rfl) (Nat.le_of_ble_eq_true rfl) ?_
    refine XW.seq (x := cd Try.f32 [0]) (y := cd Try.f32 [1]) (by kernel_rfl) fun K1 hK1 => ?_
    refine XW.reg (by kernel_rfl) ?_
    refine XO.go [4, 6, 7, 9] 4 [2,3,4] [] [(2, .one (.pv (.rp [[pi p1.kind, pi p1.scale, .ro (eField.els p1.fields)]] 0 0))), (3, .one (.pv (.rp [[pi p2.kind, pi p2.scale, .ro (eField.els p2.fields)]] 0 0))), (4, .one (.pt 0 0 0 0))] [.box [ci (0 : Int), ci (0 : Int), .pv (.s (.slice none 0 0))]] [] (by kernel_rfl) trivial ?_
    refine XO.done (by kernel_rfl) ?_
    refine hK1 _ _ ?_
    refine XW.seq (x := cd Try.f32 [1,0]) (y := cd Try.f32 [1,1]) (by kernel_rfl) fun K2 hK2 => ?_
    refine XW.seq (x := cd Try.f32 [1,0,0]) (y := cd Try.f32 [1,0,1]) (by kernel_rfl) fun K3 hK3 => ?_
    have hJ1 : ∀ (x1 : Bool), ref1_common_j1 (ref1_common k0) p1 p2 x1 = some r → ∀ fr1 st1, Sub 112 0 [] fr1 st1 [(2, .one (.pv (.rp [[pi p1.kind, pi p1.scale, .ro (eField.els p1.fields)]] 0 0))), (3, .one (.pv (.rp [[pi p2.kind, pi p2.scale, .ro (eField.els p2.fields)]] 0 0))), (4, .one (.pt 0 0 0 0)), (18, vb x1)] [.box [ci (0 : Int), ci (0 : Int), .pv (.s (.slice none 0 0))]] → K3 fr1 st1 := by
      intro x1 h fr1 st1 hS
      unfold ref1_common_j1 at h
      refine hK3 _ _ (XW.sub hS ?_)
      refine XW.cond (x := .tmp 18) (a := cd Try.f32 [1,0,1,0]) (b := cd Try.f32 [1,0,1,1]) (t := x1) (by kernel_rfl) (by kernel_rfl) (fun b7 => ?_) (fun b7 => ?_)
      · have h := ift_t b7 h
        refine XW.seq (x := cd Try.f32 [1,0,1,0,0]) (y := cd Try.f32 [1,0,1,0,1]) (by kernel_rfl) fun K8 hK8 => ?_
        refine XW.seq (x := cd Try.f32 [1,0,1,0,0,0]) (y := cd Try.f32 [1,0,1,0,0,1]) (by kernel_rfl) fun K9 hK9 => ?_
        have hJ2 : ∀ (x2 : Bool), ref1_common_j2 p1 p2 x2 = some r → ∀ fr1 st1, Sub 112 0 [] fr1 st1 [(2, .one (.pv (.rp [[pi p1.kind, pi p1.scale, .ro (eField.els p1.fields)]] 0 0))), (3, .one (.pv (.rp [[pi p2.kind, pi p2.scale, .ro (eField.els p2.fields)]] 0 0))), (4, .one (.pt 0 0 0 0)), (26, vb x2)] [.box [ci (0 : Int), ci (0 : Int), .pv (.s (.slice none 0 0))]] → K9 fr1 st1 := by
          intro x2 h fr1 st1 hS
          unfold ref1_common_j2 at h
          refine hK9 _ _ (XW.sub hS ?_)
          refine XW.cond (x := .tmp 26) (a := cd Try.f32 [1,0,1,0,0,1,0]) (b := cd Try.f32 [1,0,1,0,0,1,1]) (t := x2) (by kernel_rfl) (by kernel_rfl) (fun b11 => ?_) (fun b11 => ?_)
          · have h := ift_t b11 h
            refine XW.seq (x := cd Try.f32 [1,0,1,0,0,1,0,0]) (y := cd Try.f32 [1,0,1,0,0,1,0,1]) (by kernel_rfl) fun K12 hK12 => ?_
            refine XW.reg (by kernel_rfl) ?_
            refine XO.go [4, 6, 7, 9] 3 [4,5] [[pi p1.kind, pi p1.scale, .ro (eField.els p1.fields)]] [(4, .one (.pt 0 0 0 0)), (5, vb true)] [.box [ci p1.kind, ci p1.scale, cl eField p1.fields]] [([[pi p1.kind, pi p1.scale, .ro (eField.els p1.fields)]] : List (List PV))[0]? = some [pi p1.kind, pi p1.scale, .ro (eField.els p1.fields)]] (by kernel_rfl) (⟨rfl, trivial⟩) ?_
            refine XO.done (by kernel_rfl) ?_
            refine hK12 _ _ ?_
            refine XW.ret (by kernel_rfl) ?_
            obtain rfl := Option.some.inj h
            exact FinP.fin (.inr rfl) [] [.ag [ci p1.kind, ci p1.scale, cl eField p1.fields], vb true] [] (by kernel_rfl) trivial (.tpc (.ag (.cons (.rfl _ rfl) (.cons (.rfl _ rfl) (.cons (.rfl _ rfl) .nil)))) (.tpc (.one (.rfl _ rfl)) (.tp0)))
          · have h := ift_f b11 h
            refine XW.skip (by kernel_rfl) ?_
            refine hK8 _ _ ?_
            refine XW.seq (x := cd Try.f32 [1,0,1,0,1,0]) (y := cd Try.f32 [1,0,1,0,1,1]) (by kernel_rfl) fun K13 hK13 => ?_
            refine XW.reg (by kernel_rfl) ?_
            refine XO.go [4, 6, 7, 9] 5 [3,4,6] [[pi p1.kind, pi p1.scale, .ro (eField.els p1.fields)]] [(3, .one (.pv (.rp [[pi p2.kind, pi p2.scale, .ro (eField.els p2.fields)]] 0 0))), (4, .one (.pt 0 0 0 0)), (6, .one (.pt 1 0 0 0))] [.box [ci (0 : Int), ci (0 : Int), .pv (.s (.slice none 0 0))], .box [ci (3 : Int), ci p1.scale, .pv (.s (.slice none 0 0))]] [([[pi p1.kind, pi p1.scale, .ro (eField.els p1.fields)]] : List (List PV))[0]? = some [pi p1.kind, pi p1.scale, .ro (eField.els p1.fields)]] (by kernel_rfl) (⟨rfl, trivial⟩) ?_
            refine XO.done (by kernel_rfl) ?_
            refine hK13 _ _ ?_
            refine XW.seq (x := cd Try.f32 [1,0,1,0,1,1,0]) (y := cd Try.f32 [1,0,1,0,1,1,1]) (by kernel_rfl) fun K14 hK14 => ?_
            have hJ3 : ∀ (z1 : Int), ref1_common_j3 z1 = some r → ∀ fr1 st1, Sub 112 0 [] fr1 st1 [(4, .one (.pt 0 0 0 0)), (6, .one (.pt 1 0 0 0))] [.box [ci (0 : Int), ci (0 : Int), .pv (.s (.slice none 0 0))], .box [ci (3 : Int), ci z1, .pv (.s (.slice none 0 0))]] → K14 fr1 st1 := by
              intro z1 h fr1 st1 hS
              unfold ref1_common_j3 at h
              refine hK14 _ _ (XW.sub hS ?_)
              refine XW.seq (x := cd Try.f32 [1,0,1,0,1,1,1,0]) (y := cd Try.f32 [1,0,1,0,1,1,1,1]) (by kernel_rfl) fun K17 hK17 => ?_
              refine XW.reg (by kernel_rfl) ?_
              refine XO.go [4, 6, 7, 9] 3 [4,5] [] [(4, .one (.pt 0 0 0 0)), (5, vb true)] [.box [ci (3 : Int), ci z1, .pv (.s (.slice none 0 0))], .box [ci (3 : Int), ci z1, .pv (.s (.slice none 0 0))]] [] (by kernel_rfl) trivial ?_
              refine XO.done (by kernel_rfl) ?_
              refine hK17 _ _ ?_
              refine XW.ret (by kernel_rfl) ?_
              obtain rfl := Option.some.inj h
              exact FinP.fin (.inr rfl) [] [.ag [ci (3 : Int), ci z1, .pv (.s (.slice none 0 0))], vb true] [] (by kernel_rfl) trivial (.tpc (.ag (.cons (.rfl _ rfl) (.cons (.rfl _ rfl) (.cons (.nl) .nil)))) (.tpc (.one (.rfl _ rfl)) (.tp0)))
            refine XW.seq (x := cd Try.f32 [1,0,1,0,1,1,0,0]) (y := cd Try.f32 [1,0,1,0,1,1,0,1]) (by kernel_rfl) fun K15 hK15 => ?_
            refine XW.reg (by kernel_rfl) ?_
            refine XO.go [4, 6, 7, 9] 5 [3,4,6,35] [[pi p2.kind, pi p2.scale, .ro (eField.els p2.fields)]] [(3, .one (.pv (.rp [[pi p2.kind, pi p2.scale, .ro (eField.els p2.fields)]] 0 0))), (4, .one (.pt 0 0 0 0)), (6, .one (.pt 1 0 0 0)), (35, vb (decide (p1.scale < p2.scale)))] [.box [ci (0 : Int), ci (0 : Int), .pv (.s (.slice none 0 0))], .box [ci (3 : Int), ci p1.scale, .pv (.s (.slice none 0 0))]] [([[pi p2.kind, pi p2.scale, .ro (eField.els p2.fields)]] : List (List PV))[0]? = some [pi p2.kind, pi p2.scale, .ro (eField.els p2.fields)]] (by kernel_rfl) (⟨rfl, trivial⟩) ?_
            refine XO.done (by kernel_rfl) ?_
            refine hK15 _ _ ?_
            refine XW.cond (x := .tmp 35) (a := cd Try.f32 [1,0,1,0,1,1,0,1,0]) (b := cd Try.f32 [1,0,1,0,1,1,0,1,1]) (t := (decide (p1.scale < p2.scale))) (by kernel_rfl) (by kernel_rfl) (fun b16 => ?_) (fun b16 => ?_)
            · have h := ift_t b16 h
              refine XW.reg (by kernel_rfl) ?_
              refine XO.go [4, 6, 7, 9] 4 [4,6] [[pi p2.kind, pi p2.scale, .ro (eField.els p2.fields)]] [(4, .one (.pt 0 0 0 0)), (6, .one (.pt 1 0 0 0))] [.box [ci (0 : Int), ci (0 : Int), .pv (.s (.slice none 0 0))], .box [ci (3 : Int), ci p2.scale, .pv (.s (.slice none 0 0))]] [([[pi p2.kind, pi p2.scale, .ro (eField.els p2.fields)]] : List (List PV))[0]? = some [pi p2.kind, pi p2.scale, .ro (eField.els p2.fields)]] (by kernel_rfl) (⟨rfl, trivial⟩) ?_
              refine XO.done (by kernel_rfl) ?_
              exact hJ3 p2.scale h _ _ (Sub.pick [4,6] (by kernel_rfl))
            · have h := ift_f b16 h
              refine XW.skip (by kernel_rfl) ?_
              exact hJ3 p1.scale h _ _ (Sub.pick [4,6] (by kernel_rfl))
        rcases Bool.eq_false_or_eq_true (p1.kind == (2 : Int)) with b10 | b10
        · have h := ift_t b10 h
          refine XW.reg (by kernel_rfl) ?_
          refine XO.go [4, 6, 7, 9] 4 [2,3,4,22] [[pi p1.kind, pi p1.scale, .ro (eField.els p1.fields)]] [(2, .one (.pv (.rp [[pi p1.kind, pi p1.scale, .ro (eField.els p1.fields)]] 0 0))), (3, .one (.pv (.rp [[pi p2.kind, pi p2.scale, .ro (eField.els p2.fields)]] 0 0))), (4, .one (.pt 0 0 0 0)), (22, vb (p1.kind == (2 : Int)))] [.box [ci (0 : Int), ci (0 : Int), .pv (.s (.slice none 0 0))]] [([[pi p1.kind, pi p1.scale, .ro (eField.els p1.fields)]] : List (List PV))[0]? = some [pi p1.kind, pi p1.scale, .ro (eField.els p1.fields)]] (by kernel_rfl) (⟨rfl, trivial⟩) ?_
          refine XO.setb 22 true (B := (p1.kind == (2 : Int))) rfl b10 ?_
          refine XO.go [4, 6, 7, 9] 4 [2,3,4,26] [[pi p2.kind, pi p2.scale, .ro (eField.els p2.fields)]] [(2, .one (.pv (.rp [[pi p1.kind, pi p1.scale, .ro (eField.els p1.fields)]] 0 0))), (3, .one (.pv (.rp [[pi p2.kind, pi p2.scale, .ro (eField.els p2.fields)]] 0 0))), (4, .one (.pt 0 0 0 0)), (26, vb (p2.kind == (2 : Int)))] [.box [ci (0 : Int), ci (0 : Int), .pv (.s (.slice none 0 0))]] [([[pi p2.kind, pi p2.scale, .ro (eField.els p2.fields)]] : List (List PV))[0]? = some [pi p2.kind, pi p2.scale, .ro (eField.els p2.fields)]] (by kernel_rfl) (⟨rfl, trivial⟩) ?_
          refine XO.done (by kernel_rfl) ?_
          exact hJ2 (p2.kind == (2 : Int)) h _ _ (Sub.pick [2,3,4,26] (by kernel_rfl))
        · have h := ift_f b10 h
          refine XW.reg (by kernel_rfl) ?_
          refine XO.go [4, 6, 7, 9] 4 [2,3,4,22] [[pi p1.kind, pi p1.scale, .ro (eField.els p1.fields)]] [(2, .one (.pv (.rp [[pi p1.kind, pi p1.scale, .ro (eField.els p1.fields)]] 0 0))), (3, .one (.pv (.rp [[pi p2.kind, pi p2.scale, .ro (eField.els p2.fields)]] 0 0))), (4, .one (.pt 0 0 0 0)), (22, vb (p1.kind == (2 : Int)))] [.box [ci (0 : Int), ci (0 : Int), .pv (.s (.slice none 0 0))]] [([[pi p1.kind, pi p1.scale, .ro (eField.els p1.fields)]] : List (List PV))[0]? = some [pi p1.kind, pi p1.scale, .ro (eField.els p1.fields)]] (by kernel_rfl) (⟨rfl, trivial⟩) ?_
          refine XO.setb 22 false (B := (p1.kind == (2 : Int))) rfl b10 ?_
          refine XO.go [4, 6, 7, 9] 4 [2,3,4,26] [] [(2, .one (.pv (.rp [[pi p1.kind, pi p1.scale, .ro (eField.els p1.fields)]] 0 0))), (3, .one (.pv (.rp [[pi p2.kind, pi p2.scale, .ro (eField.els p2.fields)]] 0 0))), (4, .one (.pt 0 0 0 0)), (26, vb false)] [.box [ci (0 : Int), ci (0 : Int), .pv (.s (.slice none 0 0))]] [] (by kernel_rfl) trivial ?_
          refine XO.done (by kernel_rfl) ?_
          exact hJ2 false h _ _ (Sub.pick [2,3,4,26] (by kernel_rfl))
      · have h := ift_f b7 h
        refine XW.skip (by kernel_rfl) ?_
        refine hK2 _ _ ?_
        refine XW.seq (x := cd Try.f32 [1,1,0]) (y := cd Try.f32 [1,1,1]) (by kernel_rfl) fun K18 hK18 => ?_
        refine XW.seq (x := cd Try.f32 [1,1,0,0]) (y := cd Try.f32 [1,1,0,1]) (by kernel_rfl) fun K19 hK19 => ?_
        have hJ4 : ∀ (x3 : Bool), ref1_common_j4 (ref1_common k0) p1 p2 x3 = some r → ∀ fr1 st1, Sub 112 0 [] fr1 st1 [(2, .one (.pv (.rp [[pi p1.kind, pi p1.scale, .ro (eField.els p1.fields)]] 0 0))), (3, .one (.pv (.rp [[pi p2.kind, pi p2.scale, .ro (eField.els p2.fields)]] 0 0))), (4, .one (.pt 0 0 0 0)), (53, vb x3)] [.box [ci (0 : Int), ci (0 : Int), .pv (.s (.slice none 0 0))]] → K19 fr1 st1 := by
          intro x3 h fr1 st1 hS
          unfold ref1_common_j4 at h
          refine hK19 _ _ (XW.sub hS ?_)
          refine XW.cond (x := .tmp 53) (a := cd Try.f32 [1,1,0,1,0]) (b := cd Try.f32 [1,1,0,1,1]) (t := x3) (by kernel_rfl) (by kernel_rfl) (fun b21 => ?_) (fun b21 => ?_)
          · have h := ift_t b21 h
            refine XW.seq (x := cd Try.f32 [1,1,0,1,0,0]) (y := cd Try.f32 [1,1,0,1,0,1]) (by kernel_rfl) fun K22 hK22 => ?_
            refine XW.reg (by kernel_rfl) ?_
            refine XO.go [4, 6, 7, 9] 3 [4,5] [] [(4, .one (.pt 0 0 0 0)), (5, vb false)] [.box [ci (0 : Int), ci (0 : Int), .pv (.s (.slice none 0 0))]] [] (by kernel_rfl) trivial ?_
            refine XO.done (by kernel_rfl) ?_
            refine hK22 _ _ ?_
            refine XW.ret (by kernel_rfl) ?_
            obtain rfl := Option.some.inj h
            exact FinP.fin (.inr rfl) [] [.ag [ci (0 : Int), ci (0 : Int), .pv (.s (.slice none 0 0))], vb false] [] (by kernel_rfl) trivial (.tpc (.ag (.cons (.rfl _ rfl) (.cons (.rfl _ rfl) (.cons (.nl) .nil)))) (.tpc (.one (.rfl _ rfl)) (.tp0)))
          · have h := ift_f b21 h
            refine XW.skip (by kernel_rfl) ?_
            refine hK18 _ _ ?_
            refine XW.seq (x := cd Try.f32 [1,1,1,0]) (y := cd Try.f32 [1,1,1,1]) (by kernel_rfl) fun K23 hK23 => ?_
            refine XW.reg (by kernel_rfl) ?_
            refine XO.go [4, 6, 7, 9] 5 [2,3,4,7] [[pi p1.kind, pi p1.scale, .ro (eField.els p1.fields)]] [(2, .one (.pv (.rp [[pi p1.kind, pi p1.scale, .ro (eField.els p1.fields)]] 0 0))), (3, .one (.pv (.rp [[pi p2.kind, pi p2.scale, .ro (eField.els p2.fields)]] 0 0))), (4, .one (.pt 0 0 0 0)), (7, .one (.pt 1 0 0 0))] [.box [ci (0 : Int), ci (0 : Int), .pv (.s (.slice none 0 0))], .box [ci p1.kind, ci (0 : Int), .pv (.s (.slice none 0 0))]] [([[pi p1.kind, pi p1.scale, .ro (eField.els p1.fields)]] : List (List PV))[0]? = some [pi p1.kind, pi p1.scale, .ro (eField.els p1.fields)]] (by kernel_rfl) (⟨rfl, trivial⟩) ?_
            refine XO.done (by kernel_rfl) ?_
            refine hK23 _ _ ?_
            refine XW.seq (x := cd Try.f32 [1,1,1,1,0]) (y := cd Try.f32 [1,1,1,1,1]) (by kernel_rfl) fun K24 hK24 => ?_
            have hJ6 : ∀ (l3 : List GField), ref1_common_j6 p1 l3 = some r → ∀ fr1 st1, Sub 112 0 [] fr1 st1 [(4, .one (.pt 0 0 0 0)), (7, .one (.pt 1 0 0 0))] [.box [ci (0 : Int), ci (0 : Int), .pv (.s (.slice none 0 0))], .box [ci p1.kind, ci (0 : Int), .sl 2 6 0 l3.length], .arr 6 (eField.els l3)] → K24 fr1 st1 := by
              intro l3 h fr1 st1 hS
              unfold ref1_common_j6 at h
              refine hK24 _ _ (XW.sub hS ?_)
              refine XW.seq (x := cd Try.f32 [1,1,1,1,1,0]) (y := cd Try.f32 [1,1,1,1,1,1]) (by kernel_rfl) fun K42 hK42 => ?_
              refine XW.reg (by kernel_rfl) ?_
              refine XO.go [4, 6, 7, 9] 3 [4,5] [] [(4, .one (.pt 0 0 0 0)), (5, vb true)] [.box [ci p1.kind, ci (0 : Int), .sl 2 6 0 l3.length], .box [ci p1.kind, ci (0 : Int), .sl 2 6 0 l3.length], .arr 6 (eField.els l3)] [] (by kernel_rfl) trivial ?_
              refine XO.done (by kernel_rfl) ?_
              refine hK42 _ _ ?_
              refine XW.ret (by kernel_rfl) ?_
              obtain rfl := Option.some.inj h
              exact FinP.fin (.inr rfl) [] [.ag [ci p1.kind, ci (0 : Int), .sl 2 6 0 l3.length], vb true] [] (by kernel_rfl) trivial (.tpc (.ag (.cons (.rfl _ rfl) (.cons (.rfl _ rfl) (.cons (cf_sl eField l3 rfl rfl rfl) .nil)))) (.tpc (.one (.rfl _ rfl)) (.tp0)))
            refine XW.seq (x := cd Try.f32 [1,1,1,1,0,0]) (y := cd Try.f32 [1,1,1,1,0,1]) (by kernel_rfl) fun K25 hK25 => ?_
            refine XW.reg (by kernel_rfl) ?_
            refine XO.go [4, 6, 7, 9] 3 [2,3,4,7,60] [[pi p1.kind, pi p1.scale, .ro (eField.els p1.fields)]] [(2, .one (.pv (.rp [[pi p1.kind, pi p1.scale, .ro (eField.els p1.fields)]] 0 0))), (3, .one (.pv (.rp [[pi p2.kind, pi p2.scale, .ro (eField.els p2.fields)]] 0 0))), (4, .one (.pt 0 0 0 0)), (7, .one (.pt 1 0 0 0)), (60, vi ((eField.els p1.fields).length : Int))] [.box [ci (0 : Int), ci (0 : Int), .pv (.s (.slice none 0 0))], .box [ci p1.kind, ci (0 : Int), .pv (.s (.slice none 0 0))]] [([[pi p1.kind, pi p1.scale, .ro (eField.els p1.fields)]] : List (List PV))[0]? = some [pi p1.kind, pi p1.scale, .ro (eField.els p1.fields)]] (by kernel_rfl) (⟨rfl, trivial⟩) ?_
            rw [eField.len p1.fields]
            refine XO.go [4, 6, 7, 9] 1 [2,3,4,7,60,61] [] [(2, .one (.pv (.rp [[pi p1.kind, pi p1.scale, .ro (eField.els p1.fields)]] 0 0))), (3, .one (.pv (.rp [[pi p2.kind, pi p2.scale, .ro (eField.els p2.fields)]] 0 0))), (4, .one (.pt 0 0 0 0)), (7, .one (.pt 1 0 0 0)), (60, vi (p1.fields.length : Int)), (61, vi (0 : Int))] [.box [ci (0 : Int), ci (0 : Int), .pv (.s (.slice none 0 0))], .box [ci p1.kind, ci (0 : Int), .pv (.s (.slice none 0 0))]] [] (by kernel_rfl) trivial ?_
            refine XO.done (by kernel_rfl) ?_
            refine hK25 _ _ ?_
            refine XW.block (id := 0) (x := cd Try.f32 [1,1,1,1,0,1,0]) (by kernel_rfl) ?_
            refine XW.sub (Sub.listb 1 2 6 [ci p1.kind, ci (0 : Int), .pv (.s (.slice none 0 0))] rfl rfl [.box [ci (0 : Int), ci (0 : Int), .pv (.s (.slice none 0 0))], .box [ci p1.kind, ci (0 : Int), .sl 2 6 0 0], .arr 6 (eField.els [])] rfl) ?_
            refine XW.rounds' BIG (x := cd Try.f32 [1,1,1,1,0,1,0,0]) (by kernel_rfl) fun Q1 hQ1 => ?_
            have hL1 : ∀ (k1 : Nat) (l1 : List GField) (x4 : Int), ref1_common_l1 (ref1_common k0) p1 p2 k1 l1 x4 = some r → XR Try.prog 112 0 [] (cd Try.f32 [1,1,1,1,0,1,0,0]) Q1 k1 [(2, .one (.pv (.rp [[pi p1.kind, pi p1.scale, .ro (eField.els p1.fields)]] 0 0))), (3, .one (.pv (.rp [[pi p2.kind, pi p2.scale, .ro (eField.els p2.fields)]] 0 0))), (4, .one (.pt 0 0 0 0)), (7, .one (.pt 1 0 0 0)), (60, vi (p1.fields.length : Int)), (61, vi x4)] [.box [ci (0 : Int), ci (0 : Int), .pv (.s (.slice none 0 0))], .box [ci p1.kind, ci (0 : Int), .sl 2 6 0 l1.length], .arr 6 (eField.els l1)] := by
              intro k1
              induction k1 with
              | zero => intro l1 x4 h; rw [ref1_common_l1.eq_1] at h; cases h
              | succ k1 ih1 =>
                intro l1 x4 h
                rw [ref1_common_l1.eq_2] at h
                refine XW.seq (x := cd Try.f32 [1,1,1,1,0,1,0,0,0]) (y := cd Try.f32 [1,1,1,1,0,1,0,0,1]) (by kernel_rfl) fun K26 hK26 => ?_
                refine XW.reg (by kernel_rfl) ?_
                refine XO.go [4, 6, 7, 9] 1 [2,3,4,7,60,61,62] [] [(2, .one (.pv (.rp [[pi p1.kind, pi p1.scale, .ro (eField.els p1.fields)]] 0 0))), (3, .one (.pv (.rp [[pi p2.kind, pi p2.scale, .ro (eField.els p2.fields)]] 0 0))), (4, .one (.pt 0 0 0 0)), (7, .one (.pt 1 0 0 0)), (60, vi (p1.fields.length : Int)), (61, vi x4), (62, vb (decide (x4 < (p1.fields.length : Int))))] [.box [ci (0 : Int), ci (0 : Int), .pv (.s (.slice none 0 0))], .box [ci p1.kind, ci (0 : Int), .sl 2 6 0 l1.length], .arr 6 (eField.els l1)] [] (by kernel_rfl) trivial ?_
                refine XO.done (by kernel_rfl) ?_
                refine hK26 _ _ ?_
                refine XW.seq (x := cd Try.f32 [1,1,1,1,0,1,0,0,1,0]) (y := cd Try.f32 [1,1,1,1,0,1,0,0,1,1]) (by kernel_rfl) fun K27 hK27 => ?_
                refine XW.cond (x := .tmp 62) (a := cd Try.f32 [1,1,1,1,0,1,0,0,1,0,0]) (b := cd Try.f32 [1,1,1,1,0,1,0,0,1,0,1]) (t := (decide (x4 < (p1.fields.length : Int)))) (by kernel_rfl) (by kernel_rfl) (fun b28 => ?_) (fun b28 => ?_)
                · have h := ift_t b28 h
                  refine XW.skip (by kernel_rfl) ?_
                  refine hK27 _ _ ?_
                  refine XW.seq (x := cd Try.f32 [1,1,1,1,0,1,0,0,1,1,0]) (y := cd Try.f32 [1,1,1,1,0,1,0,0,1,1,1]) (by kernel_rfl) fun K29 hK29 => ?_
                  have hJ5 : ∀ (l2 : List GField), ref1_common_j5 (ref1_common_l1 (ref1_common k0) p1 p2 k1) x4 l2 = some r → ∀ fr1 st1, Sub 112 0 [] fr1 st1 [(2, .one (.pv (.rp [[pi p1.kind, pi p1.scale, .ro (eField.els p1.fields)]] 0 0))), (3, .one (.pv (.rp [[pi p2.kind, pi p2.scale, .ro (eField.els p2.fields)]] 0 0))), (4, .one (.pt 0 0 0 0)), (7, .one (.pt 1 0 0 0)), (60, vi (p1.fields.length : Int)), (61, vi x4)] [.box [ci (0 : Int), ci (0 : Int), .pv (.s (.slice none 0 0))], .box [ci p1.kind, ci (0 : Int), .sl 2 6 0 l2.length], .arr 6 (eField.els l2)] → K29 fr1 st1 := by
                    intro l2 h fr1 st1 hS
                    unfold ref1_common_j5 at h
                    refine hK29 _ _ (XW.sub hS ?_)
                    refine XW.reg (by kernel_rfl) ?_
                    refine XO.go [4, 6, 7, 9] 2 [2,3,4,7,60,61] [] [(2, .one (.pv (.rp [[pi p1.kind, pi p1.scale, .ro (eField.els p1.fields)]] 0 0))), (3, .one (.pv (.rp [[pi p2.kind, pi p2.scale, .ro (eField.els p2.fields)]] 0 0))), (4, .one (.pt 0 0 0 0)), (7, .one (.pt 1 0 0 0)), (60, vi (p1.fields.length : Int)), (61, vi (IntKind.i64.wrap (x4 + (1 : Int))))] [.box [ci (0 : Int), ci (0 : Int), .pv (.s (.slice none 0 0))], .box [ci p1.kind, ci (0 : Int), .sl 2 6 0 l2.length], .arr 6 (eField.els l2)] [] (by kernel_rfl) trivial ?_
                    refine XO.done (by kernel_rfl) ?_
                    exact XR.sub (Sub.pick [2,3,4,7,60,61] (by kernel_rfl)) (ih1 l2 (IntKind.i64.wrap (x4 + (1 : Int))) h)
                  refine XW.block (id := 1) (x := cd Try.f32 [1,1,1,1,0,1,0,0,1,1,0,0]) (by kernel_rfl) ?_
                  refine XW.seq (x := cd Try.f32 [1,1,1,1,0,1,0,0,1,1,0,0,0]) (y := cd Try.f32 [1,1,1,1,0,1,0,0,1,1,0,0,1]) (by kernel_rfl) fun K30 hK30 => ?_
                  refine XW.reg (by kernel_rfl) ?_
                  refine XO.go [4, 6, 7, 9] 2 [2,3,4,7,8,60,61] [] [(2, .one (.pv (.rp [[pi p1.kind, pi p1.scale, .ro (eField.els p1.fields)]] 0 0))), (3, .one (.pv (.rp [[pi p2.kind, pi p2.scale, .ro (eField.els p2.fields)]] 0 0))), (4, .one (.pt 0 0 0 0)), (7, .one (.pt 1 0 0 0)), (8, vi x4), (60, vi (p1.fields.length : Int)), (61, vi x4)] [.box [ci (0 : Int), ci (0 : Int), .pv (.s (.slice none 0 0))], .box [ci p1.kind, ci (0 : Int), .sl 2 6 0 l1.length], .arr 6 (eField.els l1)] [] (by kernel_rfl) trivial ?_
                  refine XO.done (by kernel_rfl) ?_
                  refine hK30 _ _ ?_
                  refine XW.seq (x := cd Try.f32 [1,1,1,1,0,1,0,0,1,1,0,0,1,0]) (y := cd Try.f32 [1,1,1,1,0,1,0,0,1,1,0,0,1,1]) (by kernel_rfl) fun K31 hK31 => ?_
                  obtain ⟨e1, a32, h⟩ := bnd_some h
                  obtain ⟨e2, a33, h⟩ := bnd_some h
                  obtain ⟨r3, c34, h⟩ := bnd_some h
                  refine XW.sub (Sub.dead 1) ?_
                  refine XW.drwG 18 [3, 4] [([], []), ([], []), ([], []), ([], []), ([], []), ([], []), ([], []), ([], []), ([], []), ([], []), ([], []), ([], []), ([], []), ([], []), ([], []), ([], []), ([3], [3]), ([3], [3])] [(9, .one (.pt 3 0 0 0)), (79, vb r3.2), (78, .ag [ci r3.1.kind, ci r3.1.scale, cl eField r3.1.fields]), (64, .tp [.ag [ci r3.1.kind, ci r3.1.scale, cl eField r3.1.fields], vb r3.2]), (77, .tp [.ag [ci r3.1.kind, ci r3.1.scale, cl eField r3.1.fields], vb r3.2]), (76, .ag [ci e2.type.kind, ci e2.type.scale, cl eField e2.type.fields]), (75, .one (.pv (.rp (eField.els p2.fields) x4.toNat 3))), (74, .one (.pv (.rp (eField.els p2.fields) x4.toNat 0))), (73, vi x4), (72, vl eField p2.fields), (71, .one (.pv (.rp [[pi p2.kind, pi p2.scale, .ro (eField.els p2.fields)]] 0 2))), (70, .ag [ci e1.type.kind, ci e1.type.scale, cl eField e1.type.fields]), (69, .one (.pv (.rp (eField.els p1.fields) x4.toNat 3))), (68, .one (.pv (.rp (eField.els p1.fields) x4.toNat 0))), (67, vi x4), (66, vl eField p1.fields), (65, .one (.pv (.rp [[pi p1.kind, pi p1.scale, .ro (eField.els p1.fields)]] 0 2))), (2, .one (.pv (.rp [[pi p1.kind, pi p1.scale, .ro (eField.els p1.fields)]] 0 0))), (3, .one (.pv (.rp [[pi p2.kind, pi p2.scale, .ro (eField.els p2.fields)]] 0 0))), (4, .one (.pt 0 0 0 0)), (7, .one (.pt 1 0 0 0)), (8, vi x4), (60, vi (p1.fields.length : Int)), (61, vi x4)] [.box [ci (0 : Int), ci (0 : Int), .pv (.s (.slice none 0 0))], .box [ci p1.kind, ci (0 : Int), .sl 2 6 0 l1.length], .arr 6 (eField.els l1), .box [ci r3.1.kind, ci r3.1.scale, cl eField r3.1.fields]] (by kernel_rfl) (by kernel_rfl) ?_ ?_
                  · refine GY.go 12 [[pi p1.kind, pi p1.scale, .ro (eField.els p1.fields)], [pi e1.id, .s (.string e1.name), .s (.bool e1.need), pi e1.type.kind, pi e1.type.scale, .ro (eField.els e1.type.fields)], [pi p2.kind, pi p2.scale, .ro (eField.els p2.fields)], [pi e2.id, .s (.string e2.name), .s (.bool e2.need), pi e2.type.kind, pi e2.type.scale, .ro (eField.els e2.type.fields)]] [(76, .ag [ci e2.type.kind, ci e2.type.scale, cl eField e2.type.fields]), (75, .one (.pv (.rp (eField.els p2.fields) x4.toNat 3))), (74, .one (.pv (.rp (eField.els p2.fields) x4.toNat 0))), (73, vi x4), (72, vl eField p2.fields), (71, .one (.pv (.rp [[pi p2.kind, pi p2.scale, .ro (eField.els p2.fields)]] 0 2))), (70, .ag [ci e1.type.kind, ci e1.type.scale, cl eField e1.type.fields]), (69, .one (.pv (.rp (eField.els p1.fields) x4.toNat 3))), (68, .one (.pv (.rp (eField.els p1.fields) x4.toNat 0))), (67, vi x4), (66, vl eField p1.fields), (65, .one (.pv (.rp [[pi p1.kind, pi p1.scale, .ro (eField.els p1.fields)]] 0 2))), (2, .one (.pv (.rp [[pi p1.kind, pi p1.scale, .ro (eField.els p1.fields)]] 0 0))), (3, .one (.pv (.rp [[pi p2.kind, pi p2.scale, .ro (eField.els p2.fields)]] 0 0))), (4, .one (.pt 0 0 0 0)), (7, .one (.pt 1 0 0 0)), (8, vi x4), (60, vi (p1.fields.length : Int)), (61, vi x4)] [([[pi p1.kind, pi p1.scale, .ro (eField.els p1.fields)]] : List (List PV))[0]? = some [pi p1.kind, pi p1.scale, .ro (eField.els p1.fields)], 0 ≤ x4 ∧ x4 < ((eField.els p1.fields).length : Int) ∧ elemsOk 6 (eField.els p1.fields), (eField.els p1.fields)[x4.toNat]? = some [pi e1.id, .s (.string e1.name), .s (.bool e1.need), pi e1.type.kind, pi e1.type.scale, .ro (eField.els e1.type.fields)], ([[pi p2.kind, pi p2.scale, .ro (eField.els p2.fields)]] : List (List PV))[0]? = some [pi p2.kind, pi p2.scale, .ro (eField.els p2.fields)], 0 ≤ x4 ∧ x4 < ((eField.els p2.fields).length : Int) ∧ elemsOk 6 (eField.els p2.fields), (eField.els p2.fields)[x4.toNat]? = some [pi e2.id, .s (.string e2.name), .s (.bool e2.need), pi e2.type.kind, pi e2.type.scale, .ro (eField.els e2.type.fields)]] (by kernel_rfl) (⟨rfl, eField.inb a32, ((eField.get a32).trans (by rcases e1 with ⟨_, _, _, ⟨_, _, _⟩⟩; rfl)), rfl, eField.inb a33, ((eField.get a33).trans (by rcases e2 with ⟨_, _, _, ⟨_, _, _⟩⟩; rfl)), trivial⟩) ?_
                    refine GY.cal 32 [.ag [ci e1.type.kind, ci e1.type.scale, cl eField e1.type.fields], .ag [ci e2.type.kind, ci e2.type.scale, cl eField e2.type.fields]] (.tp [.ag [ci r3.1.kind, ci r3.1.scale, cl eField r3.1.fields], vb r3.2]) [(77, .tp [.ag [ci r3.1.kind, ci r3.1.scale, cl eField r3.1.fields], vb r3.2]), (76, .ag [ci e2.type.kind, ci e2.type.scale, cl eField e2.type.fields]), (75, .one (.pv (.rp (eField.els p2.fields) x4.toNat 3))), (74, .one (.pv (.rp (eField.els p2.fields) x4.toNat 0))), (73, vi x4), (72, vl eField p2.fields), (71, .one (.pv (.rp [[pi p2.kind, pi p2.scale, .ro (eField.els p2.fields)]] 0 2))), (70, .ag [ci e1.type.kind, ci e1.type.scale, cl eField e1.type.fields]), (69, .one (.pv (.rp (eField.els p1.fields) x4.toNat 3))), (68, .one (.pv (.rp (eField.els p1.fields) x4.toNat 0))), (67, vi x4), (66, vl eField p1.fields), (65, .one (.pv (.rp [[pi p1.kind, pi p1.scale, .ro (eField.els p1.fields)]] 0 2))), (2, .one (.pv (.rp [[pi p1.kind, pi p1.scale, .ro (eField.els p1.fields)]] 0 0))), (3, .one (.pv (.rp [[pi p2.kind, pi p2.scale, .ro (eField.els p2.fields)]] 0 0))), (4, .one (.pt 0 0 0 0)), (7, .one (.pt 1 0 0 0)), (8, vi x4), (60, vi (p1.fields.length : Int)), (61, vi x4)] [] (by kernel_rfl) (by kernel_rfl) (c_ref1_common k0 _ _ _ c34) rfl rfl (by kernel_rfl) (by kernel_rfl) (by kernel_rfl) ?_
                    refine GY.go 3 [] [(79, vb r3.2), (78, .ag [ci r3.1.kind, ci r3.1.scale, cl eField r3.1.fields]), (64, .tp [.ag [ci r3.1.kind, ci r3.1.scale, cl eField r3.1.fields], vb r3.2]), (77, .tp [.ag [ci r3.1.kind, ci r3.1.scale, cl eField r3.1.fields], vb r3.2]), (76, .ag [ci e2.type.kind, ci e2.type.scale, cl eField e2.type.fields]), (75, .one (.pv (.rp (eField.els p2.fields) x4.toNat 3))), (74, .one (.pv (.rp (eField.els p2.fields) x4.toNat 0))), (73, vi x4), (72, vl eField p2.fields), (71, .one (.pv (.rp [[pi p2.kind, pi p2.scale, .ro (eField.els p2.fields)]] 0 2))), (70, .ag [ci e1.type.kind, ci e1.type.scale, cl eField e1.type.fields]), (69, .one (.pv (.rp (eField.els p1.fields) x4.toNat 3))), (68, .one (.pv (.rp (eField.els p1.fields) x4.toNat 0))), (67, vi x4), (66, vl eField p1.fields), (65, .one (.pv (.rp [[pi p1.kind, pi p1.scale, .ro (eField.els p1.fields)]] 0 2))), (2, .one (.pv (.rp [[pi p1.kind, pi p1.scale, .ro (eField.els p1.fields)]] 0 0))), (3, .one (.pv (.rp [[pi p2.kind, pi p2.scale, .ro (eField.els p2.fields)]] 0 0))), (4, .one (.pt 0 0 0 0)), (7, .one (.pt 1 0 0 0)), (8, vi x4), (60, vi (p1.fields.length : Int)), (61, vi x4)] [] (by kernel_rfl) trivial ?_
                    refine GY.new true 3 [] [(9, .one (.pt 3 0 0 0)), (79, vb r3.2), (78, .ag [ci r3.1.kind, ci r3.1.scale, cl eField r3.1.fields]), (64, .tp [.ag [ci r3.1.kind, ci r3.1.scale, cl eField r3.1.fields], vb r3.2]), (77, .tp [.ag [ci r3.1.kind, ci r3.1.scale, cl eField r3.1.fields], vb r3.2]), (76, .ag [ci e2.type.kind, ci e2.type.scale, cl eField e2.type.fields]), (75, .one (.pv (.rp (eField.els p2.fields) x4.toNat 3))), (74, .one (.pv (.rp (eField.els p2.fields) x4.toNat 0))), (73, vi x4), (72, vl eField p2.fields), (71, .one (.pv (.rp [[pi p2.kind, pi p2.scale, .ro (eField.els p2.fields)]] 0 2))), (70, .ag [ci e1.type.kind, ci e1.type.scale, cl eField e1.type.fields]), (69, .one (.pv (.rp (eField.els p1.fields) x4.toNat 3))), (68, .one (.pv (.rp (eField.els p1.fields) x4.toNat 0))), (67, vi x4), (66, vl eField p1.fields), (65, .one (.pv (.rp [[pi p1.kind, pi p1.scale, .ro (eField.els p1.fields)]] 0 2))), (2, .one (.pv (.rp [[pi p1.kind, pi p1.scale, .ro (eField.els p1.fields)]] 0 0))), (3, .one (.pv (.rp [[pi p2.kind, pi p2.scale, .ro (eField.els p2.fields)]] 0 0))), (4, .one (.pt 0 0 0 0)), (7, .one (.pt 1 0 0 0)), (8, vi x4), (60, vi (p1.fields.length : Int)), (61, vi x4)] [3] [.box [ci (0 : Int), ci (0 : Int), .pv (.s (.slice none 0 0))], .box [ci p1.kind, ci (0 : Int), .sl 2 6 0 l1.length], .arr 6 (eField.els l1), .box [ci (0 : Int), ci (0 : Int), .pv (.s (.slice none 0 0))]] [] (by kernel_rfl) (by kernel_rfl) trivial ?_
                    refine GY.wr [] [(9, .one (.pt 3 0 0 0)), (79, vb r3.2), (78, .ag [ci r3.1.kind, ci r3.1.scale, cl eField r3.1.fields]), (64, .tp [.ag [ci r3.1.kind, ci r3.1.scale, cl eField r3.1.fields], vb r3.2]), (77, .tp [.ag [ci r3.1.kind, ci r3.1.scale, cl eField r3.1.fields], vb r3.2]), (76, .ag [ci e2.type.kind, ci e2.type.scale, cl eField e2.type.fields]), (75, .one (.pv (.rp (eField.els p2.fields) x4.toNat 3))), (74, .one (.pv (.rp (eField.els p2.fields) x4.toNat 0))), (73, vi x4), (72, vl eField p2.fields), (71, .one (.pv (.rp [[pi p2.kind, pi p2.scale, .ro (eField.els p2.fields)]] 0 2))), (70, .ag [ci e1.type.kind, ci e1.type.scale, cl eField e1.type.fields]), (69, .one (.pv (.rp (eField.els p1.fields) x4.toNat 3))), (68, .one (.pv (.rp (eField.els p1.fields) x4.toNat 0))), (67, vi x4), (66, vl eField p1.fields), (65, .one (.pv (.rp [[pi p1.kind, pi p1.scale, .ro (eField.els p1.fields)]] 0 2))), (2, .one (.pv (.rp [[pi p1.kind, pi p1.scale, .ro (eField.els p1.fields)]] 0 0))), (3, .one (.pv (.rp [[pi p2.kind, pi p2.scale, .ro (eField.els p2.fields)]] 0 0))), (4, .one (.pt 0 0 0 0)), (7, .one (.pt 1 0 0 0)), (8, vi x4), (60, vi (p1.fields.length : Int)), (61, vi x4)] [3] [.box [ci (0 : Int), ci (0 : Int), .pv (.s (.slice none 0 0))], .box [ci p1.kind, ci (0 : Int), .sl 2 6 0 l1.length], .arr 6 (eField.els l1), .box [ci r3.1.kind, ci r3.1.scale, cl eField r3.1.fields]] [] (by kernel_rfl) (by kernel_rfl) trivial ?_
                    exact GY.done (by kernel_rfl) (by kernel_rfl)
                  refine XO.go [4, 6, 7, 9] 1 [2,3,4,7,8,9,10,60,61] [] [(2, .one (.pv (.rp [[pi p1.kind, pi p1.scale, .ro (eField.els p1.fields)]] 0 0))), (3, .one (.pv (.rp [[pi p2.kind, pi p2.scale, .ro (eField.els p2.fields)]] 0 0))), (4, .one (.pt 0 0 0 0)), (7, .one (.pt 1 0 0 0)), (8, vi x4), (9, .one (.pt 3 0 0 0)), (10, vb r3.2), (60, vi (p1.fields.length : Int)), (61, vi x4)] [.box [ci (0 : Int), ci (0 : Int), .pv (.s (.slice none 0 0))], .box [ci p1.kind, ci (0 : Int), .sl 2 6 0 l1.length], .arr 6 (eField.els l1), .box [ci r3.1.kind, ci r3.1.scale, cl eField r3.1.fields]] [] (by kernel_rfl) trivial ?_
                  refine XO.done (by kernel_rfl) ?_
                  refine hK31 _ _ ?_
                  refine XW.seq (x := cd Try.f32 [1,1,1,1,0,1,0,0,1,1,0,0,1,1,0]) (y := cd Try.f32 [1,1,1,1,0,1,0,0,1,1,0,0,1,1,1]) (by kernel_rfl) fun K35 hK35 => ?_
                  refine XW.seq (x := cd Try.f32 [1,1,1,1,0,1,0,0,1,1,0,0,1,1,0,0]) (y := cd Try.f32 [1,1,1,1,0,1,0,0,1,1,0,0,1,1,0,1]) (by kernel_rfl) fun K36 hK36 => ?_
                  refine XW.reg (by kernel_rfl) ?_
                  refine XO.go [4, 6, 7, 9] 2 [2,3,4,7,8,9,60,61,81] [] [(2, .one (.pv (.rp [[pi p1.kind, pi p1.scale, .ro (eField.els p1.fields)]] 0 0))), (3, .one (.pv (.rp [[pi p2.kind, pi p2.scale, .ro (eField.els p2.fields)]] 0 0))), (4, .one (.pt 0 0 0 0)), (7, .one (.pt 1 0 0 0)), (8, vi x4), (9, .one (.pt 3 0 0 0)), (60, vi (p1.fields.length : Int)), (61, vi x4), (81, vb (!r3.2))] [.box [ci (0 : Int), ci (0 : Int), .pv (.s (.slice none 0 0))], .box [ci p1.kind, ci (0 : Int), .sl 2 6 0 l1.length], .arr 6 (eField.els l1), .box [ci r3.1.kind, ci r3.1.scale, cl eField r3.1.fields]] [] (by kernel_rfl) trivial ?_
                  refine XO.done (by kernel_rfl) ?_
                  refine hK36 _ _ ?_
                  refine XW.cond (x := .tmp 81) (a := cd Try.f32 [1,1,1,1,0,1,0,0,1,1,0,0,1,1,0,1,0]) (b := cd Try.f32 [1,1,1,1,0,1,0,0,1,1,0,0,1,1,0,1,1]) (t := (!r3.2)) (by kernel_rfl) (by kernel_rfl) (fun b37 => ?_) (fun b37 => ?_)
                  · have h := ift_t b37 h
                    refine XW.seq (x := cd Try.f32 [1,1,1,1,0,1,0,0,1,1,0,0,1,1,0,1,0,0]) (y := cd Try.f32 [1,1,1,1,0,1,0,0,1,1,0,0,1,1,0,1,0,1]) (by kernel_rfl) fun K38 hK38 => ?_
                    refine XW.reg (by kernel_rfl) ?_
                    refine XO.go [4, 6, 7, 9] 3 [4,5] [] [(4, .one (.pt 0 0 0 0)), (5, vb false)] [.box [ci (0 : Int), ci (0 : Int), .pv (.s (.slice none 0 0))], .box [ci p1.kind, ci (0 : Int), .sl 2 6 0 l1.length], .arr 6 (eField.els l1), .box [ci r3.1.kind, ci r3.1.scale, cl eField r3.1.fields]] [] (by kernel_rfl) trivial ?_
                    refine XO.done (by kernel_rfl) ?_
                    refine hK38 _ _ ?_
                    refine XW.ret (by kernel_rfl) ?_
                    refine hQ1 _ _ _ ?_
                    obtain rfl := Option.some.inj h
                    exact FinP.fin (.inr rfl) [] [.ag [ci (0 : Int), ci (0 : Int), .pv (.s (.slice none 0 0))], vb false] [] (by kernel_rfl) trivial (.tpc (.ag (.cons (.rfl _ rfl) (.cons (.rfl _ rfl) (.cons (.nl) .nil)))) (.tpc (.one (.rfl _ rfl)) (.tp0)))
                  · have h := ift_f b37 h
                    refine XW.skip (by kernel_rfl) ?_
                    refine hK35 _ _ ?_
                    rcases Bool.eq_false_or_eq_true e1.need with b39 | b39
                    · have h := ift_t b39 h
                      obtain ⟨g40, h⟩ := grd_some h
                      refine XW.drwS 25 [(107, vl eField [(FieldP.mk (0 : Int) e1.name e2.need r3.1)]), (106, .ag [ci (0 : Int), cst e1.name, cb e2.need, ci r3.1.kind, ci r3.1.scale, cl eField r3.1.fields]), (105, .ag [ci r3.1.kind, ci r3.1.scale, cl eField r3.1.fields]), (104, vb e2.need), (103, vb e2.need), (102, .one (.pv (.rp (eField.els p2.fields) x4.toNat 2))), (101, .one (.pv (.rp (eField.els p2.fields) x4.toNat 0))), (100, vi x4), (99, vl eField p2.fields), (98, .one (.pv (.rp [[pi p2.kind, pi p2.scale, .ro (eField.els p2.fields)]] 0 2))), (97, vb true), (96, vb e1.need), (95, .one (.pv (.rp (eField.els p1.fields) x4.toNat 2))), (94, .one (.pv (.rp (eField.els p1.fields) x4.toNat 0))), (93, vi x4), (92, vl eField p1.fields), (91, .one (.pv (.rp [[pi p1.kind, pi p1.scale, .ro (eField.els p1.fields)]] 0 2))), (90, vs e1.name), (89, .one (.pv (.rp (eField.els p1.fields) x4.toNat 1))), (88, .one (.pv (.rp (eField.els p1.fields) x4.toNat 0))), (87, vi x4), (86, vl eField p1.fields), (85, .one (.pv (.rp [[pi p1.kind, pi p1.scale, .ro (eField.els p1.fields)]] 0 2))), (84, .one (.sl 2 6 0 l1.length)), (83, .one (.pt 1 0 0 2)), (2, .one (.pv (.rp [[pi p1.kind, pi p1.scale, .ro (eField.els p1.fields)]] 0 0))), (3, .one (.pv (.rp [[pi p2.kind, pi p2.scale, .ro (eField.els p2.fields)]] 0 0))), (4, .one (.pt 0 0 0 0)), (7, .one (.pt 1 0 0 0)), (8, vi x4), (9, .one (.pt 3 0 0 0)), (60, vi (p1.fields.length : Int)), (61, vi x4), (81, vb (!r3.2))] (by kernel_rfl) (by kernel_rfl) ?_ ?_
                      · refine DX.go 15 [[pi p1.kind, pi p1.scale, .ro (eField.els p1.fields)], [pi e1.id, .s (.string e1.name), .s (.bool e1.need), pi e1.type.kind, pi e1.type.scale, .ro (eField.els e1.type.fields)], [pi p1.kind, pi p1.scale, .ro (eField.els p1.fields)], [pi e1.id, .s (.string e1.name), .s (.bool e1.need), pi e1.type.kind, pi e1.type.scale, .ro (eField.els e1.type.fields)]] [(97, vb e1.need), (96, vb e1.need), (95, .one (.pv (.rp (eField.els p1.fields) x4.toNat 2))), (94, .one (.pv (.rp (eField.els p1.fields) x4.toNat 0))), (93, vi x4), (92, vl eField p1.fields), (91, .one (.pv (.rp [[pi p1.kind, pi p1.scale, .ro (eField.els p1.fields)]] 0 2))), (90, vs e1.name), (89, .one (.pv (.rp (eField.els p1.fields) x4.toNat 1))), (88, .one (.pv (.rp (eField.els p1.fields) x4.toNat 0))), (87, vi x4), (86, vl eField p1.fields), (85, .one (.pv (.rp [[pi p1.kind, pi p1.scale, .ro (eField.els p1.fields)]] 0 2))), (84, .one (.sl 2 6 0 l1.length)), (83, .one (.pt 1 0 0 2)), (2, .one (.pv (.rp [[pi p1.kind, pi p1.scale, .ro (eField.els p1.fields)]] 0 0))), (3, .one (.pv (.rp [[pi p2.kind, pi p2.scale, .ro (eField.els p2.fields)]] 0 0))), (4, .one (.pt 0 0 0 0)), (7, .one (.pt 1 0 0 0)), (8, vi x4), (9, .one (.pt 3 0 0 0)), (60, vi (p1.fields.length : Int)), (61, vi x4), (81, vb (!r3.2))] [([[pi p1.kind, pi p1.scale, .ro (eField.els p1.fields)]] : List (List PV))[0]? = some [pi p1.kind, pi p1.scale, .ro (eField.els p1.fields)], 0 ≤ x4 ∧ x4 < ((eField.els p1.fields).length : Int) ∧ elemsOk 6 (eField.els p1.fields), (eField.els p1.fields)[x4.toNat]? = some [pi e1.id, .s (.string e1.name), .s (.bool e1.need), pi e1.type.kind, pi e1.type.scale, .ro (eField.els e1.type.fields)], ([[pi p1.kind, pi p1.scale, .ro (eField.els p1.fields)]] : List (List PV))[0]? = some [pi p1.kind, pi p1.scale, .ro (eField.els p1.fields)], 0 ≤ x4 ∧ x4 < ((eField.els p1.fields).length : Int) ∧ elemsOk 6 (eField.els p1.fields), (eField.els p1.fields)[x4.toNat]? = some [pi e1.id, .s (.string e1.name), .s (.bool e1.need), pi e1.type.kind, pi e1.type.scale, .ro (eField.els e1.type.fields)]] (by kernel_rfl) (⟨rfl, eField.inb a32, ((eField.get a32).trans (by rcases e1 with ⟨_, _, _, ⟨_, _, _⟩⟩; rfl)), rfl, eField.inb a32, ((eField.get a32).trans (by rcases e1 with ⟨_, _, _, ⟨_, _, _⟩⟩; rfl)), trivial⟩) ?_
                        refine DX.eq (fr1 := [(97, vb true), (96, vb e1.need), (95, .one (.pv (.rp (eField.els p1.fields) x4.toNat 2))), (94, .one (.pv (.rp (eField.els p1.fields) x4.toNat 0))), (93, vi x4), (92, vl eField p1.fields), (91, .one (.pv (.rp [[pi p1.kind, pi p1.scale, .ro (eField.els p1.fields)]] 0 2))), (90, vs e1.name), (89, .one (.pv (.rp (eField.els p1.fields) x4.toNat 1))), (88, .one (.pv (.rp (eField.els p1.fields) x4.toNat 0))), (87, vi x4), (86, vl eField p1.fields), (85, .one (.pv (.rp [[pi p1.kind, pi p1.scale, .ro (eField.els p1.fields)]] 0 2))), (84, .one (.sl 2 6 0 l1.length)), (83, .one (.pt 1 0 0 2)), (2, .one (.pv (.rp [[pi p1.kind, pi p1.scale, .ro (eField.els p1.fields)]] 0 0))), (3, .one (.pv (.rp [[pi p2.kind, pi p2.scale, .ro (eField.els p2.fields)]] 0 0))), (4, .one (.pt 0 0 0 0)), (7, .one (.pt 1 0 0 0)), (8, vi x4), (9, .one (.pt 3 0 0 0)), (60, vi (p1.fields.length : Int)), (61, vi x4), (81, vb (!r3.2))]) (by rw [b39]) ?_
                        refine DX.go 10 [[pi p2.kind, pi p2.scale, .ro (eField.els p2.fields)], [pi e2.id, .s (.string e2.name), .s (.bool e2.need), pi e2.type.kind, pi e2.type.scale, .ro (eField.els e2.type.fields)]] [(107, .one (.pv (.ro [[pi (0 : Int), .s (.string e1.name), .s (.bool e2.need), pi r3.1.kind, pi r3.1.scale, .ro (eField.els r3.1.fields)]]))), (106, .ag [ci (0 : Int), cst e1.name, cb e2.need, ci r3.1.kind, ci r3.1.scale, cl eField r3.1.fields]), (105, .ag [ci r3.1.kind, ci r3.1.scale, cl eField r3.1.fields]), (104, vb e2.need), (103, vb e2.need), (102, .one (.pv (.rp (eField.els p2.fields) x4.toNat 2))), (101, .one (.pv (.rp (eField.els p2.fields) x4.toNat 0))), (100, vi x4), (99, vl eField p2.fields), (98, .one (.pv (.rp [[pi p2.kind, pi p2.scale, .ro (eField.els p2.fields)]] 0 2))), (97, vb true), (96, vb e1.need), (95, .one (.pv (.rp (eField.els p1.fields) x4.toNat 2))), (94, .one (.pv (.rp (eField.els p1.fields) x4.toNat 0))), (93, vi x4), (92, vl eField p1.fields), (91, .one (.pv (.rp [[pi p1.kind, pi p1.scale, .ro (eField.els p1.fields)]] 0 2))), (90, vs e1.name), (89, .one (.pv (.rp (eField.els p1.fields) x4.toNat 1))), (88, .one (.pv (.rp (eField.els p1.fields) x4.toNat 0))), (87, vi x4), (86, vl eField p1.fields), (85, .one (.pv (.rp [[pi p1.kind, pi p1.scale, .ro (eField.els p1.fields)]] 0 2))), (84, .one (.sl 2 6 0 l1.length)), (83, .one (.pt 1 0 0 2)), (2, .one (.pv (.rp [[pi p1.kind, pi p1.scale, .ro (eField.els p1.fields)]] 0 0))), (3, .one (.pv (.rp [[pi p2.kind, pi p2.scale, .ro (eField.els p2.fields)]] 0 0))), (4, .one (.pt 0 0 0 0)), (7, .one (.pt 1 0 0 0)), (8, vi x4), (9, .one (.pt 3 0 0 0)), (60, vi (p1.fields.length : Int)), (61, vi x4), (81, vb (!r3.2))] [([[pi p2.kind, pi p2.scale, .ro (eField.els p2.fields)]] : List (List PV))[0]? = some [pi p2.kind, pi p2.scale, .ro (eField.els p2.fields)], 0 ≤ x4 ∧ x4 < ((eField.els p2.fields).length : Int) ∧ elemsOk 6 (eField.els p2.fields), (eField.els p2.fields)[x4.toNat]? = some [pi e2.id, .s (.string e2.name), .s (.bool e2.need), pi e2.type.kind, pi e2.type.scale, .ro (eField.els e2.type.fields)]] (by kernel_rfl) (⟨rfl, eField.inb a33, ((eField.get a33).trans (by rcases e2 with ⟨_, _, _, ⟨_, _, _⟩⟩; rfl)), trivial⟩) ?_
                        rw [show ([[pi (0 : Int), .s (.string e1.name), .s (.bool e2.need), pi r3.1.kind, pi r3.1.scale, .ro (eField.els r3.1.fields)]] : List (List PV)) = eField.els [(FieldP.mk (0 : Int) e1.name e2.need r3.1)] from by rcases e1 with ⟨_, _, _, ⟨_, _, _⟩⟩; rcases e2 with ⟨_, _, _, ⟨_, _, _⟩⟩; rcases r3 with ⟨⟨_, _, _⟩, _⟩; rfl]
                        exact DX.done (by kernel_rfl)
                      refine XO.sub (Sub.stale 1 2 2 6 0 l1.length [ci p1.kind, ci (0 : Int), .sl 2 6 0 l1.length] rfl rfl [.box [ci (0 : Int), ci (0 : Int), .pv (.s (.slice none 0 0))], .box [ci p1.kind, ci (0 : Int), .sl 4 6 0 l1.length], .arr 6 (eField.els l1), .box [ci r3.1.kind, ci r3.1.scale, cl eField r3.1.fields], .dead] rfl) ?_
                      refine XO.go [4, 6, 7, 9] 1 [2,3,4,7,60,61,108] [] [(2, .one (.pv (.rp [[pi p1.kind, pi p1.scale, .ro (eField.els p1.fields)]] 0 0))), (3, .one (.pv (.rp [[pi p2.kind, pi p2.scale, .ro (eField.els p2.fields)]] 0 0))), (4, .one (.pt 0 0 0 0)), (7, .one (.pt 1 0 0 0)), (60, vi (p1.fields.length : Int)), (61, vi x4), (108, .one (.sl 2 6 0 (l1.length + (eField.els [(FieldP.mk (0 : Int) e1.name e2.need r3.1)]).length)))] [.box [ci (0 : Int), ci (0 : Int), .pv (.s (.slice none 0 0))], .box [ci p1.kind, ci (0 : Int), .sl 4 6 0 l1.length], .arr 6 (eField.els l1 ++ eField.els [(FieldP.mk (0 : Int) e1.name e2.need r3.1)]), .box [ci r3.1.kind, ci r3.1.scale, cl eField r3.1.fields], .dead] [elemsOk 6 (eField.els [(FieldP.mk (0 : Int) e1.name e2.need r3.1)]), l1.length = (eField.els l1).length, l1.length + (eField.els [(FieldP.mk (0 : Int) e1.name e2.need r3.1)]).length ≤ 4294967296] (by kernel_rfl) (⟨eField.ok _, (eField.len l1).symm, g40, trivial⟩) ?_
                      rw [show l1.length + (eField.els [(FieldP.mk (0 : Int) e1.name e2.need r3.1)]).length = (l1 ++ [(FieldP.mk (0 : Int) e1.name e2.need r3.1)]).length from eField.lapp _ _]
                      rw [show eField.els l1 ++ eField.els [(FieldP.mk (0 : Int) e1.name e2.need r3.1)] = eField.els (l1 ++ [(FieldP.mk (0 : Int) e1.name e2.need r3.1)]) from eField.app2 _ _]
                      refine XO.go [4, 6, 7, 9] 2 [2,3,4,7,60,61] [] [(2, .one (.pv (.rp [[pi p1.kind, pi p1.scale, .ro (eField.els p1.fields)]] 0 0))), (3, .one (.pv (.rp [[pi p2.kind, pi p2.scale, .ro (eField.els p2.fields)]] 0 0))), (4, .one (.pt 0 0 0 0)), (7, .one (.pt 1 0 0 0)), (60, vi (p1.fields.length : Int)), (61, vi x4)] [.box [ci (0 : Int), ci (0 : Int), .pv (.s (.slice none 0 0))], .box [ci p1.kind, ci (0 : Int), .sl 2 6 0 ((l1 ++ [(FieldP.mk (0 : Int) e1.name e2.need r3.1)]).length)], .arr 6 (eField.els (l1 ++ [(FieldP.mk (0 : Int) e1.name e2.need r3.1)])), .box [ci r3.1.kind, ci r3.1.scale, cl eField r3.1.fields], .dead] [] (by kernel_rfl) trivial ?_
                      refine XO.done (by kernel_rfl) ?_
                      exact hJ5 (l1 ++ [(FieldP.mk (0 : Int) e1.name e2.need r3.1)]) h _ _ (Sub.trans (Sub.pick (fr' := [(2, .one (.pv (.rp [[pi p1.kind, pi p1.scale, .ro (eField.els p1.fields)]] 0 0))), (3, .one (.pv (.rp [[pi p2.kind, pi p2.scale, .ro (eField.els p2.fields)]] 0 0))), (4, .one (.pt 0 0 0 0)), (7, .one (.pt 1 0 0 0)), (60, vi (p1.fields.length : Int)), (61, vi x4)]) [2,3,4,7,60,61] (by kernel_rfl)) (Sub.take (fr' := [(2, .one (.pv (.rp [[pi p1.kind, pi p1.scale, .ro (eField.els p1.fields)]] 0 0))), (3, .one (.pv (.rp [[pi p2.kind, pi p2.scale, .ro (eField.els p2.fields)]] 0 0))), (4, .one (.pt 0 0 0 0)), (7, .one (.pt 1 0 0 0)), (60, vi (p1.fields.length : Int)), (61, vi x4)]) 3 (Nat.zero_le _) (by kernel_rfl) (by kernel_rfl)))
                    · have h := ift_f b39 h
                      obtain ⟨g41, h⟩ := grd_some h
                      refine XW.drwS 25 [(107, vl eField [(FieldP.mk (0 : Int) e1.name false r3.1)]), (106, .ag [ci (0 : Int), cst e1.name, cb false, ci r3.1.kind, ci r3.1.scale, cl eField r3.1.fields]), (105, .ag [ci r3.1.kind, ci r3.1.scale, cl eField r3.1.fields]), (104, vb false), (103, .tp []), (102, .tp []), (101, .tp []), (100, .tp []), (99, .tp []), (98, .tp []), (97, vb false), (96, vb e1.need), (95, .one (.pv (.rp (eField.els p1.fields) x4.toNat 2))), (94, .one (.pv (.rp (eField.els p1.fields) x4.toNat 0))), (93, vi x4), (92, vl eField p1.fields), (91, .one (.pv (.rp [[pi p1.kind, pi p1.scale, .ro (eField.els p1.fields)]] 0 2))), (90, vs e1.name), (89, .one (.pv (.rp (eField.els p1.fields) x4.toNat 1))), (88, .one (.pv (.rp (eField.els p1.fields) x4.toNat 0))), (87, vi x4), (86, vl eField p1.fields), (85, .one (.pv (.rp [[pi p1.kind, pi p1.scale, .ro (eField.els p1.fields)]] 0 2))), (84, .one (.sl 2 6 0 l1.length)), (83, .one (.pt 1 0 0 2)), (2, .one (.pv (.rp [[pi p1.kind, pi p1.scale, .ro (eField.els p1.fields)]] 0 0))), (3, .one (.pv (.rp [[pi p2.kind, pi p2.scale, .ro (eField.els p2.fields)]] 0 0))), (4, .one (.pt 0 0 0 0)), (7, .one (.pt 1 0 0 0)), (8, vi x4), (9, .one (.pt 3 0 0 0)), (60, vi (p1.fields.length : Int)), (61, vi x4), (81, vb (!r3.2))] (by kernel_rfl) (by kernel_rfl) ?_ ?_
                      · refine DX.go 15 [[pi p1.kind, pi p1.scale, .ro (eField.els p1.fields)], [pi e1.id, .s (.string e1.name), .s (.bool e1.need), pi e1.type.kind, pi e1.type.scale, .ro (eField.els e1.type.fields)], [pi p1.kind, pi p1.scale, .ro (eField.els p1.fields)], [pi e1.id, .s (.string e1.name), .s (.bool e1.need), pi e1.type.kind, pi e1.type.scale, .ro (eField.els e1.type.fields)]] [(97, vb e1.need), (96, vb e1.need), (95, .one (.pv (.rp (eField.els p1.fields) x4.toNat 2))), (94, .one (.pv (.rp (eField.els p1.fields) x4.toNat 0))), (93, vi x4), (92, vl eField p1.fields), (91, .one (.pv (.rp [[pi p1.kind, pi p1.scale, .ro (eField.els p1.fields)]] 0 2))), (90, vs e1.name), (89, .one (.pv (.rp (eField.els p1.fields) x4.toNat 1))), (88, .one (.pv (.rp (eField.els p1.fields) x4.toNat 0))), (87, vi x4), (86, vl eField p1.fields), (85, .one (.pv (.rp [[pi p1.kind, pi p1.scale, .ro (eField.els p1.fields)]] 0 2))), (84, .one (.sl 2 6 0 l1.length)), (83, .one (.pt 1 0 0 2)), (2, .one (.pv (.rp [[pi p1.kind, pi p1.scale, .ro (eField.els p1.fields)]] 0 0))), (3, .one (.pv (.rp [[pi p2.kind, pi p2.scale, .ro (eField.els p2.fields)]] 0 0))), (4, .one (.pt 0 0 0 0)), (7, .one (.pt 1 0 0 0)), (8, vi x4), (9, .one (.pt 3 0 0 0)), (60, vi (p1.fields.length : Int)), (61, vi x4), (81, vb (!r3.2))] [([[pi p1.kind, pi p1.scale, .ro (eField.els p1.fields)]] : List (List PV))[0]? = some [pi p1.kind, pi p1.scale, .ro (eField.els p1.fields)], 0 ≤ x4 ∧ x4 < ((eField.els p1.fields).length : Int) ∧ elemsOk 6 (eField.els p1.fields), (eField.els p1.fields)[x4.toNat]? = some [pi e1.id, .s (.string e1.name), .s (.bool e1.need), pi e1.type.kind, pi e1.type.scale, .ro (eField.els e1.type.fields)], ([[pi p1.kind, pi p1.scale, .ro (eField.els p1.fields)]] : List (List PV))[0]? = some [pi p1.kind, pi p1.scale, .ro (eField.els p1.fields)], 0 ≤ x4 ∧ x4 < ((eField.els p1.fields).length : Int) ∧ elemsOk 6 (eField.els p1.fields), (eField.els p1.fields)[x4.toNat]? = some [pi e1.id, .s (.string e1.name), .s (.bool e1.need), pi e1.type.kind, pi e1.type.scale, .ro (eField.els e1.type.fields)]] (by kernel_rfl) (⟨rfl, eField.inb a32, ((eField.get a32).trans (by rcases e1 with ⟨_, _, _, ⟨_, _, _⟩⟩; rfl)), rfl, eField.inb a32, ((eField.get a32).trans (by rcases e1 with ⟨_, _, _, ⟨_, _, _⟩⟩; rfl)), trivial⟩) ?_
                        refine DX.eq (fr1 := [(97, vb false), (96, vb e1.need), (95, .one (.pv (.rp (eField.els p1.fields) x4.toNat 2))), (94, .one (.pv (.rp (eField.els p1.fields) x4.toNat 0))), (93, vi x4), (92, vl eField p1.fields), (91, .one (.pv (.rp [[pi p1.kind, pi p1.scale, .ro (eField.els p1.fields)]] 0 2))), (90, vs e1.name), (89, .one (.pv (.rp (eField.els p1.fields) x4.toNat 1))), (88, .one (.pv (.rp (eField.els p1.fields) x4.toNat 0))), (87, vi x4), (86, vl eField p1.fields), (85, .one (.pv (.rp [[pi p1.kind, pi p1.scale, .ro (eField.els p1.fields)]] 0 2))), (84, .one (.sl 2 6 0 l1.length)), (83, .one (.pt 1 0 0 2)), (2, .one (.pv (.rp [[pi p1.kind, pi p1.scale, .ro (eField.els p1.fields)]] 0 0))), (3, .one (.pv (.rp [[pi p2.kind, pi p2.scale, .ro (eField.els p2.fields)]] 0 0))), (4, .one (.pt 0 0 0 0)), (7, .one (.pt 1 0 0 0)), (8, vi x4), (9, .one (.pt 3 0 0 0)), (60, vi (p1.fields.length : Int)), (61, vi x4), (81, vb (!r3.2))]) (by rw [b39]) ?_
                        refine DX.go 10 [] [(107, .one (.pv (.ro [[pi (0 : Int), .s (.string e1.name), .s (.bool false), pi r3.1.kind, pi r3.1.scale, .ro (eField.els r3.1.fields)]]))), (106, .ag [ci (0 : Int), cst e1.name, cb false, ci r3.1.kind, ci r3.1.scale, cl eField r3.1.fields]), (105, .ag [ci r3.1.kind, ci r3.1.scale, cl eField r3.1.fields]), (104, vb false), (103, .tp []), (102, .tp []), (101, .tp []), (100, .tp []), (99, .tp []), (98, .tp []), (97, vb false), (96, vb e1.need), (95, .one (.pv (.rp (eField.els p1.fields) x4.toNat 2))), (94, .one (.pv (.rp (eField.els p1.fields) x4.toNat 0))), (93, vi x4), (92, vl eField p1.fields), (91, .one (.pv (.rp [[pi p1.kind, pi p1.scale, .ro (eField.els p1.fields)]] 0 2))), (90, vs e1.name), (89, .one (.pv (.rp (eField.els p1.fields) x4.toNat 1))), (88, .one (.pv (.rp (eField.els p1.fields) x4.toNat 0))), (87, vi x4), (86, vl eField p1.fields), (85, .one (.pv (.rp [[pi p1.kind, pi p1.scale, .ro (eField.els p1.fields)]] 0 2))), (84, .one (.sl 2 6 0 l1.length)), (83, .one (.pt 1 0 0 2)), (2, .one (.pv (.rp [[pi p1.kind, pi p1.scale, .ro (eField.els p1.fields)]] 0 0))), (3, .one (.pv (.rp [[pi p2.kind, pi p2.scale, .ro (eField.els p2.fields)]] 0 0))), (4, .one (.pt 0 0 0 0)), (7, .one (.pt 1 0 0 0)), (8, vi x4), (9, .one (.pt 3 0 0 0)), (60, vi (p1.fields.length : Int)), (61, vi x4), (81, vb (!r3.2))] [] (by kernel_rfl) trivial ?_
                        rw [show ([[pi (0 : Int), .s (.string e1.name), .s (.bool false), pi r3.1.kind, pi r3.1.scale, .ro (eField.els r3.1.fields)]] : List (List PV)) = eField.els [(FieldP.mk (0 : Int) e1.name false r3.1)] from by rcases e1 with ⟨_, _, _, ⟨_, _, _⟩⟩; rcases r3 with ⟨⟨_, _, _⟩, _⟩; rfl]
                        exact DX.done (by kernel_rfl)
                      refine XO.sub (Sub.stale 1 2 2 6 0 l1.length [ci p1.kind, ci (0 : Int), .sl 2 6 0 l1.length] rfl rfl [.box [ci (0 : Int), ci (0 : Int), .pv (.s (.slice none 0 0))], .box [ci p1.kind, ci (0 : Int), .sl 4 6 0 l1.length], .arr 6 (eField.els l1), .box [ci r3.1.kind, ci r3.1.scale, cl eField r3.1.fields], .dead] rfl) ?_
                      refine XO.go [4, 6, 7, 9] 1 [2,3,4,7,60,61,108] [] [(2, .one (.pv (.rp [[pi p1.kind, pi p1.scale, .ro (eField.els p1.fields)]] 0 0))), (3, .one (.pv (.rp [[pi p2.kind, pi p2.scale, .ro (eField.els p2.fields)]] 0 0))), (4, .one (.pt 0 0 0 0)), (7, .one (.pt 1 0 0 0)), (60, vi (p1.fields.length : Int)), (61, vi x4), (108, .one (.sl 2 6 0 (l1.length + (eField.els [(FieldP.mk (0 : Int) e1.name false r3.1)]).length)))] [.box [ci (0 : Int), ci (0 : Int), .pv (.s (.slice none 0 0))], .box [ci p1.kind, ci (0 : Int), .sl 4 6 0 l1.length], .arr 6 (eField.els l1 ++ eField.els [(FieldP.mk (0 : Int) e1.name false r3.1)]), .box [ci r3.1.kind, ci r3.1.scale, cl eField r3.1.fields], .dead] [elemsOk 6 (eField.els [(FieldP.mk (0 : Int) e1.name false r3.1)]), l1.length = (eField.els l1).length, l1.length + (eField.els [(FieldP.mk (0 : Int) e1.name false r3.1)]).length ≤ 4294967296] (by kernel_rfl) (⟨eField.ok _, (eField.len l1).symm, g41, trivial⟩) ?_
                      rw [show l1.length + (eField.els [(FieldP.mk (0 : Int) e1.name false r3.1)]).length = (l1 ++ [(FieldP.mk (0 : Int) e1.name false r3.1)]).length from eField.lapp _ _]
                      rw [show eField.els l1 ++ eField.els [(FieldP.mk (0 : Int) e1.name false r3.1)] = eField.els (l1 ++ [(FieldP.mk (0 : Int) e1.name false r3.1)]) from eField.app2 _ _]
                      refine XO.go [4, 6, 7, 9] 2 [2,3,4,7,60,61] [] [(2, .one (.pv (.rp [[pi p1.kind, pi p1.scale, .ro (eField.els p1.fields)]] 0 0))), (3, .one (.pv (.rp [[pi p2.kind, pi p2.scale, .ro (eField.els p2.fields)]] 0 0))), (4, .one (.pt 0 0 0 0)), (7, .one (.pt 1 0 0 0)), (60, vi (p1.fields.length : Int)), (61, vi x4)] [.box [ci (0 : Int), ci (0 : Int), .pv (.s (.slice none 0 0))], .box [ci p1.kind, ci (0 : Int), .sl 2 6 0 ((l1 ++ [(FieldP.mk (0 : Int) e1.name false r3.1)]).length)], .arr 6 (eField.els (l1 ++ [(FieldP.mk (0 : Int) e1.name false r3.1)])), .box [ci r3.1.kind, ci r3.1.scale, cl eField r3.1.fields], .dead] [] (by kernel_rfl) trivial ?_
                      refine XO.done (by kernel_rfl) ?_
                      exact hJ5 (l1 ++ [(FieldP.mk (0 : Int) e1.name false r3.1)]) h _ _ (Sub.trans (Sub.pick (fr' := [(2, .one (.pv (.rp [[pi p1.kind, pi p1.scale, .ro (eField.els p1.fields)]] 0 0))), (3, .one (.pv (.rp [[pi p2.kind, pi p2.scale, .ro (eField.els p2.fields)]] 0 0))), (4, .one (.pt 0 0 0 0)), (7, .one (.pt 1 0 0 0)), (60, vi (p1.fields.length : Int)), (61, vi x4)]) [2,3,4,7,60,61] (by kernel_rfl)) (Sub.take (fr' := [(2, .one (.pv (.rp [[pi p1.kind, pi p1.scale, .ro (eField.els p1.fields)]] 0 0))), (3, .one (.pv (.rp [[pi p2.kind, pi p2.scale, .ro (eField.els p2.fields)]] 0 0))), (4, .one (.pt 0 0 0 0)), (7, .one (.pt 1 0 0 0)), (60, vi (p1.fields.length : Int)), (61, vi x4)]) 3 (Nat.zero_le _) (by kernel_rfl) (by kernel_rfl)))
                · have h := ift_f b28 h
                  refine XW.exit (id := 0) (by kernel_rfl) ?_
                  refine hQ1 _ _ _ ?_
                  exact hJ6 l1 h _ _ (Sub.pick [4,7] (by kernel_rfl))
            exact XR.sub (Sub.pick [2,3,4,7,60,61] (by kernel_rfl)) (hL1 BIG [] (0 : Int) h)
        rcases Bool.eq_false_or_eq_true (p1.kind != p2.kind) with b20 | b20
        · have h := ift_t b20 h
          refine XW.reg (by kernel_rfl) ?_
          refine XO.go [4, 6, 7, 9] 6 [2,3,4,45] [[pi p1.kind, pi p1.scale, .ro (eField.els p1.fields)], [pi p2.kind, pi p2.scale, .ro (eField.els p2.fields)]] [(2, .one (.pv (.rp [[pi p1.kind, pi p1.scale, .ro (eField.els p1.fields)]] 0 0))), (3, .one (.pv (.rp [[pi p2.kind, pi p2.scale, .ro (eField.els p2.fields)]] 0 0))), (4, .one (.pt 0 0 0 0)), (45, vb (p1.kind != p2.kind))] [.box [ci (0 : Int), ci (0 : Int), .pv (.s (.slice none 0 0))]] [([[pi p1.kind, pi p1.scale, .ro (eField.els p1.fields)]] : List (List PV))[0]? = some [pi p1.kind, pi p1.scale, .ro (eField.els p1.fields)], ([[pi p2.kind, pi p2.scale, .ro (eField.els p2.fields)]] : List (List PV))[0]? = some [pi p2.kind, pi p2.scale, .ro (eField.els p2.fields)]] (by kernel_rfl) (⟨rfl, rfl, trivial⟩) ?_
          refine XO.setb 45 true (B := (p1.kind != p2.kind)) rfl b20 ?_
          refine XO.go [4, 6, 7, 9] 8 [2,3,4,53] [] [(2, .one (.pv (.rp [[pi p1.kind, pi p1.scale, .ro (eField.els p1.fields)]] 0 0))), (3, .one (.pv (.rp [[pi p2.kind, pi p2.scale, .ro (eField.els p2.fields)]] 0 0))), (4, .one (.pt 0 0 0 0)), (53, vb true)] [.box [ci (0 : Int), ci (0 : Int), .pv (.s (.slice none 0 0))]] [] (by kernel_rfl) trivial ?_
          refine XO.done (by kernel_rfl) ?_
          exact hJ4 true h _ _ (Sub.pick [2,3,4,53] (by kernel_rfl))
        · have h := ift_f b20 h
          refine XW.reg (by kernel_rfl) ?_
          refine XO.go [4, 6, 7, 9] 6 [2,3,4,45] [[pi p1.kind, pi p1.scale, .ro (eField.els p1.fields)], [pi p2.kind, pi p2.scale, .ro (eField.els p2.fields)]] [(2, .one (.pv (.rp [[pi p1.kind, pi p1.scale, .ro (eField.els p1.fields)]] 0 0))), (3, .one (.pv (.rp [[pi p2.kind, pi p2.scale, .ro (eField.els p2.fields)]] 0 0))), (4, .one (.pt 0 0 0 0)), (45, vb (p1.kind != p2.kind))] [.box [ci (0 : Int), ci (0 : Int), .pv (.s (.slice none 0 0))]] [([[pi p1.kind, pi p1.scale, .ro (eField.els p1.fields)]] : List (List PV))[0]? = some [pi p1.kind, pi p1.scale, .ro (eField.els p1.fields)], ([[pi p2.kind, pi p2.scale, .ro (eField.els p2.fields)]] : List (List PV))[0]? = some [pi p2.kind, pi p2.scale, .ro (eField.els p2.fields)]] (by kernel_rfl) (⟨rfl, rfl, trivial⟩) ?_
          refine XO.setb 45 false (B := (p1.kind != p2.kind)) rfl b20 ?_
          refine XO.go [4, 6, 7, 9] 3 [2,3,4,45,48] [[pi p1.kind, pi p1.scale, .ro (eField.els p1.fields)]] [(2, .one (.pv (.rp [[pi p1.kind, pi p1.scale, .ro (eField.els p1.fields)]] 0 0))), (3, .one (.pv (.rp [[pi p2.kind, pi p2.scale, .ro (eField.els p2.fields)]] 0 0))), (4, .one (.pt 0 0 0 0)), (45, vb false), (48, vi ((eField.els p1.fields).length : Int))] [.box [ci (0 : Int), ci (0 : Int), .pv (.s (.slice none 0 0))]] [([[pi p1.kind, pi p1.scale, .ro (eField.els p1.fields)]] : List (List PV))[0]? = some [pi p1.kind, pi p1.scale, .ro (eField.els p1.fields)]] (by kernel_rfl) (⟨rfl, trivial⟩) ?_
          rw [eField.len p1.fields]
          refine XO.go [4, 6, 7, 9] 3 [2,3,4,45,48,51] [[pi p2.kind, pi p2.scale, .ro (eField.els p2.fields)]] [(2, .one (.pv (.rp [[pi p1.kind, pi p1.scale, .ro (eField.els p1.fields)]] 0 0))), (3, .one (.pv (.rp [[pi p2.kind, pi p2.scale, .ro (eField.els p2.fields)]] 0 0))), (4, .one (.pt 0 0 0 0)), (45, vb false), (48, vi (p1.fields.length : Int)), (51, vi ((eField.els p2.fields).length : Int))] [.box [ci (0 : Int), ci (0 : Int), .pv (.s (.slice none 0 0))]] [([[pi p2.kind, pi p2.scale, .ro (eField.els p2.fields)]] : List (List PV))[0]? = some [pi p2.kind, pi p2.scale, .ro (eField.els p2.fields)]] (by kernel_rfl) (⟨rfl, trivial⟩) ?_
          rw [eField.len p2.fields]
          refine XO.go [4, 6, 7, 9] 2 [2,3,4,53] [] [(2, .one (.pv (.rp [[pi p1.kind, pi p1.scale, .ro (eField.els p1.fields)]] 0 0))), (3, .one (.pv (.rp [[pi p2.kind, pi p2.scale, .ro (eField.els p2.fields)]] 0 0))), (4, .one (.pt 0 0 0 0)), (53, vb ((p1.fields.length : Int) != (p2.fields.length : Int)))] [.box [ci (0 : Int), ci (0 : Int), .pv (.s (.slice none 0 0))]] [] (by kernel_rfl) trivial ?_
          refine XO.done (by kernel_rfl) ?_
          exact hJ4 ((p1.fields.length : Int) != (p2.fields.length : Int)) h _ _ (Sub.pick [2,3,4,53] (by kernel_rfl))
    obtain ⟨r1, c4, h⟩ := bnd_some h
    rcases Bool.eq_false_or_eq_true r1 with b5 | b5
    · have h := ift_t b5 h
      obtain ⟨r2, c6, h⟩ := bnd_some h
      refine XW.reg (by kernel_rfl) ?_
      refine XO.go [4, 6, 7, 9] 2 [2,3,4,12] [[pi p1.kind, pi p1.scale, .ro (eField.els p1.fields)]] [(2, .one (.pv (.rp [[pi p1.kind, pi p1.scale, .ro (eField.els p1.fields)]] 0 0))), (3, .one (.pv (.rp [[pi p2.kind, pi p2.scale, .ro (eField.els p2.fields)]] 0 0))), (4, .one (.pt 0 0 0 0)), (12, vi p1.kind)] [.box [ci (0 : Int), ci (0 : Int), .pv (.s (.slice none 0 0))]] [([[pi p1.kind, pi p1.scale, .ro (eField.els p1.fields)]] : List (List PV))[0]? = some [pi p1.kind, pi p1.scale, .ro (eField.els p1.fields)]] (by kernel_rfl) (⟨rfl, trivial⟩) ?_
      refine XO.cal 72 [vi p1.kind] (vb r1) [(13, vb r1), (2, .one (.pv (.rp [[pi p1.kind, pi p1.scale, .ro (eField.els p1.fields)]] 0 0))), (3, .one (.pv (.rp [[pi p2.kind, pi p2.scale, .ro (eField.els p2.fields)]] 0 0))), (4, .one (.pt 0 0 0 0)), (12, vi p1.kind)] (by kernel_rfl) (c_ref1_isNumber _ _ c4) rfl rfl (by kernel_rfl) ?_
      refine XO.go [4, 6, 7, 9] 1 [2,3,4,14] [] [(2, .one (.pv (.rp [[pi p1.kind, pi p1.scale, .ro (eField.els p1.fields)]] 0 0))), (3, .one (.pv (.rp [[pi p2.kind, pi p2.scale, .ro (eField.els p2.fields)]] 0 0))), (4, .one (.pt 0 0 0 0)), (14, vb r1)] [.box [ci (0 : Int), ci (0 : Int), .pv (.s (.slice none 0 0))]] [] (by kernel_rfl) trivial ?_
      refine XO.setb 14 true (B := r1) rfl b5 ?_
      refine XO.go [4, 6, 7, 9] 2 [2,3,4,14,16] [[pi p2.kind, pi p2.scale, .ro (eField.els p2.fields)]] [(2, .one (.pv (.rp [[pi p1.kind, pi p1.scale, .ro (eField.els p1.fields)]] 0 0))), (3, .one (.pv (.rp [[pi p2.kind, pi p2.scale, .ro (eField.els p2.fields)]] 0 0))), (4, .one (.pt 0 0 0 0)), (14, vb true), (16, vi p2.kind)] [.box [ci (0 : Int), ci (0 : Int), .pv (.s (.slice none 0 0))]] [([[pi p2.kind, pi p2.scale, .ro (eField.els p2.fields)]] : List (List PV))[0]? = some [pi p2.kind, pi p2.scale, .ro (eField.els p2.fields)]] (by kernel_rfl) (⟨rfl, trivial⟩) ?_
      refine XO.cal 72 [vi p2.kind] (vb r2) [(17, vb r2), (2, .one (.pv (.rp [[pi p1.kind, pi p1.scale, .ro (eField.els p1.fields)]] 0 0))), (3, .one (.pv (.rp [[pi p2.kind, pi p2.scale, .ro (eField.els p2.fields)]] 0 0))), (4, .one (.pt 0 0 0 0)), (14, vb true), (16, vi p2.kind)] (by kernel_rfl) (c_ref1_isNumber _ _ c6) rfl rfl (by kernel_rfl) ?_
      refine XO.go [4, 6, 7, 9] 1 [2,3,4,18] [] [(2, .one (.pv (.rp [[pi p1.kind, pi p1.scale, .ro (eField.els p1.fields)]] 0 0))), (3, .one (.pv (.rp [[pi p2.kind, pi p2.scale, .ro (eField.els p2.fields)]] 0 0))), (4, .one (.pt 0 0 0 0)), (18, vb r2)] [.box [ci (0 : Int), ci (0 : Int), .pv (.s (.slice none 0 0))]] [] (by kernel_rfl) trivial ?_
      refine XO.done (by kernel_rfl) ?_
      exact hJ1 r2 h _ _ (Sub.pick [2,3,4,18] (by kernel_rfl))
    · have h := ift_f b5 h
      refine XW.reg (by kernel_rfl) ?_
      refine XO.go [4, 6, 7, 9] 2 [2,3,4,12] [[pi p1.kind, pi p1.scale, .ro (eField.els p1.fields)]] [(2, .one (.pv (.rp [[pi p1.kind, pi p1.scale, .ro (eField.els p1.fields)]] 0 0))), (3, .one (.pv (.rp [[pi p2.kind, pi p2.scale, .ro (eField.els p2.fields)]] 0 0))), (4, .one (.pt 0 0 0 0)), (12, vi p1.kind)] [.box [ci (0 : Int), ci (0 : Int), .pv (.s (.slice none 0 0))]] [([[pi p1.kind, pi p1.scale, .ro (eField.els p1.fields)]] : List (List PV))[0]? = some [pi p1.kind, pi p1.scale, .ro (eField.els p1.fields)]] (by kernel_rfl) (⟨rfl, trivial⟩) ?_
      refine XO.cal 72 [vi p1.kind] (vb r1) [(13, vb r1), (2, .one (.pv (.rp [[pi p1.kind, pi p1.scale, .ro (eField.els p1.fields)]] 0 0))), (3, .one (.pv (.rp [[pi p2.kind, pi p2.scale, .ro (eField.els p2.fields)]] 0 0))), (4, .one (.pt 0 0 0 0)), (12, vi p1.kind)] (by kernel_rfl) (c_ref1_isNumber _ _ c4) rfl rfl (by kernel_rfl) ?_
      refine XO.go [4, 6, 7, 9] 1 [2,3,4,14] [] [(2, .one (.pv (.rp [[pi p1.kind, pi p1.scale, .ro (eField.els p1.fields)]] 0 0))), (3, .one (.pv (.rp [[pi p2.kind, pi p2.scale, .ro (eField.els p2.fields)]] 0 0))), (4, .one (.pt 0 0 0 0)), (14, vb r1)] [.box [ci (0 : Int), ci (0 : Int), .pv (.s (.slice none 0 0))]] [] (by kernel_rfl) trivial ?_
      refine XO.setb 14 false (B := r1) rfl b5 ?_
      refine XO.go [4, 6, 7, 9] 4 [2,3,4,18] [] [(2, .one (.pv (.rp [[pi p1.kind, pi p1.scale, .ro (eField.els p1.fields)]] 0 0))), (3, .one (.pv (.rp [[pi p2.kind, pi p2.scale, .ro (eField.els p2.fields)]] 0 0))), (4, .one (.pt 0 0 0 0)), (18, vb false)] [.box [ci (0 : Int), ci (0 : Int), .pv (.s (.slice none 0 0))]] [] (by kernel_rfl) trivial ?_
      refine XO.done (by kernel_rfl) ?_
      exact hJ1 false h _ _ (Sub.pick [2,3,4,18] (by kernel_rfl))

def ref1_Common (p1 : GType) (p2 : GType) : Option (GType × Int) :=
    bnd (ref1_CheckType p1) fun r1 =>
    ift (r1 != (0 : Int))
      (some ((GType.mk (0 : Int) (0 : Int) []), r1))
      (bnd (ref1_CheckType p2) fun r2 =>
       ift (r2 != (0 : Int))
         (some ((GType.mk (0 : Int) (0 : Int) []), r2))
         (bnd (ref1_common BIG p1 p2) fun r3 =>
          ift (!r3.2)
            (some ((GType.mk (0 : Int) (0 : Int) []), (2 : Int)))
            (some (r3.1, (0 : Int)))))


theorem c_ref1_Common (p1 : GType) (p2 : GType) (r : (GType × Int)) (h : ref1_Common p1 p2 = some r) : PC Try.prog 10 [.ag [ci p1.kind, ci p1.scale, cl eField p1.fields], .ag [ci p2.kind, ci p2.scale, cl eField p2.fields]] (.tp [.ag [ci r.1.kind, ci r.1.scale, cl eField r.1.fields], vi r.2]) := by
  unfold ref1_Common at h
  refine PC.of (n := 32) (fn := Try.f10) (c := cd Try.f10 []) (by kernel_rfl) (by kernel_rfl) (by kernel_rfl) (Nat.le_of_ble_eq_true rfl) ?_
  refine XW.seq (x := cd Try.f10 [0]) (y := cd Try.f10 [1]) (by kernel_rfl) fun K1 hK1 => ?_
  refine XW.reg (by kernel_rfl) ?_
  refine XO.go [4, 8] 4 [2,3,4] [] [(2, .one (.pv (.rp [[pi p1.kind, pi p1.scale, .ro (eField.els p1.fields)]] 0 0))), (3, .one (.pv (.rp [[pi p2.kind, pi p2.scale, .ro (eField.els p2.fields)]] 0 0))), (4, .one (.pt 0 0 0 0))] [.box [ci (0 : Int), ci (0 : Int), .pv (.s (.slice none 0 0))]] [] (by kernel_rfl) trivial ?_
  refine XO.done (by kernel_rfl) ?_
  refine hK1 _ _ ?_
  refine XW.seq (x := cd Try.f10 [1,0]) (y := cd Try.f10 [1,1]) (by kernel_rfl) fun K2 hK2 => ?_
  refine XW.seq (x := cd Try.f10 [1,0,0]) (y := cd Try.f10 [1,0,1]) (by kernel_rfl) fun K3 hK3 => ?_
  obtain ⟨r1, c4, h⟩ := bnd_some h
  refine XW.reg (by kernel_rfl) ?_
  refine XO.go [4, 8] 1 [2,3,4,10] [[pi p1.kind, pi p1.scale, .ro (eField.els p1.fields)]] [(2, .one (.pv (.rp [[pi p1.kind, pi p1.scale, .ro (eField.els p1.fields)]] 0 0))), (3, .one (.pv (.rp [[pi p2.kind, pi p2.scale, .ro (eField.els p2.fields)]] 0 0))), (4, .one (.pt 0 0 0 0)), (10, .ag [ci p1.kind, ci p1.scale, cl eField p1.fields])] [.box [ci (0 : Int), ci (0 : Int), .pv (.s (.slice none 0 0))]] [([[pi p1.kind, pi p1.scale, .ro (eField.els p1.fields)]] : List (List PV))[0]? = some [pi p1.kind, pi p1.scale, .ro (eField.els p1.fields)]] (by kernel_rfl) (⟨rfl, trivial⟩) ?_
  refine XO.cal 12 [.ag [ci p1.kind, ci p1.scale, cl eField p1.fields]] (vi r1) [(11, vi r1), (2, .one (.pv (.rp [[pi p1.kind, pi p1.scale, .ro (eField.els p1.fields)]] 0 0))), (3, .one (.pv (.rp [[pi p2.kind, pi p2.scale, .ro (eField.els p2.fields)]] 0 0))), (4, .one (.pt 0 0 0 0)), (10, .ag [ci p1.kind, ci p1.scale, cl eField p1.fields])] (by kernel_rfl) (c_ref1_CheckType _ _ c4) rfl rfl (by kernel_rfl) ?_
  refine XO.go [4, 8] 1 [2,3,4,6] [] [(2, .one (.pv (.rp [[pi p1.kind, pi p1.scale, .ro (eField.els p1.fields)]] 0 0))), (3, .one (.pv (.rp [[pi p2.kind, pi p2.scale, .ro (eField.els p2.fields)]] 0 0))), (4, .one (.pt 0 0 0 0)), (6, vi r1)] [.box [ci (0 : Int), ci (0 : Int), .pv (.s (.slice none 0 0))]] [] (by kernel_rfl) trivial ?_
  refine XO.done (by kernel_rfl) ?_
  refine hK3 _ _ ?_
  refine XW.seq (x := cd Try.f10 [1,0,1,0]) (y := cd Try.f10 [1,0,1,1]) (by kernel_rfl) fun K5 hK5 => ?_
  refine XW.reg (by kernel_rfl) ?_
  refine XO.go [4, 8] 2 [2,3,4,6,13] [] [(2, .one (.pv (.rp [[pi p1.kind, pi p1.scale, .ro (eField.els p1.fields)]] 0 0))), (3, .one (.pv (.rp [[pi p2.kind, pi p2.scale, .ro (eField.els p2.fields)]] 0 0))), (4, .one (.pt 0 0 0 0)), (6, vi r1), (13, vb (r1 != (0 : Int)))] [.box [ci (0 : Int), ci (0 : Int), .pv (.s (.slice none 0 0))]] [] (by kernel_rfl) trivial ?_
  refine XO.done (by kernel_rfl) ?_
  refine hK5 _ _ ?_
  refine XW.cond (x := .tmp 13) (a := cd Try.f10 [1,0,1,1,0]) (b := cd Try.f10 [1,0,1,1,1]) (t := (r1 != (0 : Int))) (by kernel_rfl) (by kernel_rfl) (fun b6 => ?_) (fun b6 => ?_)
  · have h := ift_t b6 h
    refine XW.seq (x := cd Try.f10 [1,0,1,1,0,0]) (y := cd Try.f10 [1,0,1,1,0,1]) (by kernel_rfl) fun K7 hK7 => ?_
    refine XW.reg (by kernel_rfl) ?_
    refine XO.go [4, 8] 4 [4,5] [] [(4, .one (.pt 0 0 0 0)), (5, vi r1)] [.box [ci (0 : Int), ci (0 : Int), .pv (.s (.slice none 0 0))]] [] (by kernel_rfl) trivial ?_
    refine XO.done (by kernel_rfl) ?_
    refine hK7 _ _ ?_
    refine XW.ret (by kernel_rfl) ?_
    obtain rfl := Option.some.inj h
    exact FinP.fin (.inr rfl) [] [.ag [ci (0 : Int), ci (0 : Int), .pv (.s (.slice none 0 0))], vi r1] [] (by kernel_rfl) trivial (.tpc (.ag (.cons (.rfl _ rfl) (.cons (.rfl _ rfl) (.cons (.nl) .nil)))) (.tpc (.one (.rfl _ rfl)) (.tp0)))
  · have h := ift_f b6 h
    refine XW.skip (by kernel_rfl) ?_
    refine hK2 _ _ ?_
    refine XW.seq (x := cd Try.f10 [1,1,0]) (y := cd Try.f10 [1,1,1]) (by kernel_rfl) fun K8 hK8 => ?_
    refine XW.seq (x := cd Try.f10 [1,1,0,0]) (y := cd Try.f10 [1,1,0,1]) (by kernel_rfl) fun K9 hK9 => ?_
    obtain ⟨r2, c10, h⟩ := bnd_some h
    refine XW.reg (by kernel_rfl) ?_
    refine XO.go [4, 8] 1 [2,3,4,16] [[pi p2.kind, pi p2.scale, .ro (eField.els p2.fields)]] [(2, .one (.pv (.rp [[pi p1.kind, pi p1.scale, .ro (eField.els p1.fields)]] 0 0))), (3, .one (.pv (.rp [[pi p2.kind, pi p2.scale, .ro (eField.els p2.fields)]] 0 0))), (4, .one (.pt 0 0 0 0)), (16, .ag [ci p2.kind, ci p2.scale, cl eField p2.fields])] [.box [ci (0 : Int), ci (0 : Int), .pv (.s (.slice none 0 0))]] [([[pi p2.kind, pi p2.scale, .ro (eField.els p2.fields)]] : List (List PV))[0]? = some [pi p2.kind, pi p2.scale, .ro (eField.els p2.fields)]] (by kernel_rfl) (⟨rfl, trivial⟩) ?_
    refine XO.cal 12 [.ag [ci p2.kind, ci p2.scale, cl eField p2.fields]] (vi r2) [(17, vi r2), (2, .one (.pv (.rp [[pi p1.kind, pi p1.scale, .ro (eField.els p1.fields)]] 0 0))), (3, .one (.pv (.rp [[pi p2.kind, pi p2.scale, .ro (eField.els p2.fields)]] 0 0))), (4, .one (.pt 0 0 0 0)), (16, .ag [ci p2.kind, ci p2.scale, cl eField p2.fields])] (by kernel_rfl) (c_ref1_CheckType _ _ c10) rfl rfl (by kernel_rfl) ?_
    refine XO.go [4, 8] 1 [2,3,4,7] [] [(2, .one (.pv (.rp [[pi p1.kind, pi p1.scale, .ro (eField.els p1.fields)]] 0 0))), (3, .one (.pv (.rp [[pi p2.kind, pi p2.scale, .ro (eField.els p2.fields)]] 0 0))), (4, .one (.pt 0 0 0 0)), (7, vi r2)] [.box [ci (0 : Int), ci (0 : Int), .pv (.s (.slice none 0 0))]] [] (by kernel_rfl) trivial ?_
    refine XO.done (by kernel_rfl) ?_
    refine hK9 _ _ ?_
    refine XW.seq (x := cd Try.f10 [1,1,0,1,0]) (y := cd Try.f10 [1,1,0,1,1]) (by kernel_rfl) fun K11 hK11 => ?_
    refine XW.reg (by kernel_rfl) ?_
    refine XO.go [4, 8] 2 [2,3,4,7,19] [] [(2, .one (.pv (.rp [[pi p1.kind, pi p1.scale, .ro (eField.els p1.fields)]] 0 0))), (3, .one (.pv (.rp [[pi p2.kind, pi p2.scale, .ro (eField.els p2.fields)]] 0 0))), (4, .one (.pt 0 0 0 0)), (7, vi r2), (19, vb (r2 != (0 : Int)))] [.box [ci (0 : Int), ci (0 : Int), .pv (.s (.slice none 0 0))]] [] (by kernel_rfl) trivial ?_
    refine XO.done (by kernel_rfl) ?_
    refine hK11 _ _ ?_
    refine XW.cond (x := .tmp 19) (a := cd Try.f10 [1,1,0,1,1,0]) (b := cd Try.f10 [1,1,0,1,1,1]) (t := (r2 != (0 : Int))) (by kernel_rfl) (by kernel_rfl) (fun b12 => ?_) (fun b12 => ?_)
    · have h := ift_t b12 h
      refine XW.seq (x := cd Try.f10 [1,1,0,1,1,0,0]) (y := cd Try.f10 [1,1,0,1,1,0,1]) (by kernel_rfl) fun K13 hK13 => ?_
      refine XW.reg (by kernel_rfl) ?_
      refine XO.go [4, 8] 4 [4,5] [] [(4, .one (.pt 0 0 0 0)), (5, vi r2)] [.box [ci (0 : Int), ci (0 : Int), .pv (.s (.slice none 0 0))]] [] (by kernel_rfl) trivial ?_
      refine XO.done (by kernel_rfl) ?_
      refine hK13 _ _ ?_
      refine XW.ret (by kernel_rfl) ?_
      obtain rfl := Option.some.inj h
      exact FinP.fin (.inr rfl) [] [.ag [ci (0 : Int), ci (0 : Int), .pv (.s (.slice none 0 0))], vi r2] [] (by kernel_rfl) trivial (.tpc (.ag (.cons (.rfl _ rfl) (.cons (.rfl _ rfl) (.cons (.nl) .nil)))) (.tpc (.one (.rfl _ rfl)) (.tp0)))
    · have h := ift_f b12 h
      refine XW.skip (by kernel_rfl) ?_
      refine hK8 _ _ ?_
      refine XW.seq (x := cd Try.f10 [1,1,1,0]) (y := cd Try.f10 [1,1,1,1]) (by kernel_rfl) fun K14 hK14 => ?_
      obtain ⟨r3, c15, h⟩ := bnd_some h
      refine XW.reg (by kernel_rfl) ?_
      refine XO.go [4, 8] 2 [4,23,24] [[pi p1.kind, pi p1.scale, .ro (eField.els p1.fields)], [pi p2.kind, pi p2.scale, .ro (eField.els p2.fields)]] [(4, .one (.pt 0 0 0 0)), (23, .ag [ci p1.kind, ci p1.scale, cl eField p1.fields]), (24, .ag [ci p2.kind, ci p2.scale, cl eField p2.fields])] [.box [ci (0 : Int), ci (0 : Int), .pv (.s (.slice none 0 0))]] [([[pi p1.kind, pi p1.scale, .ro (eField.els p1.fields)]] : List (List PV))[0]? = some [pi p1.kind, pi p1.scale, .ro (eField.els p1.fields)], ([[pi p2.kind, pi p2.scale, .ro (eField.els p2.fields)]] : List (List PV))[0]? = some [pi p2.kind, pi p2.scale, .ro (eField.els p2.fields)]] (by kernel_rfl) (⟨rfl, rfl, trivial⟩) ?_
      refine XO.cal 32 [.ag [ci p1.kind, ci p1.scale, cl eField p1.fields], .ag [ci p2.kind, ci p2.scale, cl eField p2.fields]] (.tp [.ag [ci r3.1.kind, ci r3.1.scale, cl eField r3.1.fields], vb r3.2]) [(25, .tp [.ag [ci r3.1.kind, ci r3.1.scale, cl eField r3.1.fields], vb r3.2]), (4, .one (.pt 0 0 0 0)), (23, .ag [ci p1.kind, ci p1.scale, cl eField p1.fields]), (24, .ag [ci p2.kind, ci p2.scale, cl eField p2.fields])] (by kernel_rfl) (c_ref1_common BIG _ _ _ c15) rfl rfl (by kernel_rfl) ?_
      refine XO.go [4, 8] 6 [4,8,9] [] [(4, .one (.pt 0 0 0 0)), (8, .one (.pt 1 0 0 0)), (9, vb r3.2)] [.box [ci (0 : Int), ci (0 : Int), .pv (.s (.slice none 0 0))], .box [ci r3.1.kind, ci r3.1.scale, cl eField r3.1.fields]] [] (by kernel_rfl) trivial ?_
      refine XO.done (by kernel_rfl) ?_
      refine hK14 _ _ ?_
      refine XW.seq (x := cd Try.f10 [1,1,1,1,0]) (y := cd Try.f10 [1,1,1,1,1]) (by kernel_rfl) fun K16 hK16 => ?_
      refine XW.seq (x := cd Try.f10 [1,1,1,1,0,0]) (y := cd Try.f10 [1,1,1,1,0,1]) (by kernel_rfl) fun K17 hK17 => ?_
      refine XW.reg (by kernel_rfl) ?_
      refine XO.go [4, 8] 2 [4,8,29] [] [(4, .one (.pt 0 0 0 0)), (8, .one (.pt 1 0 0 0)), (29, vb (!r3.2))] [.box [ci (0 : Int), ci (0 : Int), .pv (.s (.slice none 0 0))], .box [ci r3.1.kind, ci r3.1.scale, cl eField r3.1.fields]] [] (by kernel_rfl) trivial ?_
      refine XO.done (by kernel_rfl) ?_
      refine hK17 _ _ ?_
      refine XW.cond (x := .tmp 29) (a := cd Try.f10 [1,1,1,1,0,1,0]) (b := cd Try.f10 [1,1,1,1,0,1,1]) (t := (!r3.2)) (by kernel_rfl) (by kernel_rfl) (fun b18 => ?_) (fun b18 => ?_)
      · have h := ift_t b18 h
        refine XW.seq (x := cd Try.f10 [1,1,1,1,0,1,0,0]) (y := cd Try.f10 [1,1,1,1,0,1,0,1]) (by kernel_rfl) fun K19 hK19 => ?_
        refine XW.reg (by kernel_rfl) ?_
        refine XO.go [4, 8] 3 [4,5] [] [(4, .one (.pt 0 0 0 0)), (5, vi (2 : Int))] [.box [ci (0 : Int), ci (0 : Int), .pv (.s (.slice none 0 0))], .box [ci r3.1.kind, ci r3.1.scale, cl eField r3.1.fields]] [] (by kernel_rfl) trivial ?_
        refine XO.done (by kernel_rfl) ?_
        refine hK19 _ _ ?_
        refine XW.ret (by kernel_rfl) ?_
        obtain rfl := Option.some.inj h
        exact FinP.fin (.inr rfl) [] [.ag [ci (0 : Int), ci (0 : Int), .pv (.s (.slice none 0 0))], vi (2 : Int)] [] (by kernel_rfl) trivial (.tpc (.ag (.cons (.rfl _ rfl) (.cons (.rfl _ rfl) (.cons (.nl) .nil)))) (.tpc (.one (.rfl _ rfl)) (.tp0)))
      · have h := ift_f b18 h
        refine XW.skip (by kernel_rfl) ?_
        refine hK16 _ _ ?_
        refine XW.seq (x := cd Try.f10 [1,1,1,1,1,0]) (y := cd Try.f10 [1,1,1,1,1,1]) (by kernel_rfl) fun K20 hK20 => ?_
        refine XW.reg (by kernel_rfl) ?_
        refine XO.go [4, 8] 3 [4,5] [] [(4, .one (.pt 0 0 0 0)), (5, vi (0 : Int))] [.box [ci r3.1.kind, ci r3.1.scale, cl eField r3.1.fields], .box [ci r3.1.kind, ci r3.1.scale, cl eField r3.1.fields]] [] (by kernel_rfl) trivial ?_
        refine XO.done (by kernel_rfl) ?_
        refine hK20 _ _ ?_
        refine XW.ret (by kernel_rfl) ?_
        obtain rfl := Option.some.inj h
        exact FinP.fin (.inr rfl) [] [.ag [ci r3.1.kind, ci r3.1.scale, cl eField r3.1.fields], vi (0 : Int)] [] (by kernel_rfl) trivial (.tpc (.ag (.cons (.rfl _ rfl) (.cons (.rfl _ rfl) (.cons (.rfl _ rfl) .nil)))) (.tpc (.one (.rfl _ rfl)) (.tp0)))

def law1_sameFields_j1 (rec1 : Int → Option Bool) (x1 : Int) (x2 : Bool) : Option Bool :=
    ift x2
      (some false)
      (rec1 (IntKind.i64.wrap (x1 + (1 : Int))))

def law1_sameFields_j2 : Option Bool :=
    some true

def law1_sameFields_l1 (q_law1_sameType : GType → GType → Option Bool) (p1 : (List GField)) (p2 : (List GField)) : Nat → Int → Option Bool
  | 0, _ => none
  | k1 + 1, x1 =>
    ift (decide (x1 < (p1.length : Int)))
      (bnd (at? p1 x1) fun e1 =>
       bnd (at? p2 x1) fun e2 =>
       ift (e1.id != e2.id)
         (law1_sameFields_j1 (law1_sameFields_l1 q_law1_sameType p1 p2 k1) x1 true)
         (ift (!(e1.name.toList == e2.name.toList))
            (law1_sameFields_j1 (law1_sameFields_l1 q_law1_sameType p1 p2 k1) x1 true)
            (ift (!(e1.need == e2.need))
               (law1_sameFields_j1 (law1_sameFields_l1 q_law1_sameType p1 p2 k1) x1 true)
               (bnd (q_law1_sameType e1.type e2.type) fun r1 =>
                law1_sameFields_j1 (law1_sameFields_l1 q_law1_sameType p1 p2 k1) x1 (!r1)))))
      (law1_sameFields_j2)

def law1_sameType_j1 (x1 : Bool) : Option Bool :=
    some x1

mutual

def law1_sameFields : Nat → (List GField) → (List GField) → Option Bool
  | 0, _, _ => none
  | k0 + 1, p1, p2 =>
    ift ((p1.length : Int) != (p2.length : Int))
      (some false)
      (law1_sameFields_l1 (law1_sameType k0) p1 p2 BIG (0 : Int))

def law1_sameType : Nat → GType → GType → Option Bool
  | 0, _, _ => none
  | k0 + 1, p1, p2 =>
    ift (p1.kind == p2.kind)
      (ift (p1.scale == p2.scale)
         (bnd ((law1_sameFields k0) p1.fields p2.fields) fun r1 =>
          law1_sameType_j1 r1)
         (law1_sameType_j1 false))
      (law1_sameType_j1 false)

end


mutual

theorem c_law1_sameFields : ∀ (k0 : Nat) (p1 : (List GField)) (p2 : (List GField)) (r : Bool), law1_sameFields k0 p1 p2 = some r → PC Try.prog 33 [vl eField p1, vl eField p2] (vb r)
  | 0, _, _, r, h => by rw [law1_sameFields.eq_1] at h; cases h
  | k0 + 1, p1, p2, r, h => by
    rw [law1_sameFields.eq_2] at h
    refine PC.of (n := 54) (fn := Try.f33) (c := cd Try.f33 []) (by kernel_rfl) (by kernel_rfl) (by kernel_rfl) (Nat.le_of_ble_eq_true rfl) ?_
    refine XW.seq (x := cd Try.f33 [0]) (y := cd Try.f33 [1]) (by kernel_rfl) fun K1 hK1 => ?_
    refine XW.reg (by kernel_rfl) ?_
    refine XO.go [6, 7] 1 [0,1] [] [(0, vl eField p1), (1, vl eField p2)] [] [] (by kernel_rfl) trivial ?_
    refine XO.done (by kernel_rfl) ?_
    refine hK1 _ _ ?_
    refine XW.seq (x := cd Try.f33 [1,0]) (y := cd Try.f33 [1,1]) (by kernel_rfl) fun K2 hK2 => ?_
    refine XW.seq (x := cd Try.f33 [1,0,0]) (y := cd Try.f33 [1,0,1]) (by kernel_rfl) fun K3 hK3 => ?_
    refine XW.reg (by kernel_rfl) ?_
    refine XO.go [6, 7] 2 [0,1,9] [] [(0, vl eField p1), (1, vl eField p2), (9, vi ((eField.els p1).length : Int))] [] [] (by kernel_rfl) trivial ?_
    rw [eField.len p1]
    refine XO.go [6, 7] 2 [0,1,9,11] [] [(0, vl eField p1), (1, vl eField p2), (9, vi (p1.length : Int)), (11, vi ((eField.els p2).length : Int))] [] [] (by kernel_rfl) trivial ?_
    rw [eField.len p2]
    refine XO.go [6, 7] 1 [0,1,12] [] [(0, vl eField p1), (1, vl eField p2), (12, vb ((p1.length : Int) != (p2.length : Int)))] [] [] (by kernel_rfl) trivial ?_
    refine XO.done (by kernel_rfl) ?_
    refine hK3 _ _ ?_
    refine XW.cond (x := .tmp 12) (a := cd Try.f33 [1,0,1,0]) (b := cd Try.f33 [1,0,1,1]) (t := ((p1.length : Int) != (p2.length : Int))) (by kernel_rfl) (by kernel_rfl) (fun b4 => ?_) (fun b4 => ?_)
    · have h := ift_t b4 h
      refine XW.seq (x := cd Try.f33 [1,0,1,0,0]) (y := cd Try.f33 [1,0,1,0,1]) (by kernel_rfl) fun K5 hK5 => ?_
      refine XW.reg (by kernel_rfl) ?_
      refine XO.go [6, 7] 1 [4] [] [(4, vb false)] [] [] (by kernel_rfl) trivial ?_
      refine XO.done (by kernel_rfl) ?_
      refine hK5 _ _ ?_
      refine XW.ret (by kernel_rfl) ?_
      obtain rfl := Option.some.inj h
      exact FinP.fin (.inr rfl) [] [vb false] [] (by kernel_rfl) trivial (.one (.rfl _ rfl))
    · have h := ift_f b4 h
      refine XW.skip (by kernel_rfl) ?_
      refine hK2 _ _ ?_
      refine XW.seq (x := cd Try.f33 [1,1,0]) (y := cd Try.f33 [1,1,1]) (by kernel_rfl) fun K6 hK6 => ?_
      have hJ2 : ∀ (_ : Unit), law1_sameFields_j2 = some r → ∀ fr1 st1, Sub 54 0 [] fr1 st1 [] [] → K6 fr1 st1 := by
        intro _ h fr1 st1 hS
        unfold law1_sameFields_j2 at h
        refine hK6 _ _ (XW.sub hS ?_)
        refine XW.seq (x := cd Try.f33 [1,1,1,0]) (y := cd Try.f33 [1,1,1,1]) (by kernel_rfl) fun K23 hK23 => ?_
        refine XW.reg (by kernel_rfl) ?_
        refine XO.go [6, 7] 1 [4] [] [(4, vb true)] [] [] (by kernel_rfl) trivial ?_
        refine XO.done (by kernel_rfl) ?_
        refine hK23 _ _ ?_
        refine XW.ret (by kernel_rfl) ?_
        obtain rfl := Option.some.inj h
        exact FinP.fin (.inr rfl) [] [vb true] [] (by kernel_rfl) trivial (.one (.rfl _ rfl))
      refine XW.seq (x := cd Try.f33 [1,1,0,0]) (y := cd Try.f33 [1,1,0,1]) (by kernel_rfl) fun K7 hK7 => ?_
      refine XW.reg (by kernel_rfl) ?_
      refine XO.go [6, 7] 2 [0,1,14] [] [(0, vl eField p1), (1, vl eField p2), (14, vi ((eField.els p1).length : Int))] [] [] (by kernel_rfl) trivial ?_
      rw [eField.len p1]
      refine XO.go [6, 7] 1 [0,1,14,15] [] [(0, vl eField p1), (1, vl eField p2), (14, vi (p1.length : Int)), (15, vi (0 : Int))] [] [] (by kernel_rfl) trivial ?_
      refine XO.done (by kernel_rfl) ?_
      refine hK7 _ _ ?_
      refine XW.block (id := 0) (x := cd Try.f33 [1,1,0,1,0]) (by kernel_rfl) ?_
      refine XW.rounds' BIG (x := cd Try.f33 [1,1,0,1,0,0]) (by kernel_rfl) fun Q1 hQ1 => ?_
      have hL1 : ∀ (k1 : Nat) (x1 : Int), law1_sameFields_l1 (law1_sameType k0) p1 p2 k1 x1 = some r → XR Try.prog 54 0 [] (cd Try.f33 [1,1,0,1,0,0]) Q1 k1 [(0, vl eField p1), (1, vl eField p2), (14, vi (p1.length : Int)), (15, vi x1)] [] := by
        intro k1
        induction k1 with
        | zero => intro x1 h; rw [law1_sameFields_l1.eq_1] at h; cases h
        | succ k1 ih1 =>
          intro x1 h
          rw [law1_sameFields_l1.eq_2] at h
          refine XW.seq (x := cd Try.f33 [1,1,0,1,0,0,0]) (y := cd Try.f33 [1,1,0,1,0,0,1]) (by kernel_rfl) fun K8 hK8 => ?_
          refine XW.reg (by kernel_rfl) ?_
          refine XO.go [6, 7] 1 [0,1,14,15,16] [] [(0, vl eField p1), (1, vl eField p2), (14, vi (p1.length : Int)), (15, vi x1), (16, vb (decide (x1 < (p1.length : Int))))] [] [] (by kernel_rfl) trivial ?_
          refine XO.done (by kernel_rfl) ?_
          refine hK8 _ _ ?_
          refine XW.seq (x := cd Try.f33 [1,1,0,1,0,0,1,0]) (y := cd Try.f33 [1,1,0,1,0,0,1,1]) (by kernel_rfl) fun K9 hK9 => ?_
          refine XW.cond (x := .tmp 16) (a := cd Try.f33 [1,1,0,1,0,0,1,0,0]) (b := cd Try.f33 [1,1,0,1,0,0,1,0,1]) (t := (decide (x1 < (p1.length : Int)))) (by kernel_rfl) (by kernel_rfl) (fun b10 => ?_) (fun b10 => ?_)
          · have h := ift_t b10 h
            refine XW.skip (by kernel_rfl) ?_
            refine hK9 _ _ ?_
            refine XW.seq (x := cd Try.f33 [1,1,0,1,0,0,1,1,0]) (y := cd Try.f33 [1,1,0,1,0,0,1,1,1]) (by kernel_rfl) fun K11 hK11 => ?_
            refine XW.block (id := 1) (x := cd Try.f33 [1,1,0,1,0,0,1,1,0,0]) (by kernel_rfl) ?_
            refine XW.seq (x := cd Try.f33 [1,1,0,1,0,0,1,1,0,0,0]) (y := cd Try.f33 [1,1,0,1,0,0,1,1,0,0,1]) (by kernel_rfl) fun K12 hK12 => ?_
            refine XW.reg (by kernel_rfl) ?_
            refine XO.go [6, 7] 2 [0,1,5,14,15] [] [(0, vl eField p1), (1, vl eField p2), (5, vi x1), (14, vi (p1.length : Int)), (15, vi x1)] [] [] (by kernel_rfl) trivial ?_
            refine XO.done (by kernel_rfl) ?_
            refine hK12 _ _ ?_
            refine XW.seq (x := cd Try.f33 [1,1,0,1,0,0,1,1,0,0,1,0]) (y := cd Try.f33 [1,1,0,1,0,0,1,1,0,0,1,1]) (by kernel_rfl) fun K13 hK13 => ?_
            obtain ⟨e1, a14, h⟩ := bnd_some h
            obtain ⟨e2, a15, h⟩ := bnd_some h
            refine XW.sub (Sub.dead 2) ?_
            refine XW.drwG 11 [0, 1, 2] [([], []), ([], []), ([], []), ([], []), ([], []), ([], []), ([], []), ([], []), ([0], [0]), ([1], [1]), ([0], [0])] [(7, .one (.pt 1 0 0 0)), (6, .one (.pt 0 0 0 0)), (25, .ag [ci e2.id, cst e2.name, cb e2.need, ci e2.type.kind, ci e2.type.scale, cl eField e2.type.fields]), (24, .one (.pv (.rp (eField.els p2) x1.toNat 0))), (23, vi x1), (22, vl eField p2), (21, .ag [ci e1.id, cst e1.name, cb e1.need, ci e1.type.kind, ci e1.type.scale, cl eField e1.type.fields]), (20, .one (.pv (.rp (eField.els p1) x1.toNat 0))), (19, vi x1), (18, vl eField p1), (0, vl eField p1), (1, vl eField p2), (5, vi x1), (14, vi (p1.length : Int)), (15, vi x1)] [.box [ci e1.id, cst e1.name, cb e1.need, ci e1.type.kind, ci e1.type.scale, cl eField e1.type.fields], .box [ci (0 : Int), cst ByteArray.empty, cb false, ci (0 : Int), ci (0 : Int), .pv (.s (.slice none 0 0))]] (by kernel_rfl) (by kernel_rfl) ?_ ?_
            · refine GY.go 8 [[pi e1.id, .s (.string e1.name), .s (.bool e1.need), pi e1.type.kind, pi e1.type.scale, .ro (eField.els e1.type.fields)], [pi e2.id, .s (.string e2.name), .s (.bool e2.need), pi e2.type.kind, pi e2.type.scale, .ro (eField.els e2.type.fields)]] [(25, .ag [ci e2.id, cst e2.name, cb e2.need, ci e2.type.kind, ci e2.type.scale, cl eField e2.type.fields]), (24, .one (.pv (.rp (eField.els p2) x1.toNat 0))), (23, vi x1), (22, vl eField p2), (21, .ag [ci e1.id, cst e1.name, cb e1.need, ci e1.type.kind, ci e1.type.scale, cl eField e1.type.fields]), (20, .one (.pv (.rp (eField.els p1) x1.toNat 0))), (19, vi x1), (18, vl eField p1), (0, vl eField p1), (1, vl eField p2), (5, vi x1), (14, vi (p1.length : Int)), (15, vi x1)] [0 ≤ x1 ∧ x1 < ((eField.els p1).length : Int) ∧ elemsOk 6 (eField.els p1), (eField.els p1)[x1.toNat]? = some [pi e1.id, .s (.string e1.name), .s (.bool e1.need), pi e1.type.kind, pi e1.type.scale, .ro (eField.els e1.type.fields)], 0 ≤ x1 ∧ x1 < ((eField.els p2).length : Int) ∧ elemsOk 6 (eField.els p2), (eField.els p2)[x1.toNat]? = some [pi e2.id, .s (.string e2.name), .s (.bool e2.need), pi e2.type.kind, pi e2.type.scale, .ro (eField.els e2.type.fields)]] (by kernel_rfl) (⟨eField.inb a14, ((eField.get a14).trans (by rcases e1 with ⟨_, _, _, ⟨_, _, _⟩⟩; rfl)), eField.inb a15, ((eField.get a15).trans (by rcases e2 with ⟨_, _, _, ⟨_, _, _⟩⟩; rfl)), trivial⟩) ?_
              refine GY.new true 0 [] [(6, .one (.pt 0 0 0 0)), (25, .ag [ci e2.id, cst e2.name, cb e2.need, ci e2.type.kind, ci e2.type.scale, cl eField e2.type.fields]), (24, .one (.pv (.rp (eField.els p2) x1.toNat 0))), (23, vi x1), (22, vl eField p2), (21, .ag [ci e1.id, cst e1.name, cb e1.need, ci e1.type.kind, ci e1.type.scale, cl eField e1.type.fields]), (20, .one (.pv (.rp (eField.els p1) x1.toNat 0))), (19, vi x1), (18, vl eField p1), (0, vl eField p1), (1, vl eField p2), (5, vi x1), (14, vi (p1.length : Int)), (15, vi x1)] [0] [.box [ci (0 : Int), cst ByteArray.empty, cb false, ci (0 : Int), ci (0 : Int), .pv (.s (.slice none 0 0))], .dead] [] (by kernel_rfl) (by kernel_rfl) trivial ?_
              refine GY.new true 1 [] [(7, .one (.pt 1 0 0 0)), (6, .one (.pt 0 0 0 0)), (25, .ag [ci e2.id, cst e2.name, cb e2.need, ci e2.type.kind, ci e2.type.scale, cl eField e2.type.fields]), (24, .one (.pv (.rp (eField.els p2) x1.toNat 0))), (23, vi x1), (22, vl eField p2), (21, .ag [ci e1.id, cst e1.name, cb e1.need, ci e1.type.kind, ci e1.type.scale, cl eField e1.type.fields]), (20, .one (.pv (.rp (eField.els p1) x1.toNat 0))), (19, vi x1), (18, vl eField p1), (0, vl eField p1), (1, vl eField p2), (5, vi x1), (14, vi (p1.length : Int)), (15, vi x1)] [1] [.box [ci (0 : Int), cst ByteArray.empty, cb false, ci (0 : Int), ci (0 : Int), .pv (.s (.slice none 0 0))], .box [ci (0 : Int), cst ByteArray.empty, cb false, ci (0 : Int), ci (0 : Int), .pv (.s (.slice none 0 0))]] [] (by kernel_rfl) (by kernel_rfl) trivial ?_
              refine GY.wr [] [(7, .one (.pt 1 0 0 0)), (6, .one (.pt 0 0 0 0)), (25, .ag [ci e2.id, cst e2.name, cb e2.need, ci e2.type.kind, ci e2.type.scale, cl eField e2.type.fields]), (24, .one (.pv (.rp (eField.els p2) x1.toNat 0))), (23, vi x1), (22, vl eField p2), (21, .ag [ci e1.id, cst e1.name, cb e1.need, ci e1.type.kind, ci e1.type.scale, cl eField e1.type.fields]), (20, .one (.pv (.rp (eField.els p1) x1.toNat 0))), (19, vi x1), (18, vl eField p1), (0, vl eField p1), (1, vl eField p2), (5, vi x1), (14, vi (p1.length : Int)), (15, vi x1)] [0] [.box [ci e1.id, cst e1.name, cb e1.need, ci e1.type.kind, ci e1.type.scale, cl eField e1.type.fields], .box [ci (0 : Int), cst ByteArray.empty, cb false, ci (0 : Int), ci (0 : Int), .pv (.s (.slice none 0 0))]] [] (by kernel_rfl) (by kernel_rfl) trivial ?_
              exact GY.done (by kernel_rfl) (by kernel_rfl)
            refine XO.go [6, 7] 1 [0,1,6,7,14,15] [] [(0, vl eField p1), (1, vl eField p2), (6, .one (.pt 0 0 0 0)), (7, .one (.pt 1 0 0 0)), (14, vi (p1.length : Int)), (15, vi x1)] [.box [ci e1.id, cst e1.name, cb e1.need, ci e1.type.kind, ci e1.type.scale, cl eField e1.type.fields], .box [ci e2.id, cst e2.name, cb e2.need, ci e2.type.kind, ci e2.type.scale, cl eField e2.type.fields]] [] (by kernel_rfl) trivial ?_
            refine XO.done (by kernel_rfl) ?_
            refine hK13 _ _ ?_
            refine XW.seq (x := cd Try.f33 [1,1,0,1,0,0,1,1,0,0,1,1,0]) (y := cd Try.f33 [1,1,0,1,0,0,1,1,0,0,1,1,1]) (by kernel_rfl) fun K16 hK16 => ?_
            have hJ1 : ∀ (x2 : Bool), law1_sameFields_j1 (law1_sameFields_l1 (law1_sameType k0) p1 p2 k1) x1 x2 = some r → ∀ fr1 st1, Sub 54 0 [] fr1 st1 [(0, vl eField p1), (1, vl eField p2), (14, vi (p1.length : Int)), (15, vi x1), (52, vb x2)] [.box [ci e1.id, cst e1.name, cb e1.need, ci e1.type.kind, ci e1.type.scale, cl eField e1.type.fields], .box [ci e2.id, cst e2.name, cb e2.need, ci e2.type.kind, ci e2.type.scale, cl eField e2.type.fields]] → K16 fr1 st1 := by
              intro x2 h fr1 st1 hS
              unfold law1_sameFields_j1 at h
              refine hK16 _ _ (XW.sub hS ?_)
              refine XW.cond (x := .tmp 52) (a := cd Try.f33 [1,1,0,1,0,0,1,1,0,0,1,1,1,0]) (b := cd Try.f33 [1,1,0,1,0,0,1,1,0,0,1,1,1,1]) (t := x2) (by kernel_rfl) (by kernel_rfl) (fun b21 => ?_) (fun b21 => ?_)
              · have h := ift_t b21 h
                refine XW.seq (x := cd Try.f33 [1,1,0,1,0,0,1,1,0,0,1,1,1,0,0]) (y := cd Try.f33 [1,1,0,1,0,0,1,1,0,0,1,1,1,0,1]) (by kernel_rfl) fun K22 hK22 => ?_
                refine XW.reg (by kernel_rfl) ?_
                refine XO.go [6, 7] 1 [4] [] [(4, vb false)] [.box [ci e1.id, cst e1.name, cb e1.need, ci e1.type.kind, ci e1.type.scale, cl eField e1.type.fields], .box [ci e2.id, cst e2.name, cb e2.need, ci e2.type.kind, ci e2.type.scale, cl eField e2.type.fields]] [] (by kernel_rfl) trivial ?_
                refine XO.done (by kernel_rfl) ?_
                refine hK22 _ _ ?_
                refine XW.ret (by kernel_rfl) ?_
                refine hQ1 _ _ _ ?_
                obtain rfl := Option.some.inj h
                exact FinP.fin (.inr rfl) [] [vb false] [] (by kernel_rfl) trivial (.one (.rfl _ rfl))
              · have h := ift_f b21 h
                refine XW.skip (by kernel_rfl) ?_
                refine hK11 _ _ ?_
                refine XW.reg (by kernel_rfl) ?_
                refine XO.go [6, 7] 2 [0,1,14,15] [] [(0, vl eField p1), (1, vl eField p2), (14, vi (p1.length : Int)), (15, vi (IntKind.i64.wrap (x1 + (1 : Int))))] [.box [ci e1.id, cst e1.name, cb e1.need, ci e1.type.kind, ci e1.type.scale, cl eField e1.type.fields], .box [ci e2.id, cst e2.name, cb e2.need, ci e2.type.kind, ci e2.type.scale, cl eField e2.type.fields]] [] (by kernel_rfl) trivial ?_
                refine XO.done (by kernel_rfl) ?_
                exact XR.sub (Sub.trans (Sub.pick (fr' := [(0, vl eField p1), (1, vl eField p2), (14, vi (p1.length : Int)), (15, vi (IntKind.i64.wrap (x1 + (1 : Int))))]) [0,1,14,15] (by kernel_rfl)) (Sub.take (fr' := [(0, vl eField p1), (1, vl eField p2), (14, vi (p1.length : Int)), (15, vi (IntKind.i64.wrap (x1 + (1 : Int))))]) 0 (Nat.zero_le _) (by kernel_rfl) (by kernel_rfl))) (ih1 (IntKind.i64.wrap (x1 + (1 : Int))) h)
            rcases Bool.eq_false_or_eq_true (e1.id != e2.id) with b17 | b17
            · have h := ift_t b17 h
              refine XW.reg (by kernel_rfl) ?_
              refine XO.go [6, 7] 6 [0,1,6,7,14,15,31] [] [(0, vl eField p1), (1, vl eField p2), (6, .one (.pt 0 0 0 0)), (7, .one (.pt 1 0 0 0)), (14, vi (p1.length : Int)), (15, vi x1), (31, vb (e1.id != e2.id))] [.box [ci e1.id, cst e1.name, cb e1.need, ci e1.type.kind, ci e1.type.scale, cl eField e1.type.fields], .box [ci e2.id, cst e2.name, cb e2.need, ci e2.type.kind, ci e2.type.scale, cl eField e2.type.fields]] [] (by kernel_rfl) trivial ?_
              refine XO.setb 31 true (B := (e1.id != e2.id)) rfl b17 ?_
              refine XO.go [6, 7] 21 [0,1,14,15,52] [] [(0, vl eField p1), (1, vl eField p2), (14, vi (p1.length : Int)), (15, vi x1), (52, vb true)] [.box [ci e1.id, cst e1.name, cb e1.need, ci e1.type.kind, ci e1.type.scale, cl eField e1.type.fields], .box [ci e2.id, cst e2.name, cb e2.need, ci e2.type.kind, ci e2.type.scale, cl eField e2.type.fields]] [] (by kernel_rfl) trivial ?_
              refine XO.done (by kernel_rfl) ?_
              exact hJ1 true h _ _ (Sub.pick [0,1,14,15,52] (by kernel_rfl))
            · have h := ift_f b17 h
              rcases Bool.eq_false_or_eq_true (!(e1.name.toList == e2.name.toList)) with b18 | b18
              · have h := ift_t b18 h
                refine XW.reg (by kernel_rfl) ?_
                refine XO.go [6, 7] 6 [0,1,6,7,14,15,31] [] [(0, vl eField p1), (1, vl eField p2), (6, .one (.pt 0 0 0 0)), (7, .one (.pt 1 0 0 0)), (14, vi (p1.length : Int)), (15, vi x1), (31, vb (e1.id != e2.id))] [.box [ci e1.id, cst e1.name, cb e1.need, ci e1.type.kind, ci e1.type.scale, cl eField e1.type.fields], .box [ci e2.id, cst e2.name, cb e2.need, ci e2.type.kind, ci e2.type.scale, cl eField e2.type.fields]] [] (by kernel_rfl) trivial ?_
                refine XO.setb 31 false (B := (e1.id != e2.id)) rfl b17 ?_
                refine XO.go [6, 7] 7 [0,1,6,7,14,15,38] [] [(0, vl eField p1), (1, vl eField p2), (6, .one (.pt 0 0 0 0)), (7, .one (.pt 1 0 0 0)), (14, vi (p1.length : Int)), (15, vi x1), (38, vb (!(e1.name.toList == e2.name.toList)))] [.box [ci e1.id, cst e1.name, cb e1.need, ci e1.type.kind, ci e1.type.scale, cl eField e1.type.fields], .box [ci e2.id, cst e2.name, cb e2.need, ci e2.type.kind, ci e2.type.scale, cl eField e2.type.fields]] [] (by kernel_rfl) trivial ?_
                refine XO.setb 38 true (B := (!(e1.name.toList == e2.name.toList))) rfl b18 ?_
                refine XO.go [6, 7] 14 [0,1,14,15,52] [] [(0, vl eField p1), (1, vl eField p2), (14, vi (p1.length : Int)), (15, vi x1), (52, vb true)] [.box [ci e1.id, cst e1.name, cb e1.need, ci e1.type.kind, ci e1.type.scale, cl eField e1.type.fields], .box [ci e2.id, cst e2.name, cb e2.need, ci e2.type.kind, ci e2.type.scale, cl eField e2.type.fields]] [] (by kernel_rfl) trivial ?_
                refine XO.done (by kernel_rfl) ?_
                exact hJ1 true h _ _ (Sub.pick [0,1,14,15,52] (by kernel_rfl))
              · have h := ift_f b18 h
                rcases Bool.eq_false_or_eq_true (!(e1.need == e2.need)) with b19 | b19
                · have h := ift_t b19 h
                  refine XW.reg (by kernel_rfl) ?_
                  refine XO.go [6, 7] 6 [0,1,6,7,14,15,31] [] [(0, vl eField p1), (1, vl eField p2), (6, .one (.pt 0 0 0 0)), (7, .one (.pt 1 0 0 0)), (14, vi (p1.length : Int)), (15, vi x1), (31, vb (e1.id != e2.id))] [.box [ci e1.id, cst e1.name, cb e1.need, ci e1.type.kind, ci e1.type.scale, cl eField e1.type.fields], .box [ci e2.id, cst e2.name, cb e2.need, ci e2.type.kind, ci e2.type.scale, cl eField e2.type.fields]] [] (by kernel_rfl) trivial ?_
                  refine XO.setb 31 false (B := (e1.id != e2.id)) rfl b17 ?_
                  refine XO.go [6, 7] 7 [0,1,6,7,14,15,38] [] [(0, vl eField p1), (1, vl eField p2), (6, .one (.pt 0 0 0 0)), (7, .one (.pt 1 0 0 0)), (14, vi (p1.length : Int)), (15, vi x1), (38, vb (!(e1.name.toList == e2.name.toList)))] [.box [ci e1.id, cst e1.name, cb e1.need, ci e1.type.kind, ci e1.type.scale, cl eField e1.type.fields], .box [ci e2.id, cst e2.name, cb e2.need, ci e2.type.kind, ci e2.type.scale, cl eField e2.type.fields]] [] (by kernel_rfl) trivial ?_
                  refine XO.setb 38 false (B := (!(e1.name.toList == e2.name.toList))) rfl b18 ?_
                  refine XO.go [6, 7] 7 [0,1,6,7,14,15,45] [] [(0, vl eField p1), (1, vl eField p2), (6, .one (.pt 0 0 0 0)), (7, .one (.pt 1 0 0 0)), (14, vi (p1.length : Int)), (15, vi x1), (45, vb (!(e1.need == e2.need)))] [.box [ci e1.id, cst e1.name, cb e1.need, ci e1.type.kind, ci e1.type.scale, cl eField e1.type.fields], .box [ci e2.id, cst e2.name, cb e2.need, ci e2.type.kind, ci e2.type.scale, cl eField e2.type.fields]] [] (by kernel_rfl) trivial ?_
                  refine XO.setb 45 true (B := (!(e1.need == e2.need))) rfl b19 ?_
                  refine XO.go [6, 7] 7 [0,1,14,15,52] [] [(0, vl eField p1), (1, vl eField p2), (14, vi (p1.length : Int)), (15, vi x1), (52, vb true)] [.box [ci e1.id, cst e1.name, cb e1.need, ci e1.type.kind, ci e1.type.scale, cl eField e1.type.fields], .box [ci e2.id, cst e2.name, cb e2.need, ci e2.type.kind, ci e2.type.scale, cl eField e2.type.fields]] [] (by kernel_rfl) trivial ?_
                  refine XO.done (by kernel_rfl) ?_
                  exact hJ1 true h _ _ (Sub.pick [0,1,14,15,52] (by kernel_rfl))
                · have h := ift_f b19 h
                  obtain ⟨r1, c20, h⟩ := bnd_some h
                  refine XW.reg (by kernel_rfl) ?_
                  refine XO.go [6, 7] 6 [0,1,6,7,14,15,31] [] [(0, vl eField p1), (1, vl eField p2), (6, .one (.pt 0 0 0 0)), (7, .one (.pt 1 0 0 0)), (14, vi (p1.length : Int)), (15, vi x1), (31, vb (e1.id != e2.id))] [.box [ci e1.id, cst e1.name, cb e1.need, ci e1.type.kind, ci e1.type.scale, cl eField e1.type.fields], .box [ci e2.id, cst e2.name, cb e2.need, ci e2.type.kind, ci e2.type.scale, cl eField e2.type.fields]] [] (by kernel_rfl) trivial ?_
                  refine XO.setb 31 false (B := (e1.id != e2.id)) rfl b17 ?_
                  refine XO.go [6, 7] 7 [0,1,6,7,14,15,38] [] [(0, vl eField p1), (1, vl eField p2), (6, .one (.pt 0 0 0 0)), (7, .one (.pt 1 0 0 0)), (14, vi (p1.length : Int)), (15, vi x1), (38, vb (!(e1.name.toList == e2.name.toList)))] [.box [ci e1.id, cst e1.name, cb e1.need, ci e1.type.kind, ci e1.type.scale, cl eField e1.type.fields], .box [ci e2.id, cst e2.name, cb e2.need, ci e2.type.kind, ci e2.type.scale, cl eField e2.type.fields]] [] (by kernel_rfl) trivial ?_
                  refine XO.setb 38 false (B := (!(e1.name.toList == e2.name.toList))) rfl b18 ?_
                  refine XO.go [6, 7] 7 [0,1,6,7,14,15,45] [] [(0, vl eField p1), (1, vl eField p2), (6, .one (.pt 0 0 0 0)), (7, .one (.pt 1 0 0 0)), (14, vi (p1.length : Int)), (15, vi x1), (45, vb (!(e1.need == e2.need)))] [.box [ci e1.id, cst e1.name, cb e1.need, ci e1.type.kind, ci e1.type.scale, cl eField e1.type.fields], .box [ci e2.id, cst e2.name, cb e2.need, ci e2.type.kind, ci e2.type.scale, cl eField e2.type.fields]] [] (by kernel_rfl) trivial ?_
                  refine XO.setb 45 false (B := (!(e1.need == e2.need))) rfl b19 ?_
                  refine XO.go [6, 7] 4 [0,1,14,15,45,47,49] [] [(0, vl eField p1), (1, vl eField p2), (14, vi (p1.length : Int)), (15, vi x1), (45, vb false), (47, .ag [ci e1.type.kind, ci e1.type.scale, cl eField e1.type.fields]), (49, .ag [ci e2.type.kind, ci e2.type.scale, cl eField e2.type.fields])] [.box [ci e1.id, cst e1.name, cb e1.need, ci e1.type.kind, ci e1.type.scale, cl eField e1.type.fields], .box [ci e2.id, cst e2.name, cb e2.need, ci e2.type.kind, ci e2.type.scale, cl eField e2.type.fields]] [] (by kernel_rfl) trivial ?_
                  refine XO.cal 11 [.ag [ci e1.type.kind, ci e1.type.scale, cl eField e1.type.fields], .ag [ci e2.type.kind, ci e2.type.scale, cl eField e2.type.fields]] (vb r1) [(50, vb r1), (0, vl eField p1), (1, vl eField p2), (14, vi (p1.length : Int)), (15, vi x1), (45, vb false), (47, .ag [ci e1.type.kind, ci e1.type.scale, cl eField e1.type.fields]), (49, .ag [ci e2.type.kind, ci e2.type.scale, cl eField e2.type.fields])] (by kernel_rfl) (c_law1_sameType k0 _ _ _ c20) rfl rfl (by kernel_rfl) ?_
                  refine XO.go [6, 7] 2 [0,1,14,15,52] [] [(0, vl eField p1), (1, vl eField p2), (14, vi (p1.length : Int)), (15, vi x1), (52, vb (!r1))] [.box [ci e1.id, cst e1.name, cb e1.need, ci e1.type.kind, ci e1.type.scale, cl eField e1.type.fields], .box [ci e2.id, cst e2.name, cb e2.need, ci e2.type.kind, ci e2.type.scale, cl eField e2.type.fields]] [] (by kernel_rfl) trivial ?_
                  refine XO.done (by kernel_rfl) ?_
                  exact hJ1 (!r1) h _ _ (Sub.pick [0,1,14,15,52] (by kernel_rfl))
          · have h := ift_f b10 h
            refine XW.exit (id := 0) (by kernel_rfl) ?_
            refine hQ1 _ _ _ ?_
            exact hJ2 () h _ _ (Sub.pick [] (by kernel_rfl))
      exact XR.sub (Sub.pick [0,1,14,15] (by kernel_rfl)) (hL1 BIG (0 : Int) h)

theorem c_law1_sameType : ∀ (k0 : Nat) (p1 : GType) (p2 : GType) (r : Bool), law1_sameType k0 p1 p2 = some r → PC Try.prog 11 [.ag [ci p1.kind, ci p1.scale, cl eField p1.fields], .ag [ci p2.kind, ci p2.scale, cl eField p2.fields]] (vb r)
  | 0, _, _, r, h => by rw [law1_sameType.eq_1] at h; cases h
  | k0 + 1, p1, p2, r, h => by
    rw [law1_sameType.eq_2] at h
    refine PC.of (n := 24) (fn := Try.f11) (c := cd Try.f11 []) (by kernel_rfl) (by kernel_rfl) (by kernel_rfl) (Nat.le_of_ble_eq_true rfl) ?_
    refine XW.seq (x := cd Try.f11 [0]) (y := cd Try.f11 [1]) (by kernel_rfl) fun K1 hK1 => ?_
    refine XW.reg (by kernel_rfl) ?_
    refine XO.go [] 3 [2,3] [] [(2, .one (.pv (.rp [[pi p1.kind, pi p1.scale, .ro (eField.els p1.fields)]] 0 0))), (3, .one (.pv (.rp [[pi p2.kind, pi p2.scale, .ro (eField.els p2.fields)]] 0 0)))] [] [] (by kernel_rfl) trivial ?_
    refine XO.done (by kernel_rfl) ?_
    refine hK1 _ _ ?_
    refine XW.seq (x := cd Try.f11 [1,0]) (y := cd Try.f11 [1,1]) (by kernel_rfl) fun K2 hK2 => ?_
    have hJ1 : ∀ (x1 : Bool), law1_sameType_j1 x1 = some r → ∀ fr1 st1, Sub 24 0 [] fr1 st1 [(4, vb x1)] [] → K2 fr1 st1 := by
      intro x1 h fr1 st1 hS
      unfold law1_sameType_j1 at h
      refine hK2 _ _ (XW.sub hS ?_)
      refine XW.ret (by kernel_rfl) ?_
      obtain rfl := Option.some.inj h
      exact FinP.fin (.inr rfl) [] [vb x1] [] (by kernel_rfl) trivial (.one (.rfl _ rfl))
    rcases Bool.eq_false_or_eq_true (p1.kind == p2.kind) with b3 | b3
    · have h := ift_t b3 h
      rcases Bool.eq_false_or_eq_true (p1.scale == p2.scale) with b4 | b4
      · have h := ift_t b4 h
        obtain ⟨r1, c5, h⟩ := bnd_some h
        refine XW.reg (by kernel_rfl) ?_
        refine XO.go [] 6 [2,3,10] [[pi p1.kind, pi p1.scale, .ro (eField.els p1.fields)], [pi p2.kind, pi p2.scale, .ro (eField.els p2.fields)]] [(2, .one (.pv (.rp [[pi p1.kind, pi p1.scale, .ro (eField.els p1.fields)]] 0 0))), (3, .one (.pv (.rp [[pi p2.kind, pi p2.scale, .ro (eField.els p2.fields)]] 0 0))), (10, vb (p1.kind == p2.kind))] [] [([[pi p1.kind, pi p1.scale, .ro (eField.els p1.fields)]] : List (List PV))[0]? = some [pi p1.kind, pi p1.scale, .ro (eField.els p1.fields)], ([[pi p2.kind, pi p2.scale, .ro (eField.els p2.fields)]] : List (List PV))[0]? = some [pi p2.kind, pi p2.scale, .ro (eField.els p2.fields)]] (by kernel_rfl) (⟨rfl, rfl, trivial⟩) ?_
        refine XO.setb 10 true (B := (p1.kind == p2.kind)) rfl b3 ?_
        refine XO.go [] 7 [2,3,17] [[pi p1.kind, pi p1.scale, .ro (eField.els p1.fields)], [pi p2.kind, pi p2.scale, .ro (eField.els p2.fields)]] [(2, .one (.pv (.rp [[pi p1.kind, pi p1.scale, .ro (eField.els p1.fields)]] 0 0))), (3, .one (.pv (.rp [[pi p2.kind, pi p2.scale, .ro (eField.els p2.fields)]] 0 0))), (17, vb (p1.scale == p2.scale))] [] [([[pi p1.kind, pi p1.scale, .ro (eField.els p1.fields)]] : List (List PV))[0]? = some [pi p1.kind, pi p1.scale, .ro (eField.els p1.fields)], ([[pi p2.kind, pi p2.scale, .ro (eField.els p2.fields)]] : List (List PV))[0]? = some [pi p2.kind, pi p2.scale, .ro (eField.els p2.fields)]] (by kernel_rfl) (⟨rfl, rfl, trivial⟩) ?_
        refine XO.setb 17 true (B := (p1.scale == p2.scale)) rfl b4 ?_
        refine XO.go [] 4 [17,19,21] [[pi p1.kind, pi p1.scale, .ro (eField.els p1.fields)], [pi p2.kind, pi p2.scale, .ro (eField.els p2.fields)]] [(17, vb true), (19, vl eField p1.fields), (21, vl eField p2.fields)] [] [([[pi p1.kind, pi p1.scale, .ro (eField.els p1.fields)]] : List (List PV))[0]? = some [pi p1.kind, pi p1.scale, .ro (eField.els p1.fields)], ([[pi p2.kind, pi p2.scale, .ro (eField.els p2.fields)]] : List (List PV))[0]? = some [pi p2.kind, pi p2.scale, .ro (eField.els p2.fields)]] (by kernel_rfl) (⟨rfl, rfl, trivial⟩) ?_
        refine XO.cal 33 [vl eField p1.fields, vl eField p2.fields] (vb r1) [(22, vb r1), (17, vb true), (19, vl eField p1.fields), (21, vl eField p2.fields)] (by kernel_rfl) (c_law1_sameFields k0 _ _ _ c5) rfl rfl (by kernel_rfl) ?_
        refine XO.go [] 2 [4] [] [(4, vb r1)] [] [] (by kernel_rfl) trivial ?_
        refine XO.done (by kernel_rfl) ?_
        exact hJ1 r1 h _ _ (Sub.pick [4] (by kernel_rfl))
      · have h := ift_f b4 h
        refine XW.reg (by kernel_rfl) ?_
        refine XO.go [] 6 [2,3,10] [[pi p1.kind, pi p1.scale, .ro (eField.els p1.fields)], [pi p2.kind, pi p2.scale, .ro (eField.els p2.fields)]] [(2, .one (.pv (.rp [[pi p1.kind, pi p1.scale, .ro (eField.els p1.fields)]] 0 0))), (3, .one (.pv (.rp [[pi p2.kind, pi p2.scale, .ro (eField.els p2.fields)]] 0 0))), (10, vb (p1.kind == p2.kind))] [] [([[pi p1.kind, pi p1.scale, .ro (eField.els p1.fields)]] : List (List PV))[0]? = some [pi p1.kind, pi p1.scale, .ro (eField.els p1.fields)], ([[pi p2.kind, pi p2.scale, .ro (eField.els p2.fields)]] : List (List PV))[0]? = some [pi p2.kind, pi p2.scale, .ro (eField.els p2.fields)]] (by kernel_rfl) (⟨rfl, rfl, trivial⟩) ?_
        refine XO.setb 10 true (B := (p1.kind == p2.kind)) rfl b3 ?_
        refine XO.go [] 7 [2,3,17] [[pi p1.kind, pi p1.scale, .ro (eField.els p1.fields)], [pi p2.kind, pi p2.scale, .ro (eField.els p2.fields)]] [(2, .one (.pv (.rp [[pi p1.kind, pi p1.scale, .ro (eField.els p1.fields)]] 0 0))), (3, .one (.pv (.rp [[pi p2.kind, pi p2.scale, .ro (eField.els p2.fields)]] 0 0))), (17, vb (p1.scale == p2.scale))] [] [([[pi p1.kind, pi p1.scale, .ro (eField.els p1.fields)]] : List (List PV))[0]? = some [pi p1.kind, pi p1.scale, .ro (eField.els p1.fields)], ([[pi p2.kind, pi p2.scale, .ro (eField.els p2.fields)]] : List (List PV))[0]? = some [pi p2.kind, pi p2.scale, .ro (eField.els p2.fields)]] (by kernel_rfl) (⟨rfl, rfl, trivial⟩) ?_
        refine XO.setb 17 false (B := (p1.scale == p2.scale)) rfl b4 ?_
        refine XO.go [] 7 [4] [] [(4, vb false)] [] [] (by kernel_rfl) trivial ?_
        refine XO.done (by kernel_rfl) ?_
        exact hJ1 false h _ _ (Sub.pick [4] (by kernel_rfl))
    · have h := ift_f b3 h
      refine XW.reg (by kernel_rfl) ?_
      refine XO.go [] 6 [2,3,10] [[pi p1.kind, pi p1.scale, .ro (eField.els p1.fields)], [pi p2.kind, pi p2.scale, .ro (eField.els p2.fields)]] [(2, .one (.pv (.rp [[pi p1.kind, pi p1.scale, .ro (eField.els p1.fields)]] 0 0))), (3, .one (.pv (.rp [[pi p2.kind, pi p2.scale, .ro (eField.els p2.fields)]] 0 0))), (10, vb (p1.kind == p2.kind))] [] [([[pi p1.kind, pi p1.scale, .ro (eField.els p1.fields)]] : List (List PV))[0]? = some [pi p1.kind, pi p1.scale, .ro (eField.els p1.fields)], ([[pi p2.kind, pi p2.scale, .ro (eField.els p2.fields)]] : List (List PV))[0]? = some [pi p2.kind, pi p2.scale, .ro (eField.els p2.fields)]] (by kernel_rfl) (⟨rfl, rfl, trivial⟩) ?_
      refine XO.setb 10 false (B := (p1.kind == p2.kind)) rfl b3 ?_
      refine XO.go [] 14 [4] [] [(4, vb false)] [] [] (by kernel_rfl) trivial ?_
      refine XO.done (by kernel_rfl) ?_
      exact hJ1 false h _ _ (Sub.pick [4] (by kernel_rfl))

end

def law1_ValueCommonMatchesSpec_j2 (x2 : Bool) : Option Bool :=
    some x2

def law1_ValueCommonMatchesSpec_j1 (p1 : GType) (p2 : GType) (r2 : (GType × Int)) (r4 : (GType × Int)) (x1 : Bool) : Option Bool :=
    ift x1
      (some false)
      (bnd (ref1_CheckType p1) fun r6 =>
       ift (r6 != (0 : Int))
         (law1_ValueCommonMatchesSpec_j2 true)
         (bnd (ref1_CheckType p2) fun r7 =>
          ift (r7 != (0 : Int))
            (law1_ValueCommonMatchesSpec_j2 true)
            (law1_ValueCommonMatchesSpec_j2 (r4.2 == r2.2))))

def law1_ValueCommonMatchesSpec (p1 : GType) (p2 : GType) : Option Bool :=
    bnd (value_Common (GType.mk (2 : Int) (0 : Int) []) (GType.mk (1 : Int) (0 : Int) [])) fun r1 =>
    ift (r1.2 != (2 : Int))
      (some false)
      (bnd (value_Common p1 p2) fun r2 =>
       bnd (ref1_Common p1 p2) fun r3 =>
       bnd (value_Common p2 p1) fun r4 =>
       ift (r2.2 != r3.2)
         (law1_ValueCommonMatchesSpec_j1 p1 p2 r2 r4 true)
         (bnd (law1_sameType BIG r2.1 r3.1) fun r5 =>
          law1_ValueCommonMatchesSpec_j1 p1 p2 r2 r4 (!r5)))


theorem c_law1_ValueCommonMatchesSpec (p1 : GType) (p2 : GType) (r : Bool) (h : law1_ValueCommonMatchesSpec p1 p2 = some r) : PC Try.prog 3 [.ag [ci p1.kind, ci p1.scale, cl eField p1.fields], .ag [ci p2.kind, ci p2.scale, cl eField p2.fields]] (vb r) := by
  unfold law1_ValueCommonMatchesSpec at h
  refine PC.of (n := 61) (fn := Try.f3) (c := cd Try.f3 []) (by kernel_rfl) (by kernel_rfl) (by kernel_rfl) (Nat.le_of_ble_eq_true rfl) ?_
  refine XW.seq (x := cd Try.f3 [0]) (y := cd Try.f3 [1]) (by kernel_rfl) fun K1 hK1 => ?_
  refine XW.reg (by kernel_rfl) ?_
  refine XO.go [5, 7, 9, 11] 3 [2,3] [] [(2, .one (.pv (.rp [[pi p1.kind, pi p1.scale, .ro (eField.els p1.fields)]] 0 0))), (3, .one (.pv (.rp [[pi p2.kind, pi p2.scale, .ro (eField.els p2.fields)]] 0 0)))] [] [] (by kernel_rfl) trivial ?_
  refine XO.done (by kernel_rfl) ?_
  refine hK1 _ _ ?_
  refine XW.seq (x := cd Try.f3 [1,0]) (y := cd Try.f3 [1,1]) (by kernel_rfl) fun K2 hK2 => ?_
  refine XW.seq (x := cd Try.f3 [1,0,0]) (y := cd Try.f3 [1,0,1]) (by kernel_rfl) fun K3 hK3 => ?_
  obtain ⟨r1, c4, h⟩ := bnd_some h
  refine XW.reg (by kernel_rfl) ?_
  refine XO.go [5, 7, 9, 11] 2 [2,3,14,15] [] [(2, .one (.pv (.rp [[pi p1.kind, pi p1.scale, .ro (eField.els p1.fields)]] 0 0))), (3, .one (.pv (.rp [[pi p2.kind, pi p2.scale, .ro (eField.els p2.fields)]] 0 0))), (14, .ag [ci (2 : Int), ci (0 : Int), .pv (.s (.slice none 0 0))]), (15, .ag [ci (1 : Int), ci (0 : Int), .pv (.s (.slice none 0 0))])] [] [] (by kernel_rfl) trivial ?_
  refine XO.cal 9 [.ag [ci (2 : Int), ci (0 : Int), .pv (.s (.slice none 0 0))], .ag [ci (1 : Int), ci (0 : Int), .pv (.s (.slice none 0 0))]] (.tp [.ag [ci r1.1.kind, ci r1.1.scale, cl eField r1.1.fields], vi r1.2]) [(16, .tp [.ag [ci r1.1.kind, ci r1.1.scale, cl eField r1.1.fields], vi r1.2]), (2, .one (.pv (.rp [[pi p1.kind, pi p1.scale, .ro (eField.els p1.fields)]] 0 0))), (3, .one (.pv (.rp [[pi p2.kind, pi p2.scale, .ro (eField.els p2.fields)]] 0 0))), (14, .ag [ci (2 : Int), ci (0 : Int), .pv (.s (.slice none 0 0))]), (15, .ag [ci (1 : Int), ci (0 : Int), .pv (.s (.slice none 0 0))])] (by kernel_rfl) (PC.le (c_value_Common _ _ _ c4) ⟨ALe.agc ⟨.rfl _, .rfl _, .nl, trivial⟩, ALe.agc ⟨.rfl _, .rfl _, .nl, trivial⟩, trivial⟩) rfl rfl (by kernel_rfl) ?_
  refine XO.go [5, 7, 9, 11] 6 [2,3,6] [] [(2, .one (.pv (.rp [[pi p1.kind, pi p1.scale, .ro (eField.els p1.fields)]] 0 0))), (3, .one (.pv (.rp [[pi p2.kind, pi p2.scale, .ro (eField.els p2.fields)]] 0 0))), (6, vi r1.2)] [.box [ci r1.1.kind, ci r1.1.scale, cl eField r1.1.fields]] [] (by kernel_rfl) trivial ?_
  refine XO.done (by kernel_rfl) ?_
  refine hK3 _ _ ?_
  refine XW.seq (x := cd Try.f3 [1,0,1,0]) (y := cd Try.f3 [1,0,1,1]) (by kernel_rfl) fun K5 hK5 => ?_
  refine XW.reg (by kernel_rfl) ?_
  refine XO.go [5, 7, 9, 11] 2 [2,3,20] [] [(2, .one (.pv (.rp [[pi p1.kind, pi p1.scale, .ro (eField.els p1.fields)]] 0 0))), (3, .one (.pv (.rp [[pi p2.kind, pi p2.scale, .ro (eField.els p2.fields)]] 0 0))), (20, vb (r1.2 != (2 : Int)))] [.box [ci r1.1.kind, ci r1.1.scale, cl eField r1.1.fields]] [] (by kernel_rfl) trivial ?_
  refine XO.done (by kernel_rfl) ?_
  refine hK5 _ _ ?_
  refine XW.cond (x := .tmp 20) (a := cd Try.f3 [1,0,1,1,0]) (b := cd Try.f3 [1,0,1,1,1]) (t := (r1.2 != (2 : Int))) (by kernel_rfl) (by kernel_rfl) (fun b6 => ?_) (fun b6 => ?_)
  · have h := ift_t b6 h
    refine XW.seq (x := cd Try.f3 [1,0,1,1,0,0]) (y := cd Try.f3 [1,0,1,1,0,1]) (by kernel_rfl) fun K7 hK7 => ?_
    refine XW.reg (by kernel_rfl) ?_
    refine XO.go [5, 7, 9, 11] 1 [4] [] [(4, vb false)] [.box [ci r1.1.kind, ci r1.1.scale, cl eField r1.1.fields]] [] (by kernel_rfl) trivial ?_
    refine XO.done (by kernel_rfl) ?_
    refine hK7 _ _ ?_
    refine XW.ret (by kernel_rfl) ?_
    obtain rfl := Option.some.inj h
    exact FinP.fin (.inr rfl) [] [vb false] [] (by kernel_rfl) trivial (.one (.rfl _ rfl))
  · have h := ift_f b6 h
    refine XW.skip (by kernel_rfl) ?_
    refine hK2 _ _ ?_
    refine XW.seq (x := cd Try.f3 [1,1,0]) (y := cd Try.f3 [1,1,1]) (by kernel_rfl) fun K8 hK8 => ?_
    obtain ⟨r2, c9, h⟩ := bnd_some h
    refine XW.reg (by kernel_rfl) ?_
    refine XO.go [5, 7, 9, 11] 2 [2,3,22,23] [[pi p1.kind, pi p1.scale, .ro (eField.els p1.fields)], [pi p2.kind, pi p2.scale, .ro (eField.els p2.fields)]] [(2, .one (.pv (.rp [[pi p1.kind, pi p1.scale, .ro (eField.els p1.fields)]] 0 0))), (3, .one (.pv (.rp [[pi p2.kind, pi p2.scale, .ro (eField.els p2.fields)]] 0 0))), (22, .ag [ci p1.kind, ci p1.scale, cl eField p1.fields]), (23, .ag [ci p2.kind, ci p2.scale, cl eField p2.fields])] [.box [ci r1.1.kind, ci r1.1.scale, cl eField r1.1.fields]] [([[pi p1.kind, pi p1.scale, .ro (eField.els p1.fields)]] : List (List PV))[0]? = some [pi p1.kind, pi p1.scale, .ro (eField.els p1.fields)], ([[pi p2.kind, pi p2.scale, .ro (eField.els p2.fields)]] : List (List PV))[0]? = some [pi p2.kind, pi p2.scale, .ro (eField.els p2.fields)]] (by kernel_rfl) (⟨rfl, rfl, trivial⟩) ?_
    refine XO.cal 9 [.ag [ci p1.kind, ci p1.scale, cl eField p1.fields], .ag [ci p2.kind, ci p2.scale, cl eField p2.fields]] (.tp [.ag [ci r2.1.kind, ci r2.1.scale, cl eField r2.1.fields], vi r2.2]) [(24, .tp [.ag [ci r2.1.kind, ci r2.1.scale, cl eField r2.1.fields], vi r2.2]), (2, .one (.pv (.rp [[pi p1.kind, pi p1.scale, .ro (eField.els p1.fields)]] 0 0))), (3, .one (.pv (.rp [[pi p2.kind, pi p2.scale, .ro (eField.els p2.fields)]] 0 0))), (22, .ag [ci p1.kind, ci p1.scale, cl eField p1.fields]), (23, .ag [ci p2.kind, ci p2.scale, cl eField p2.fields])] (by kernel_rfl) (c_value_Common _ _ _ c9) rfl rfl (by kernel_rfl) ?_
    refine XO.go [5, 7, 9, 11] 6 [2,3,7,8] [] [(2, .one (.pv (.rp [[pi p1.kind, pi p1.scale, .ro (eField.els p1.fields)]] 0 0))), (3, .one (.pv (.rp [[pi p2.kind, pi p2.scale, .ro (eField.els p2.fields)]] 0 0))), (7, .one (.pt 1 0 0 0)), (8, vi r2.2)] [.box [ci r1.1.kind, ci r1.1.scale, cl eField r1.1.fields], .box [ci r2.1.kind, ci r2.1.scale, cl eField r2.1.fields]] [] (by kernel_rfl) trivial ?_
    refine XO.done (by kernel_rfl) ?_
    refine hK8 _ _ ?_
    refine XW.seq (x := cd Try.f3 [1,1,1,0]) (y := cd Try.f3 [1,1,1,1]) (by kernel_rfl) fun K10 hK10 => ?_
    obtain ⟨r3, c11, h⟩ := bnd_some h
    refine XW.reg (by kernel_rfl) ?_
    refine XO.go [5, 7, 9, 11] 2 [2,3,7,8,28,29] [[pi p1.kind, pi p1.scale, .ro (eField.els p1.fields)], [pi p2.kind, pi p2.scale, .ro (eField.els p2.fields)]] [(2, .one (.pv (.rp [[pi p1.kind, pi p1.scale, .ro (eField.els p1.fields)]] 0 0))), (3, .one (.pv (.rp [[pi p2.kind, pi p2.scale, .ro (eField.els p2.fields)]] 0 0))), (7, .one (.pt 1 0 0 0)), (8, vi r2.2), (28, .ag [ci p1.kind, ci p1.scale, cl eField p1.fields]), (29, .ag [ci p2.kind, ci p2.scale, cl eField p2.fields])] [.box [ci r1.1.kind, ci r1.1.scale, cl eField r1.1.fields], .box [ci r2.1.kind, ci r2.1.scale, cl eField r2.1.fields]] [([[pi p1.kind, pi p1.scale, .ro (eField.els p1.fields)]] : List (List PV))[0]? = some [pi p1.kind, pi p1.scale, .ro (eField.els p1.fields)], ([[pi p2.kind, pi p2.scale, .ro (eField.els p2.fields)]] : List (List PV))[0]? = some [pi p2.kind, pi p2.scale, .ro (eField.els p2.fields)]] (by kernel_rfl) (⟨rfl, rfl, trivial⟩) ?_
    refine XO.cal 10 [.ag [ci p1.kind, ci p1.scale, cl eField p1.fields], .ag [ci p2.kind, ci p2.scale, cl eField p2.fields]] (.tp [.ag [ci r3.1.kind, ci r3.1.scale, cl eField r3.1.fields], vi r3.2]) [(30, .tp [.ag [ci r3.1.kind, ci r3.1.scale, cl eField r3.1.fields], vi r3.2]), (2, .one (.pv (.rp [[pi p1.kind, pi p1.scale, .ro (eField.els p1.fields)]] 0 0))), (3, .one (.pv (.rp [[pi p2.kind, pi p2.scale, .ro (eField.els p2.fields)]] 0 0))), (7, .one (.pt 1 0 0 0)), (8, vi r2.2), (28, .ag [ci p1.kind, ci p1.scale, cl eField p1.fields]), (29, .ag [ci p2.kind, ci p2.scale, cl eField p2.fields])] (by kernel_rfl) (c_ref1_Common _ _ _ c11) rfl rfl (by kernel_rfl) ?_
    refine XO.go [5, 7, 9, 11] 6 [2,3,7,8,9,10] [] [(2, .one (.pv (.rp [[pi p1.kind, pi p1.scale, .ro (eField.els p1.fields)]] 0 0))), (3, .one (.pv (.rp [[pi p2.kind, pi p2.scale, .ro (eField.els p2.fields)]] 0 0))), (7, .one (.pt 1 0 0 0)), (8, vi r2.2), (9, .one (.pt 2 0 0 0)), (10, vi r3.2)] [.box [ci r1.1.kind, ci r1.1.scale, cl eField r1.1.fields], .box [ci r2.1.kind, ci r2.1.scale, cl eField r2.1.fields], .box [ci r3.1.kind, ci r3.1.scale, cl eField r3.1.fields]] [] (by kernel_rfl) trivial ?_
    refine XO.done (by kernel_rfl) ?_
    refine hK10 _ _ ?_
    refine XW.seq (x := cd Try.f3 [1,1,1,1,0]) (y := cd Try.f3 [1,1,1,1,1]) (by kernel_rfl) fun K12 hK12 => ?_
    obtain ⟨r4, c13, h⟩ := bnd_some h
    refine XW.reg (by kernel_rfl) ?_
    refine XO.go [5, 7, 9, 11] 2 [2,3,7,8,9,10,34,35] [[pi p2.kind, pi p2.scale, .ro (eField.els p2.fields)], [pi p1.kind, pi p1.scale, .ro (eField.els p1.fields)]] [(2, .one (.pv (.rp [[pi p1.kind, pi p1.scale, .ro (eField.els p1.fields)]] 0 0))), (3, .one (.pv (.rp [[pi p2.kind, pi p2.scale, .ro (eField.els p2.fields)]] 0 0))), (7, .one (.pt 1 0 0 0)), (8, vi r2.2), (9, .one (.pt 2 0 0 0)), (10, vi r3.2), (34, .ag [ci p2.kind, ci p2.scale, cl eField p2.fields]), (35, .ag [ci p1.kind, ci p1.scale, cl eField p1.fields])] [.box [ci r1.1.kind, ci r1.1.scale, cl eField r1.1.fields], .box [ci r2.1.kind, ci r2.1.scale, cl eField r2.1.fields], .box [ci r3.1.kind, ci r3.1.scale, cl eField r3.1.fields]] [([[pi p2.kind, pi p2.scale, .ro (eField.els p2.fields)]] : List (List PV))[0]? = some [pi p2.kind, pi p2.scale, .ro (eField.els p2.fields)], ([[pi p1.kind, pi p1.scale, .ro (eField.els p1.fields)]] : List (List PV))[0]? = some [pi p1.kind, pi p1.scale, .ro (eField.els p1.fields)]] (by kernel_rfl) (⟨rfl, rfl, trivial⟩) ?_
    refine XO.cal 9 [.ag [ci p2.kind, ci p2.scale, cl eField p2.fields], .ag [ci p1.kind, ci p1.scale, cl eField p1.fields]] (.tp [.ag [ci r4.1.kind, ci r4.1.scale, cl eField r4.1.fields], vi r4.2]) [(36, .tp [.ag [ci r4.1.kind, ci r4.1.scale, cl eField r4.1.fields], vi r4.2]), (2, .one (.pv (.rp [[pi p1.kind, pi p1.scale, .ro (eField.els p1.fields)]] 0 0))), (3, .one (.pv (.rp [[pi p2.kind, pi p2.scale, .ro (eField.els p2.fields)]] 0 0))), (7, .one (.pt 1 0 0 0)), (8, vi r2.2), (9, .one (.pt 2 0 0 0)), (10, vi r3.2), (34, .ag [ci p2.kind, ci p2.scale, cl eField p2.fields]), (35, .ag [ci p1.kind, ci p1.scale, cl eField p1.fields])] (by kernel_rfl) (c_value_Common _ _ _ c13) rfl rfl (by kernel_rfl) ?_
    refine XO.go [5, 7, 9, 11] 6 [2,3,7,8,9,10,12] [] [(2, .one (.pv (.rp [[pi p1.kind, pi p1.scale, .ro (eField.els p1.fields)]] 0 0))), (3, .one (.pv (.rp [[pi p2.kind, pi p2.scale, .ro (eField.els p2.fields)]] 0 0))), (7, .one (.pt 1 0 0 0)), (8, vi r2.2), (9, .one (.pt 2 0 0 0)), (10, vi r3.2), (12, vi r4.2)] [.box [ci r1.1.kind, ci r1.1.scale, cl eField r1.1.fields], .box [ci r2.1.kind, ci r2.1.scale, cl eField r2.1.fields], .box [ci r3.1.kind, ci r3.1.scale, cl eField r3.1.fields], .box [ci r4.1.kind, ci r4.1.scale, cl eField r4.1.fields]] [] (by kernel_rfl) trivial ?_
    refine XO.done (by kernel_rfl) ?_
    refine hK12 _ _ ?_
    refine XW.seq (x := cd Try.f3 [1,1,1,1,1,0]) (y := cd Try.f3 [1,1,1,1,1,1]) (by kernel_rfl) fun K14 hK14 => ?_
    refine XW.seq (x := cd Try.f3 [1,1,1,1,1,0,0]) (y := cd Try.f3 [1,1,1,1,1,0,1]) (by kernel_rfl) fun K15 hK15 => ?_
    have hJ1 : ∀ (x1 : Bool), law1_ValueCommonMatchesSpec_j1 p1 p2 r2 r4 x1 = some r → ∀ fr1 st1, Sub 61 0 [] fr1 st1 [(2, .one (.pv (.rp [[pi p1.kind, pi p1.scale, .ro (eField.els p1.fields)]] 0 0))), (3, .one (.pv (.rp [[pi p2.kind, pi p2.scale, .ro (eField.els p2.fields)]] 0 0))), (8, vi r2.2), (12, vi r4.2), (47, vb x1)] [.box [ci r1.1.kind, ci r1.1.scale, cl eField r1.1.fields], .box [ci r2.1.kind, ci r2.1.scale, cl eField r2.1.fields], .box [ci r3.1.kind, ci r3.1.scale, cl eField r3.1.fields], .box [ci r4.1.kind, ci r4.1.scale, cl eField r4.1.fields]] → K15 fr1 st1 := by
      intro x1 h fr1 st1 hS
      unfold law1_ValueCommonMatchesSpec_j1 at h
      refine hK15 _ _ (XW.sub hS ?_)
      refine XW.cond (x := .tmp 47) (a := cd Try.f3 [1,1,1,1,1,0,1,0]) (b := cd Try.f3 [1,1,1,1,1,0,1,1]) (t := x1) (by kernel_rfl) (by kernel_rfl) (fun b18 => ?_) (fun b18 => ?_)
      · have h := ift_t b18 h
        refine XW.seq (x := cd Try.f3 [1,1,1,1,1,0,1,0,0]) (y := cd Try.f3 [1,1,1,1,1,0,1,0,1]) (by kernel_rfl) fun K19 hK19 => ?_
        refine XW.reg (by kernel_rfl) ?_
        refine XO.go [5, 7, 9, 11] 1 [4] [] [(4, vb false)] [.box [ci r1.1.kind, ci r1.1.scale, cl eField r1.1.fields], .box [ci r2.1.kind, ci r2.1.scale, cl eField r2.1.fields], .box [ci r3.1.kind, ci r3.1.scale, cl eField r3.1.fields], .box [ci r4.1.kind, ci r4.1.scale, cl eField r4.1.fields]] [] (by kernel_rfl) trivial ?_
        refine XO.done (by kernel_rfl) ?_
        refine hK19 _ _ ?_
        refine XW.ret (by kernel_rfl) ?_
        obtain rfl := Option.some.inj h
        exact FinP.fin (.inr rfl) [] [vb false] [] (by kernel_rfl) trivial (.one (.rfl _ rfl))
      · have h := ift_f b18 h
        refine XW.skip (by kernel_rfl) ?_
        refine hK14 _ _ ?_
        refine XW.seq (x := cd Try.f3 [1,1,1,1,1,1,0]) (y := cd Try.f3 [1,1,1,1,1,1,1]) (by kernel_rfl) fun K20 hK20 => ?_
        have hJ2 : ∀ (x2 : Bool), law1_ValueCommonMatchesSpec_j2 x2 = some r → ∀ fr1 st1, Sub 61 0 [] fr1 st1 [(4, vb x2)] [.box [ci r1.1.kind, ci r1.1.scale, cl eField r1.1.fields], .box [ci r2.1.kind, ci r2.1.scale, cl eField r2.1.fields], .box [ci r3.1.kind, ci r3.1.scale, cl eField r3.1.fields], .box [ci r4.1.kind, ci r4.1.scale, cl eField r4.1.fields]] → K20 fr1 st1 := by
          intro x2 h fr1 st1 hS
          unfold law1_ValueCommonMatchesSpec_j2 at h
          refine hK20 _ _ (XW.sub hS ?_)
          refine XW.ret (by kernel_rfl) ?_
          obtain rfl := Option.some.inj h
          exact FinP.fin (.inr rfl) [] [vb x2] [] (by kernel_rfl) trivial (.one (.rfl _ rfl))
        obtain ⟨r6, c21, h⟩ := bnd_some h
        rcases Bool.eq_false_or_eq_true (r6 != (0 : Int)) with b22 | b22
        · have h := ift_t b22 h
          refine XW.reg (by kernel_rfl) ?_
          refine XO.go [5, 7, 9, 11] 1 [3,8,12,48] [[pi p1.kind, pi p1.scale, .ro (eField.els p1.fields)]] [(3, .one (.pv (.rp [[pi p2.kind, pi p2.scale, .ro (eField.els p2.fields)]] 0 0))), (8, vi r2.2), (12, vi r4.2), (48, .ag [ci p1.kind, ci p1.scale, cl eField p1.fields])] [.box [ci r1.1.kind, ci r1.1.scale, cl eField r1.1.fields], .box [ci r2.1.kind, ci r2.1.scale, cl eField r2.1.fields], .box [ci r3.1.kind, ci r3.1.scale, cl eField r3.1.fields], .box [ci r4.1.kind, ci r4.1.scale, cl eField r4.1.fields]] [([[pi p1.kind, pi p1.scale, .ro (eField.els p1.fields)]] : List (List PV))[0]? = some [pi p1.kind, pi p1.scale, .ro (eField.els p1.fields)]] (by kernel_rfl) (⟨rfl, trivial⟩) ?_
          refine XO.cal 12 [.ag [ci p1.kind, ci p1.scale, cl eField p1.fields]] (vi r6) [(49, vi r6), (3, .one (.pv (.rp [[pi p2.kind, pi p2.scale, .ro (eField.els p2.fields)]] 0 0))), (8, vi r2.2), (12, vi r4.2), (48, .ag [ci p1.kind, ci p1.scale, cl eField p1.fields])] (by kernel_rfl) (c_ref1_CheckType _ _ c21) rfl rfl (by kernel_rfl) ?_
          refine XO.go [5, 7, 9, 11] 2 [3,8,12,51] [] [(3, .one (.pv (.rp [[pi p2.kind, pi p2.scale, .ro (eField.els p2.fields)]] 0 0))), (8, vi r2.2), (12, vi r4.2), (51, vb (r6 != (0 : Int)))] [.box [ci r1.1.kind, ci r1.1.scale, cl eField r1.1.fields], .box [ci r2.1.kind, ci r2.1.scale, cl eField r2.1.fields], .box [ci r3.1.kind, ci r3.1.scale, cl eField r3.1.fields], .box [ci r4.1.kind, ci r4.1.scale, cl eField r4.1.fields]] [] (by kernel_rfl) trivial ?_
          refine XO.setb 51 true (B := (r6 != (0 : Int))) rfl b22 ?_
          refine XO.go [5, 7, 9, 11] 10 [4] [] [(4, vb true)] [.box [ci r1.1.kind, ci r1.1.scale, cl eField r1.1.fields], .box [ci r2.1.kind, ci r2.1.scale, cl eField r2.1.fields], .box [ci r3.1.kind, ci r3.1.scale, cl eField r3.1.fields], .box [ci r4.1.kind, ci r4.1.scale, cl eField r4.1.fields]] [] (by kernel_rfl) trivial ?_
          refine XO.done (by kernel_rfl) ?_
          exact hJ2 true h _ _ (Sub.pick [4] (by kernel_rfl))
        · have h := ift_f b22 h
          obtain ⟨r7, c23, h⟩ := bnd_some h
          rcases Bool.eq_false_or_eq_true (r7 != (0 : Int)) with b24 | b24
          · have h := ift_t b24 h
            refine XW.reg (by kernel_rfl) ?_
            refine XO.go [5, 7, 9, 11] 1 [3,8,12,48] [[pi p1.kind, pi p1.scale, .ro (eField.els p1.fields)]] [(3, .one (.pv (.rp [[pi p2.kind, pi p2.scale, .ro (eField.els p2.fields)]] 0 0))), (8, vi r2.2), (12, vi r4.2), (48, .ag [ci p1.kind, ci p1.scale, cl eField p1.fields])] [.box [ci r1.1.kind, ci r1.1.scale, cl eField r1.1.fields], .box [ci r2.1.kind, ci r2.1.scale, cl eField r2.1.fields], .box [ci r3.1.kind, ci r3.1.scale, cl eField r3.1.fields], .box [ci r4.1.kind, ci r4.1.scale, cl eField r4.1.fields]] [([[pi p1.kind, pi p1.scale, .ro (eField.els p1.fields)]] : List (List PV))[0]? = some [pi p1.kind, pi p1.scale, .ro (eField.els p1.fields)]] (by kernel_rfl) (⟨rfl, trivial⟩) ?_
            refine XO.cal 12 [.ag [ci p1.kind, ci p1.scale, cl eField p1.fields]] (vi r6) [(49, vi r6), (3, .one (.pv (.rp [[pi p2.kind, pi p2.scale, .ro (eField.els p2.fields)]] 0 0))), (8, vi r2.2), (12, vi r4.2), (48, .ag [ci p1.kind, ci p1.scale, cl eField p1.fields])] (by kernel_rfl) (c_ref1_CheckType _ _ c21) rfl rfl (by kernel_rfl) ?_
            refine XO.go [5, 7, 9, 11] 2 [3,8,12,51] [] [(3, .one (.pv (.rp [[pi p2.kind, pi p2.scale, .ro (eField.els p2.fields)]] 0 0))), (8, vi r2.2), (12, vi r4.2), (51, vb (r6 != (0 : Int)))] [.box [ci r1.1.kind, ci r1.1.scale, cl eField r1.1.fields], .box [ci r2.1.kind, ci r2.1.scale, cl eField r2.1.fields], .box [ci r3.1.kind, ci r3.1.scale, cl eField r3.1.fields], .box [ci r4.1.kind, ci r4.1.scale, cl eField r4.1.fields]] [] (by kernel_rfl) trivial ?_
            refine XO.setb 51 false (B := (r6 != (0 : Int))) rfl b22 ?_
            refine XO.go [5, 7, 9, 11] 1 [8,12,51,52] [[pi p2.kind, pi p2.scale, .ro (eField.els p2.fields)]] [(8, vi r2.2), (12, vi r4.2), (51, vb false), (52, .ag [ci p2.kind, ci p2.scale, cl eField p2.fields])] [.box [ci r1.1.kind, ci r1.1.scale, cl eField r1.1.fields], .box [ci r2.1.kind, ci r2.1.scale, cl eField r2.1.fields], .box [ci r3.1.kind, ci r3.1.scale, cl eField r3.1.fields], .box [ci r4.1.kind, ci r4.1.scale, cl eField r4.1.fields]] [([[pi p2.kind, pi p2.scale, .ro (eField.els p2.fields)]] : List (List PV))[0]? = some [pi p2.kind, pi p2.scale, .ro (eField.els p2.fields)]] (by kernel_rfl) (⟨rfl, trivial⟩) ?_
            refine XO.cal 12 [.ag [ci p2.kind, ci p2.scale, cl eField p2.fields]] (vi r7) [(53, vi r7), (8, vi r2.2), (12, vi r4.2), (51, vb false), (52, .ag [ci p2.kind, ci p2.scale, cl eField p2.fields])] (by kernel_rfl) (c_ref1_CheckType _ _ c23) rfl rfl (by kernel_rfl) ?_
            refine XO.go [5, 7, 9, 11] 3 [8,12,56] [] [(8, vi r2.2), (12, vi r4.2), (56, vb (r7 != (0 : Int)))] [.box [ci r1.1.kind, ci r1.1.scale, cl eField r1.1.fields], .box [ci r2.1.kind, ci r2.1.scale, cl eField r2.1.fields], .box [ci r3.1.kind, ci r3.1.scale, cl eField r3.1.fields], .box [ci r4.1.kind, ci r4.1.scale, cl eField r4.1.fields]] [] (by kernel_rfl) trivial ?_
            refine XO.setb 56 true (B := (r7 != (0 : Int))) rfl b24 ?_
            refine XO.go [5, 7, 9, 11] 5 [4] [] [(4, vb true)] [.box [ci r1.1.kind, ci r1.1.scale, cl eField r1.1.fields], .box [ci r2.1.kind, ci r2.1.scale, cl eField r2.1.fields], .box [ci r3.1.kind, ci r3.1.scale, cl eField r3.1.fields], .box [ci r4.1.kind, ci r4.1.scale, cl eField r4.1.fields]] [] (by kernel_rfl) trivial ?_
            refine XO.done (by kernel_rfl) ?_
            exact hJ2 true h _ _ (Sub.pick [4] (by kernel_rfl))
          · have h := ift_f b24 h
            refine XW.reg (by kernel_rfl) ?_
            refine XO.go [5, 7, 9, 11] 1 [3,8,12,48] [[pi p1.kind, pi p1.scale, .ro (eField.els p1.fields)]] [(3, .one (.pv (.rp [[pi p2.kind, pi p2.scale, .ro (eField.els p2.fields)]] 0 0))), (8, vi r2.2), (12, vi r4.2), (48, .ag [ci p1.kind, ci p1.scale, cl eField p1.fields])] [.box [ci r1.1.kind, ci r1.1.scale, cl eField r1.1.fields], .box [ci r2.1.kind, ci r2.1.scale, cl eField r2.1.fields], .box [ci r3.1.kind, ci r3.1.scale, cl eField r3.1.fields], .box [ci r4.1.kind, ci r4.1.scale, cl eField r4.1.fields]] [([[pi p1.kind, pi p1.scale, .ro (eField.els p1.fields)]] : List (List PV))[0]? = some [pi p1.kind, pi p1.scale, .ro (eField.els p1.fields)]] (by kernel_rfl) (⟨rfl, trivial⟩) ?_
            refine XO.cal 12 [.ag [ci p1.kind, ci p1.scale, cl eField p1.fields]] (vi r6) [(49, vi r6), (3, .one (.pv (.rp [[pi p2.kind, pi p2.scale, .ro (eField.els p2.fields)]] 0 0))), (8, vi r2.2), (12, vi r4.2), (48, .ag [ci p1.kind, ci p1.scale, cl eField p1.fields])] (by kernel_rfl) (c_ref1_CheckType _ _ c21) rfl rfl (by kernel_rfl) ?_
            refine XO.go [5, 7, 9, 11] 2 [3,8,12,51] [] [(3, .one (.pv (.rp [[pi p2.kind, pi p2.scale, .ro (eField.els p2.fields)]] 0 0))), (8, vi r2.2), (12, vi r4.2), (51, vb (r6 != (0 : Int)))] [.box [ci r1.1.kind, ci r1.1.scale, cl eField r1.1.fields], .box [ci r2.1.kind, ci r2.1.scale, cl eField r2.1.fields], .box [ci r3.1.kind, ci r3.1.scale, cl eField r3.1.fields], .box [ci r4.1.kind, ci r4.1.scale, cl eField r4.1.fields]] [] (by kernel_rfl) trivial ?_
            refine XO.setb 51 false (B := (r6 != (0 : Int))) rfl b22 ?_
            refine XO.go [5, 7, 9, 11] 1 [8,12,51,52] [[pi p2.kind, pi p2.scale, .ro (eField.els p2.fields)]] [(8, vi r2.2), (12, vi r4.2), (51, vb false), (52, .ag [ci p2.kind, ci p2.scale, cl eField p2.fields])] [.box [ci r1.1.kind, ci r1.1.scale, cl eField r1.1.fields], .box [ci r2.1.kind, ci r2.1.scale, cl eField r2.1.fields], .box [ci r3.1.kind, ci r3.1.scale, cl eField r3.1.fields], .box [ci r4.1.kind, ci r4.1.scale, cl eField r4.1.fields]] [([[pi p2.kind, pi p2.scale, .ro (eField.els p2.fields)]] : List (List PV))[0]? = some [pi p2.kind, pi p2.scale, .ro (eField.els p2.fields)]] (by kernel_rfl) (⟨rfl, trivial⟩) ?_
            refine XO.cal 12 [.ag [ci p2.kind, ci p2.scale, cl eField p2.fields]] (vi r7) [(53, vi r7), (8, vi r2.2), (12, vi r4.2), (51, vb false), (52, .ag [ci p2.kind, ci p2.scale, cl eField p2.fields])] (by kernel_rfl) (c_ref1_CheckType _ _ c23) rfl rfl (by kernel_rfl) ?_
            refine XO.go [5, 7, 9, 11] 3 [8,12,56] [] [(8, vi r2.2), (12, vi r4.2), (56, vb (r7 != (0 : Int)))] [.box [ci r1.1.kind, ci r1.1.scale, cl eField r1.1.fields], .box [ci r2.1.kind, ci r2.1.scale, cl eField r2.1.fields], .box [ci r3.1.kind, ci r3.1.scale, cl eField r3.1.fields], .box [ci r4.1.kind, ci r4.1.scale, cl eField r4.1.fields]] [] (by kernel_rfl) trivial ?_
            refine XO.setb 56 false (B := (r7 != (0 : Int))) rfl b24 ?_
            refine XO.go [5, 7, 9, 11] 5 [4] [] [(4, vb (r4.2 == r2.2))] [.box [ci r1.1.kind, ci r1.1.scale, cl eField r1.1.fields], .box [ci r2.1.kind, ci r2.1.scale, cl eField r2.1.fields], .box [ci r3.1.kind, ci r3.1.scale, cl eField r3.1.fields], .box [ci r4.1.kind, ci r4.1.scale, cl eField r4.1.fields]] [] (by kernel_rfl) trivial ?_
            refine XO.done (by kernel_rfl) ?_
            exact hJ2 (r4.2 == r2.2) h _ _ (Sub.pick [4] (by kernel_rfl))
    rcases Bool.eq_false_or_eq_true (r2.2 != r3.2) with b16 | b16
    · have h := ift_t b16 h
      refine XW.reg (by kernel_rfl) ?_
      refine XO.go [5, 7, 9, 11] 4 [2,3,7,8,9,12,42] [] [(2, .one (.pv (.rp [[pi p1.kind, pi p1.scale, .ro (eField.els p1.fields)]] 0 0))), (3, .one (.pv (.rp [[pi p2.kind, pi p2.scale, .ro (eField.els p2.fields)]] 0 0))), (7, .one (.pt 1 0 0 0)), (8, vi r2.2), (9, .one (.pt 2 0 0 0)), (12, vi r4.2), (42, vb (r2.2 != r3.2))] [.box [ci r1.1.kind, ci r1.1.scale, cl eField r1.1.fields], .box [ci r2.1.kind, ci r2.1.scale, cl eField r2.1.fields], .box [ci r3.1.kind, ci r3.1.scale, cl eField r3.1.fields], .box [ci r4.1.kind, ci r4.1.scale, cl eField r4.1.fields]] [] (by kernel_rfl) trivial ?_
      refine XO.setb 42 true (B := (r2.2 != r3.2)) rfl b16 ?_
      refine XO.go [5, 7, 9, 11] 5 [2,3,8,12,47] [] [(2, .one (.pv (.rp [[pi p1.kind, pi p1.scale, .ro (eField.els p1.fields)]] 0 0))), (3, .one (.pv (.rp [[pi p2.kind, pi p2.scale, .ro (eField.els p2.fields)]] 0 0))), (8, vi r2.2), (12, vi r4.2), (47, vb true)] [.box [ci r1.1.kind, ci r1.1.scale, cl eField r1.1.fields], .box [ci r2.1.kind, ci r2.1.scale, cl eField r2.1.fields], .box [ci r3.1.kind, ci r3.1.scale, cl eField r3.1.fields], .box [ci r4.1.kind, ci r4.1.scale, cl eField r4.1.fields]] [] (by kernel_rfl) trivial ?_
      refine XO.done (by kernel_rfl) ?_
      exact hJ1 true h _ _ (Sub.pick [2,3,8,12,47] (by kernel_rfl))
    · have h := ift_f b16 h
      obtain ⟨r5, c17, h⟩ := bnd_some h
      refine XW.reg (by kernel_rfl) ?_
      refine XO.go [5, 7, 9, 11] 4 [2,3,7,8,9,12,42] [] [(2, .one (.pv (.rp [[pi p1.kind, pi p1.scale, .ro (eField.els p1.fields)]] 0 0))), (3, .one (.pv (.rp [[pi p2.kind, pi p2.scale, .ro (eField.els p2.fields)]] 0 0))), (7, .one (.pt 1 0 0 0)), (8, vi r2.2), (9, .one (.pt 2 0 0 0)), (12, vi r4.2), (42, vb (r2.2 != r3.2))] [.box [ci r1.1.kind, ci r1.1.scale, cl eField r1.1.fields], .box [ci r2.1.kind, ci r2.1.scale, cl eField r2.1.fields], .box [ci r3.1.kind, ci r3.1.scale, cl eField r3.1.fields], .box [ci r4.1.kind, ci r4.1.scale, cl eField r4.1.fields]] [] (by kernel_rfl) trivial ?_
      refine XO.setb 42 false (B := (r2.2 != r3.2)) rfl b16 ?_
      refine XO.go [5, 7, 9, 11] 2 [2,3,8,12,42,43,44] [] [(2, .one (.pv (.rp [[pi p1.kind, pi p1.scale, .ro (eField.els p1.fields)]] 0 0))), (3, .one (.pv (.rp [[pi p2.kind, pi p2.scale, .ro (eField.els p2.fields)]] 0 0))), (8, vi r2.2), (12, vi r4.2), (42, vb false), (43, .ag [ci r2.1.kind, ci r2.1.scale, cl eField r2.1.fields]), (44, .ag [ci r3.1.kind, ci r3.1.scale, cl eField r3.1.fields])] [.box [ci r1.1.kind, ci r1.1.scale, cl eField r1.1.fields], .box [ci r2.1.kind, ci r2.1.scale, cl eField r2.1.fields], .box [ci r3.1.kind, ci r3.1.scale, cl eField r3.1.fields], .box [ci r4.1.kind, ci r4.1.scale, cl eField r4.1.fields]] [] (by kernel_rfl) trivial ?_
      refine XO.cal 11 [.ag [ci r2.1.kind, ci r2.1.scale, cl eField r2.1.fields], .ag [ci r3.1.kind, ci r3.1.scale, cl eField r3.1.fields]] (vb r5) [(45, vb r5), (2, .one (.pv (.rp [[pi p1.kind, pi p1.scale, .ro (eField.els p1.fields)]] 0 0))), (3, .one (.pv (.rp [[pi p2.kind, pi p2.scale, .ro (eField.els p2.fields)]] 0 0))), (8, vi r2.2), (12, vi r4.2), (42, vb false), (43, .ag [ci r2.1.kind, ci r2.1.scale, cl eField r2.1.fields]), (44, .ag [ci r3.1.kind, ci r3.1.scale, cl eField r3.1.fields])] (by kernel_rfl) (c_law1_sameType BIG _ _ _ c17) rfl rfl (by kernel_rfl) ?_
      refine XO.go [5, 7, 9, 11] 2 [2,3,8,12,47] [] [(2, .one (.pv (.rp [[pi p1.kind, pi p1.scale, .ro (eField.els p1.fields)]] 0 0))), (3, .one (.pv (.rp [[pi p2.kind, pi p2.scale, .ro (eField.els p2.fields)]] 0 0))), (8, vi r2.2), (12, vi r4.2), (47, vb (!r5))] [.box [ci r1.1.kind, ci r1.1.scale, cl eField r1.1.fields], .box [ci r2.1.kind, ci r2.1.scale, cl eField r2.1.fields], .box [ci r3.1.kind, ci r3.1.scale, cl eField r3.1.fields], .box [ci r4.1.kind, ci r4.1.scale, cl eField r4.1.fields]] [] (by kernel_rfl) trivial ?_
      refine XO.done (by kernel_rfl) ?_
      exact hJ1 (!r5) h _ _ (Sub.pick [2,3,8,12,47] (by kernel_rfl))

def value_CheckSchema_1 (p1 : GField) (p2 : (List (Int × Int))) : Option (Int × (List (Int × Int))) :=
    ift (decide (p1.id < (1 : Int)))
      (some ((3 : Int), p2))
      (bnd (some (IntKind.i64.wrap (((mget (kInt .i64) p2 p1.id).getD (0 : Int)) + (1 : Int)))) fun y1 =>
       bnd (some (decide ((1 : Int) < ((mget (kInt .i64) (mset (kInt .i64) p2 p1.id y1) p1.id).getD (0 : Int))))) fun y2 =>
       ift y2
         (some ((5 : Int), (mset (kInt .i64) p2 p1.id y1)))
         (some ((0 : Int), (mset (kInt .i64) p2 p1.id y1))))


theorem c_value_CheckSchema_1 (p1 : GField) (p2 : (List (Int × Int))) (r : (Int × (List (Int × Int)))) (h : value_CheckSchema_1 p1 p2 = some r) : MC Try.prog 37 [.ag [ci p1.id, cst p1.name, cb p1.need, ci p1.type.kind, ci p1.type.scale, cl eField p1.type.fields], .one (.pt 0 0 0 0)] [.box [.mp 1], .raw (mapObj (kInt .i64) (eInt .i64) p2)] (vi r.1) [.box [.mp 1], .raw (mapObj (kInt .i64) (eInt .i64) r.2)] := by
  unfold value_CheckSchema_1 at h
  refine MC.of 2 (n := 17) (fn := Try.f37) (c := cd Try.f37 []) (by kernel_rfl) (by kernel_rfl) (by kernel_rfl) (Nat.le_of_ble_eq_true rfl) rfl ?_
  refine XW.seq (x := cd Try.f37 [0]) (y := cd Try.f37 [1]) (by kernel_rfl) fun K1 hK1 => ?_
  refine XW.reg (by kernel_rfl) ?_
  refine XO.go [] 2 [1,2] [] [(1, .one (.pt 0 0 0 0)), (2, .one (.pv (.rp [[pi p1.id, .s (.string p1.name), .s (.bool p1.need), pi p1.type.kind, pi p1.type.scale, .ro (eField.els p1.type.fields)]] 0 0)))] [.box [.mp 1], .raw (mapObj (kInt .i64) (eInt .i64) p2)] [] (by kernel_rfl) trivial ?_
  refine XO.done (by kernel_rfl) ?_
  refine hK1 _ _ ?_
  refine XW.seq (x := cd Try.f37 [1,0]) (y := cd Try.f37 [1,1]) (by kernel_rfl) fun K2 hK2 => ?_
  refine XW.seq (x := cd Try.f37 [1,0,0]) (y := cd Try.f37 [1,0,1]) (by kernel_rfl) fun K3 hK3 => ?_
  refine XW.reg (by kernel_rfl) ?_
  refine XO.go [] 3 [1,2,6] [[pi p1.id, .s (.string p1.name), .s (.bool p1.need), pi p1.type.kind, pi p1.type.scale, .ro (eField.els p1.type.fields)]] [(1, .one (.pt 0 0 0 0)), (2, .one (.pv (.rp [[pi p1.id, .s (.string p1.name), .s (.bool p1.need), pi p1.type.kind, pi p1.type.scale, .ro (eField.els p1.type.fields)]] 0 0))), (6, vb (decide (p1.id < (1 : Int))))] [.box [.mp 1], .raw (mapObj (kInt .i64) (eInt .i64) p2)] [([[pi p1.id, .s (.string p1.name), .s (.bool p1.need), pi p1.type.kind, pi p1.type.scale, .ro (eField.els p1.type.fields)]] : List (List PV))[0]? = some [pi p1.id, .s (.string p1.name), .s (.bool p1.need), pi p1.type.kind, pi p1.type.scale, .ro (eField.els p1.type.fields)]] (by kernel_rfl) (⟨rfl, trivial⟩) ?_
  refine XO.done (by kernel_rfl) ?_
  refine hK3 _ _ ?_
  refine XW.cond (x := .tmp 6) (a := cd Try.f37 [1,0,1,0]) (b := cd Try.f37 [1,0,1,1]) (t := (decide (p1.id < (1 : Int)))) (by kernel_rfl) (by kernel_rfl) (fun b4 => ?_) (fun b4 => ?_)
  · have h := ift_t b4 h
    refine XW.seq (x := cd Try.f37 [1,0,1,0,0]) (y := cd Try.f37 [1,0,1,0,1]) (by kernel_rfl) fun K5 hK5 => ?_
    refine XW.reg (by kernel_rfl) ?_
    refine XO.go [] 1 [3] [] [(3, vi (3 : Int))] [.box [.mp 1], .raw (mapObj (kInt .i64) (eInt .i64) p2)] [] (by kernel_rfl) trivial ?_
    refine XO.done (by kernel_rfl) ?_
    refine hK5 _ _ ?_
    refine XW.ret (by kernel_rfl) ?_
    obtain rfl := Option.some.inj h
    exact FinM.fin (.inr rfl) [] [vi (3 : Int)] [] (by kernel_rfl) trivial (by kernel_rfl) (by kernel_rfl) (.one (.rfl _ rfl))
  · have h := ift_f b4 h
    refine XW.skip (by kernel_rfl) ?_
    refine hK2 _ _ ?_
    refine XW.seq (x := cd Try.f37 [1,1,0]) (y := cd Try.f37 [1,1,1]) (by kernel_rfl) fun K6 hK6 => ?_
    refine XW.seq (x := cd Try.f37 [1,1,0,0]) (y := cd Try.f37 [1,1,0,1]) (by kernel_rfl) fun K7 hK7 => ?_
    obtain ⟨y1, hy8, h⟩ := bnd_some h
    refine XW.reg (by kernel_rfl) ?_
    refine XO.go [] 3 [1,2,7,9] [[pi p1.id, .s (.string p1.name), .s (.bool p1.need), pi p1.type.kind, pi p1.type.scale, .ro (eField.els p1.type.fields)]] [(1, .one (.pt 0 0 0 0)), (2, .one (.pv (.rp [[pi p1.id, .s (.string p1.name), .s (.bool p1.need), pi p1.type.kind, pi p1.type.scale, .ro (eField.els p1.type.fields)]] 0 0))), (7, .one (.mp 1)), (9, vi p1.id)] [.box [.mp 1], .raw (mapObj (kInt .i64) (eInt .i64) p2)] [([[pi p1.id, .s (.string p1.name), .s (.bool p1.need), pi p1.type.kind, pi p1.type.scale, .ro (eField.els p1.type.fields)]] : List (List PV))[0]? = some [pi p1.id, .s (.string p1.name), .s (.bool p1.need), pi p1.type.kind, pi p1.type.scale, .ro (eField.els p1.type.fields)]] (by kernel_rfl) (⟨rfl, trivial⟩) ?_
    refine XO.look (kInt .i64) (eInt .i64) 1 p2 p1.id (0 : Int) 3 3 [(10, vi ((mget (kInt .i64) p2 p1.id).getD (0 : Int))), (1, .one (.pt 0 0 0 0)), (2, .one (.pv (.rp [[pi p1.id, .s (.string p1.name), .s (.bool p1.need), pi p1.type.kind, pi p1.type.scale, .ro (eField.els p1.type.fields)]] 0 0))), (7, .one (.mp 1)), (9, vi p1.id)] (by kernel_rfl) (by kernel_rfl) (by kernel_rfl) (by kernel_rfl) (by kernel_rfl) ?_
    refine XO.go [] 1 [1,2,7,9,11] [] [(1, .one (.pt 0 0 0 0)), (2, .one (.pv (.rp [[pi p1.id, .s (.string p1.name), .s (.bool p1.need), pi p1.type.kind, pi p1.type.scale, .ro (eField.els p1.type.fields)]] 0 0))), (7, .one (.mp 1)), (9, vi p1.id), (11, vi (IntKind.i64.wrap (((mget (kInt .i64) p2 p1.id).getD (0 : Int)) + (1 : Int))))] [.box [.mp 1], .raw (mapObj (kInt .i64) (eInt .i64) p2)] [] (by kernel_rfl) trivial ?_
    rw [show (IntKind.i64.wrap (((mget (kInt .i64) p2 p1.id).getD (0 : Int)) + (1 : Int))) = y1 from Option.some.inj hy8]
    refine XO.mupd (kInt .i64) (eInt .i64) 1 p2 p1.id y1 3 [.box [.mp 1], .raw (mapObj (kInt .i64) (eInt .i64) (mset (kInt .i64) p2 p1.id y1))] (by kernel_rfl) (by kernel_rfl) (by kernel_rfl) (by kernel_rfl) ?_
    refine XO.done (by kernel_rfl) ?_
    refine hK7 _ _ ?_
    refine XW.seq (x := cd Try.f37 [1,1,0,1,0]) (y := cd Try.f37 [1,1,0,1,1]) (by kernel_rfl) fun K9 hK9 => ?_
    obtain ⟨y2, hy10, h⟩ := bnd_some h
    refine XW.reg (by kernel_rfl) ?_
    refine XO.go [] 3 [12,14] [[pi p1.id, .s (.string p1.name), .s (.bool p1.need), pi p1.type.kind, pi p1.type.scale, .ro (eField.els p1.type.fields)]] [(12, .one (.mp 1)), (14, vi p1.id)] [.box [.mp 1], .raw (mapObj (kInt .i64) (eInt .i64) (mset (kInt .i64) p2 p1.id y1))] [([[pi p1.id, .s (.string p1.name), .s (.bool p1.need), pi p1.type.kind, pi p1.type.scale, .ro (eField.els p1.type.fields)]] : List (List PV))[0]? = some [pi p1.id, .s (.string p1.name), .s (.bool p1.need), pi p1.type.kind, pi p1.type.scale, .ro (eField.els p1.type.fields)]] (by kernel_rfl) (⟨rfl, trivial⟩) ?_
    refine XO.look (kInt .i64) (eInt .i64) 1 (mset (kInt .i64) p2 p1.id y1) p1.id (0 : Int) 3 3 [(15, vi ((mget (kInt .i64) (mset (kInt .i64) p2 p1.id y1) p1.id).getD (0 : Int))), (12, .one (.mp 1)), (14, vi p1.id)] (by kernel_rfl) (by kernel_rfl) (by kernel_rfl) (by kernel_rfl) (by kernel_rfl) ?_
    refine XO.go [] 1 [16] [] [(16, vb (decide ((1 : Int) < ((mget (kInt .i64) (mset (kInt .i64) p2 p1.id y1) p1.id).getD (0 : Int)))))] [.box [.mp 1], .raw (mapObj (kInt .i64) (eInt .i64) (mset (kInt .i64) p2 p1.id y1))] [] (by kernel_rfl) trivial ?_
    rw [show (decide ((1 : Int) < ((mget (kInt .i64) (mset (kInt .i64) p2 p1.id y1) p1.id).getD (0 : Int)))) = y2 from Option.some.inj hy10]
    refine XO.done (by kernel_rfl) ?_
    refine hK9 _ _ ?_
    refine XW.cond (x := .tmp 16) (a := cd Try.f37 [1,1,0,1,1,0]) (b := cd Try.f37 [1,1,0,1,1,1]) (t := y2) (by kernel_rfl) (by kernel_rfl) (fun b11 => ?_) (fun b11 => ?_)
    · have h := ift_t b11 h
      refine XW.seq (x := cd Try.f37 [1,1,0,1,1,0,0]) (y := cd Try.f37 [1,1,0,1,1,0,1]) (by kernel_rfl) fun K12 hK12 => ?_
      refine XW.reg (by kernel_rfl) ?_
      refine XO.go [] 1 [3] [] [(3, vi (5 : Int))] [.box [.mp 1], .raw (mapObj (kInt .i64) (eInt .i64) (mset (kInt .i64) p2 p1.id y1))] [] (by kernel_rfl) trivial ?_
      refine XO.done (by kernel_rfl) ?_
      refine hK12 _ _ ?_
      refine XW.ret (by kernel_rfl) ?_
      obtain rfl := Option.some.inj h
      exact FinM.fin (.inr rfl) [] [vi (5 : Int)] [] (by kernel_rfl) trivial (by kernel_rfl) (by kernel_rfl) (.one (.rfl _ rfl))
    · have h := ift_f b11 h
      refine XW.skip (by kernel_rfl) ?_
      refine hK6 _ _ ?_
      refine XW.seq (x := cd Try.f37 [1,1,1,0]) (y := cd Try.f37 [1,1,1,1]) (by kernel_rfl) fun K13 hK13 => ?_
      refine XW.reg (by kernel_rfl) ?_
      refine XO.go [] 1 [3] [] [(3, vi (0 : Int))] [.box [.mp 1], .raw (mapObj (kInt .i64) (eInt .i64) (mset (kInt .i64) p2 p1.id y1))] [] (by kernel_rfl) trivial ?_
      refine XO.done (by kernel_rfl) ?_
      refine hK13 _ _ ?_
      refine XW.ret (by kernel_rfl) ?_
      obtain rfl := Option.some.inj h
      exact FinM.fin (.inr rfl) [] [vi (0 : Int)] [] (by kernel_rfl) trivial (by kernel_rfl) (by kernel_rfl) (.one (.rfl _ rfl))


end Go.Proofs.Ytdkmclmdemngfaa
